/- The bits of a stream: steps, take, TakeBits, and the law. -/
import Derived.Test.YtgipnbeipfhekaaGreatDoorMgFnT02
import Derived.Laws.IdiomStrings
import Derived.Lib.BufferRead
import Derived.Test.YtgipnbeipfhekaaGreatDoorMgFnT01
namespace Go.Proofs.YtgipnbeipfhekaaGreatDoor.Take
open Go.RowKit Go.Proofs.YtgipnbeipfhekaaGreatDoor Go.Proofs.YtgipnbeipfhekaaGreatDoor.Base Go.Proofs.YtgipnbeipfhekaaGreatDoor.Mem Go.Proofs.YtgipnbeipfhekaaGreatDoor.Reg Go.Proofs.YtgipnbeipfhekaaGreatDoor.Bld Go.Proofs.YtgipnbeipfhekaaGreatDoor.Str Go.Proofs.YtgipnbeipfhekaaGreatDoor.RBits
set_option linter.unusedVariables false
def cbit (m f a x : Nat) : Nat := if m ≤ 2 * Cong.stepN m f a x then 1 else 0
theorem cbit_lt (m f a x : Nat) : cbit m f a x < 2 := by unfold cbit; split <;> omega
def StepRet (K W T m f a : Int) (nx bt x : Nat) (w : World) (e : Ending) (w' : World) : Prop := e = .returned (.tuple #[.agg #[.int .i64 K, .int .i64 W, .int .i64 T, .int .i64 m, .int .i64 f, .int .i64 a, .int .i64 (nx : Int)], .int .i64 (bt : Int)]) ∧ Below w.heap.size w w'
set_option maxHeartbeats 1000000 in
theorem l11Step_reg (W T x : Nat) (m f a : Int) (w : World) (hW : W ≤ 16) (hT : T < 2 ^ W) (hx : x < 2 ^ W) :
  Calls Tryz.prog 126 #[.agg #[.int .i64 0, .int .i64 W, .int .i64 T, .int .i64 m, .int .i64 f, .int .i64 a, .int .i64 x]] w (StepRet 0 W T m f a (nextR W T x) (x % 2) x w) := by
 generalize hn : nextR W T x = nx
 generalize hb : x % 2 = bt
 have HS : Hid (∀ (b : Nat) (w : World), w.cell? ⟨b, 1, none⟩ = some (.int .i64 W) → w.cell? ⟨b, 2, none⟩ = some (.int .i64 T) → Calls Tryz.prog 173 #[.pointer (some ⟨b, 1, none⟩), .int .i64 x] w fun e w' => e = .returned (.tuple #[.int .i64 (nx : Int), .int .i64 (bt : Int)]) ∧ ∃ n, w' = w.drewN n) := by
  subst hn hb
  exact Lib.hid fun b w h0 h1 => l02Step_any b 1 W T x w h0 h1 hW hT hx
 clear hn hb
 go_enter Tryz.func126, Tryz.ntmps126
 go_wp2_with (go_at_call 173; refine (HS.out _ _ (by simp) (by simp)).mono ?_; rintro e w1 ⟨rfl, k1, rfl⟩)
 refine bodyPost_ret (v := .tuple #[.agg #[.int .i64 0, .int .i64 W, .int .i64 T, .int .i64 m, .int .i64 f, .int .i64 a, .int .i64 (nx : Int)], .int .i64 (bt : Int)]) (by simp [results, Tryz.results126, go_sem]) rfl ⟨rfl, ?_⟩
 exact (((((((((below_drewN (((Below.refl w.heap.size w).alloc (Nat.le_refl _) _).alloc (by simp) _) k1).setCell (by simp) _).setCell (by simp) _).setCell (by simp) _).setCell (by simp) _).setCell (by simp) _).setCell (by simp) _).setCell (by simp) _).setCell (by simp) _)
set_option maxHeartbeats 1000000 in
theorem l11Step_con (m f a x : Nat) (W T : Int) (w : World) (hm : 2 ≤ m) (hm2 : m ≤ 100000) (hf : f < m) (ha : a < m) (hx : x < m) :
  Calls Tryz.prog 126 #[.agg #[.int .i64 1, .int .i64 W, .int .i64 T, .int .i64 m, .int .i64 f, .int .i64 a, .int .i64 x]] w (StepRet 1 W T m f a (Cong.stepN m f a x) (cbit m f a x) x w) := by
 have hlt := Cong.stepN_lt (f := f) (a := a) (show 0 < m by omega) x
 unfold cbit
 generalize hn : Cong.stepN m f a x = nx at *
 have HS : Hid (∀ (b : Nat) (w : World), w.cell? ⟨b, 3, none⟩ = some (.int .i64 m) → w.cell? ⟨b, 4, none⟩ = some (.int .i64 f) → w.cell? ⟨b, 5, none⟩ = some (.int .i64 a) → Calls Tryz.prog 131 #[.pointer (some ⟨b, 3, none⟩), .int .i64 x] w fun e w' => e = .returned (.int .i64 (nx : Int)) ∧ ∃ n, w' = w.drewN n) := by
  subst hn
  exact Lib.hid fun b w h0 h1 h2 => Cong.l03Step_any b 3 m f a x w h0 h1 h2 hm hm2 hf ha hx
 clear hn
 by_cases hc : m ≤ 2 * nx
 ·rw [if_pos hc]
  have hc2 : decide ((2 : Int) * (nx : Int) ≥ (m : Int)) = true := by simp; omega
  go_enter Tryz.func126, Tryz.ntmps126
  go_wp2_with (go_at_call 131; refine (HS.out _ _ (by simp) (by simp) (by simp)).mono ?_; rintro e w1 ⟨rfl, k1, rfl⟩)
  refine bodyPost_ret (v := .tuple #[.agg #[.int .i64 1, .int .i64 W, .int .i64 T, .int .i64 m, .int .i64 f, .int .i64 a, .int .i64 (nx : Int)], .int .i64 ((1 : Nat) : Int)]) (by simp [results, Tryz.results126, go_sem]) rfl ⟨rfl, ?_⟩
  exact (((((((((below_drewN (((Below.refl w.heap.size w).alloc (Nat.le_refl _) _).alloc (by simp) _) k1).setCell (by simp) _).setCell (by simp) _).setCell (by simp) _).setCell (by simp) _).setCell (by simp) _).setCell (by simp) _).setCell (by simp) _).setCell (by simp) _)
 ·rw [if_neg hc]
  have hc2 : decide ((2 : Int) * (nx : Int) ≥ (m : Int)) = false := by simp; omega
  go_enter Tryz.func126, Tryz.ntmps126
  go_wp2_with (go_at_call 131; refine (HS.out _ _ (by simp) (by simp) (by simp)).mono ?_; rintro e w1 ⟨rfl, k1, rfl⟩)
  refine bodyPost_ret (v := .tuple #[.agg #[.int .i64 1, .int .i64 W, .int .i64 T, .int .i64 m, .int .i64 f, .int .i64 a, .int .i64 (nx : Int)], .int .i64 ((0 : Nat) : Int)]) (by simp [results, Tryz.results126, go_sem]) rfl ⟨rfl, ?_⟩
  exact (((((((((below_drewN (((Below.refl w.heap.size w).alloc (Nat.le_refl _) _).alloc (by simp) _) k1).setCell (by simp) _).setCell (by simp) _).setCell (by simp) _).setCell (by simp) _).setCell (by simp) _).setCell (by simp) _).setCell (by simp) _).setCell (by simp) _)
def outS (nx bt : Nat → Nat) (x : Nat) : Nat → List UInt8
 | 0 => []
 | n + 1 => outS nx bt x n ++ [UInt8.ofNat (48 + bt (CycM.iter nx x n))]
theorem outS_len (nx bt : Nat → Nat) (x : Nat) : ∀ n, (outS nx bt x n).length = n
 | 0 => rfl
 | n + 1 => by simp [outS, outS_len nx bt x n]
theorem outS_reg (W T x : Nat) : ∀ n, outR W T x n = outS (nextR W T) (· % 2) x n
 | 0 => rfl
 | n + 1 => by rw [outR, outS, outS_reg W T x n]
def SBox (w : World) (b : Nat) (K W T m f a s : Int) : Prop := w.heap[b]? = some (.cells #[.int .i64 K, .int .i64 W, .int .i64 T, .int .i64 m, .int .i64 f, .int .i64 a, .int .i64 s] 29 (0, 0))
theorem SBox.new (w : World) (K W T m f a s : Int) : SBox (w.alloc (.cells #[.int .i64 K, .int .i64 W, .int .i64 T, .int .i64 m, .int .i64 f, .int .i64 a, .int .i64 s] 29)) w.heap.size K W T m f a s := by
 unfold SBox
 show (w.heap.push _)[w.heap.size]? = _
 simp
section
variable {w w' : World} {b : Nat} {K W T m f a s : Int}
theorem SBox.lt (h : SBox w b K W T m f a s) : b < w.heap.size := RevNet.block_lt h
theorem SBox.c0 (h : SBox w b K W T m f a s) : w.cell? ⟨b, 0, none⟩ = some (.int .i64 K) := by rw [Lib.cell_of_heap h]; rfl
theorem SBox.c1 (h : SBox w b K W T m f a s) : w.cell? ⟨b, 1, none⟩ = some (.int .i64 W) := by rw [Lib.cell_of_heap h]; rfl
theorem SBox.c2 (h : SBox w b K W T m f a s) : w.cell? ⟨b, 2, none⟩ = some (.int .i64 T) := by rw [Lib.cell_of_heap h]; rfl
theorem SBox.c3 (h : SBox w b K W T m f a s) : w.cell? ⟨b, 3, none⟩ = some (.int .i64 m) := by rw [Lib.cell_of_heap h]; rfl
theorem SBox.c4 (h : SBox w b K W T m f a s) : w.cell? ⟨b, 4, none⟩ = some (.int .i64 f) := by rw [Lib.cell_of_heap h]; rfl
theorem SBox.c5 (h : SBox w b K W T m f a s) : w.cell? ⟨b, 5, none⟩ = some (.int .i64 a) := by rw [Lib.cell_of_heap h]; rfl
theorem SBox.c6 (h : SBox w b K W T m f a s) : w.cell? ⟨b, 6, none⟩ = some (.int .i64 s) := by rw [Lib.cell_of_heap h]; rfl
theorem SBox.frz (h : SBox w b K W T m f a s) (i : Nat) : w.frozen? ⟨b, i, none⟩ = false := Lib.frozen_of_heap h i
theorem SBox.below {B : Nat} (h : SBox w b K W T m f a s) (hb : Below B w w') (hB : b < B) : SBox w' b K W T m f a s := (hb.block b hB).trans h
theorem SBox.kept {row : Option Nat} (h : SBox w b K W T m f a s) (hg : w.grownBy w' row) (hne : row ≠ some b) : SBox w' b K W T m f a s := (hg.block b h.lt fun e => hne e.symm).trans h
def set7 (w : World) (b : Nat) (K W T m f a s : Int) : World :=
 ((((((w.setCell ⟨b, 0, none⟩ (.int .i64 K)).setCell ⟨b, 1, none⟩ (.int .i64 W)).setCell ⟨b, 2, none⟩ (.int .i64 T)).setCell ⟨b, 3, none⟩ (.int .i64 m)).setCell ⟨b, 4, none⟩ (.int .i64 f)).setCell ⟨b, 5, none⟩ (.int .i64 a)).setCell ⟨b, 6, none⟩ (.int .i64 s)
theorem SBox.set6 (h : SBox w b K W T m f a s) (s' : Int) : SBox (w.setCell ⟨b, 6, none⟩ (.int .i64 s')) b K W T m f a s' := by
 unfold SBox at *
 simp [World.setCell, Array.getElem?_modify, h]
theorem SBox.set7 (h : SBox w b K W T m f a s) (K' W' T' m' f' a' s' : Int) : SBox (set7 w b K' W' T' m' f' a' s') b K' W' T' m' f' a' s' := by
 unfold SBox at *
 unfold Take.set7
 simp [World.setCell, Array.getElem?_modify, h]
theorem grown_set7 (w : World) (b : Nat) (K W T m f a s : Int) : w.grownBy (set7 w b K W T m f a s) (some b) := by
 unfold set7
 exact grown_trans (grown_trans (grown_trans (grown_trans (grown_trans (grown_trans (Src.grown_setCell _ _ _) (Src.grown_setCell _ _ _)) (Src.grown_setCell _ _ _)) (Src.grown_setCell _ _ _)) (Src.grown_setCell _ _ _)) (Src.grown_setCell _ _ _)) (Src.grown_setCell _ _ _)
end
def TakeRet (K W T m f a : Int) (nx bt : Nat → Nat) (x n : Nat) (w : World) (e : Ending) (w' : World) : Prop :=
 e = .returned (.tuple #[.string ⟨(outS nx bt x n).toArray⟩, .agg #[.int .i64 K, .int .i64 W, .int .i64 T, .int .i64 m, .int .i64 f, .int .i64 a, .int .i64 ((CycM.iter nx x n : Nat) : Int)]]) ∧ Below w.heap.size w w'
theorem take_push {w w1 w3 : World} {v v' : Value} {k B : Nat} {xs : List Value} {c K W T m f a y y' : Int} (hs : SBox w1 B K W T m f a y) (hr : SBox w1 (B + 1) 0 0 0 0 0 0 0) (ho : w1.ownsRow (B + 2) 5 1 v k xs) (hb : Below B w w1)
  (hg : ((w1.alloc (.cells #[.int .i64 K, .int .i64 W, .int .i64 T, .int .i64 m, .int .i64 f, .int .i64 a, .int .i64 y'] 29)).alloc (.cells #[.int .u8 c] 5)).grownBy w3 v.ownBlock) (hown : w3.ownsRow (B + 2) 5 1 v' (k + 1) (xs ++ [.int .u8 c])) :
  SBox w3 w1.heap.size K W T m f a y' ∧ SBox w3 B K W T m f a y ∧ SBox (set7 w3 B K W T m f a y') B K W T m f a y' ∧ SBox (set7 w3 B K W T m f a y') (B + 1) 0 0 0 0 0 0 0 ∧ (set7 w3 B K W T m f a y').ownsRow (B + 2) 5 1 v' (k + 1) (xs ++ [.int .u8 c]) ∧ Below B w (set7 w3 B K W T m f a y') := by
 have hrow : ∀ g, v.ownBlock = some g → B + 2 ≤ g ∧ g < w1.heap.size := fun g hg => by
  obtain ⟨_, _, h1, h2⟩ := ownsRow_block ho hg
  exact ⟨h1, h2⟩
 have hlt := hr.lt
 have ba : Below w1.heap.size w1 ((w1.alloc (.cells #[.int .i64 K, .int .i64 W, .int .i64 T, .int .i64 m, .int .i64 f, .int .i64 a, .int .i64 y'] 29)).alloc (.cells #[.int .u8 c] 5)) := ((Below.refl _ _).alloc (Nat.le_refl _) _).alloc (by simp) _
 have n0 := (SBox.new w1 K W T m f a y').below (B := w1.heap.size + 1) (((Below.refl _ _).alloc (by simp) (.cells #[.int .u8 c] 5))) (Nat.lt_succ_self _)
 have n1 := n0.kept hg (fun e => by have := hrow _ e; omega)
 have n2 := (hs.below ba (by omega)).kept hg (fun e => by have := hrow _ e; omega)
 have n3 := (hr.below ba (by omega)).kept hg (fun e => by have := hrow _ e; omega)
 have gs := grown_set7 w3 B K W T m f a y'
 refine ⟨n1, n2, n2.set7 _ _ _ _ _ _ _, n3.kept gs (by simp), World.ownsRow.kept hown gs (.inr fun e => ?_), ?_⟩
 ·obtain ⟨_, _, h1, _⟩ := ownsRow_block hown e
  omega
 ·have b3 : Below B w w3 := (hb.trans (ba.mono (by omega))).trans (grown_below hg (fun g e => by have := (hrow g e).1; omega) (by simp; omega))
  exact b3.trans (grown_below gs (fun g e => by cases e; exact Nat.le_refl _) (by have := n2.lt; omega))
theorem conv_own {w : World} {B g n cap : Nat} {l : List UInt8} (h : w.ownsRow B 5 1 (.slice (some ⟨g, 0, none⟩) n cap) n (Lib.byteCells l)) (hl : l.length = n) :
  (convert 22 9 (.slice (some ⟨g, 0, none⟩) n cap)).run Tryz.prog w = .ok (.string ⟨l.toArray⟩) w := by
 subst hl
 refine run_convert_bytes_back w 22 9 5 ⟨g, 0, none⟩ cap l Tryz.underlying22 Tryz.underlying5 Tryz.underlying9 ?_
 intro j hj
 have := h.cells (g := g) rfl j (.int .u8 (l[j].toNat : Int)) (by simp [Lib.byteCells, hj])
 simpa [Addr.add] using this
theorem conv_any {w : World} {B n : Nat} {v : Value} {l : List UInt8} (h : w.ownsRow B 5 1 v n (Lib.byteCells l)) (hl : l.length = n) :
  (convert 22 9 v).run Tryz.prog w = .ok (.string ⟨l.toArray⟩) w := by
 rcases h.2 with ⟨rfl, h0⟩ | ⟨g, cap, cur, rfl, _⟩
 ·obtain rfl : l = [] := List.eq_nil_of_length_eq_zero (by omega)
  exact Lib.run_convert_nil_bytes w 22 9 5 0 Tryz.underlying22 Tryz.underlying5 Tryz.underlying9
 ·exact conv_own h hl
set_option maxHeartbeats 2000000 in
set_option maxRecDepth 100000 in
theorem l11Take_any (K W T m f a : Int) (nx bt : Nat → Nat) (M x n : Nat) (w : World) (hx : x < M) (hn : n ≤ 400) (hnx : ∀ y, y < M → nx y < M) (hbt : ∀ y, y < M → bt y < 2)
  (hst : ∀ y, y < M → ∀ w, Calls Tryz.prog 126 #[.agg #[.int .i64 K, .int .i64 W, .int .i64 T, .int .i64 m, .int .i64 f, .int .i64 a, .int .i64 (y : Int)]] w (StepRet K W T m f a (nx y) (bt y) y w)) :
  Calls Tryz.prog 78 #[.agg #[.int .i64 K, .int .i64 W, .int .i64 T, .int .i64 m, .int .i64 f, .int .i64 a, .int .i64 (x : Int)], .int .i64 n] w (TakeRet K W T m f a nx bt x n w) := by
 obtain ⟨i0, hi, hz0, hz1, hz2⟩ := info_parts infoByte
 obtain ⟨W0, hW0⟩ : ∃ W0, W0 = w.alloc (.cells #[.int .i64 K, .int .i64 W, .int .i64 T, .int .i64 m, .int .i64 f, .int .i64 a, .int .i64 x] 29) := ⟨_, rfl⟩
 have s0 : SBox W0 w.heap.size K W T m f a x := by rw [hW0]; exact SBox.new _ _ _ _ _ _ _ _
 have z0 : W0.heap.size = w.heap.size + 1 := by rw [hW0]; simp
 have b0 : Below w.heap.size w W0 := by rw [hW0]; exact (Below.refl _ _).alloc (Nat.le_refl _) _
 obtain ⟨W1, hW1⟩ : ∃ W1, W1 = W0.alloc (.cells #[.int .i64 0, .int .i64 0, .int .i64 0, .int .i64 0, .int .i64 0, .int .i64 0, .int .i64 0] 29) := ⟨_, rfl⟩
 have b1 : Below W0.heap.size W0 W1 := by rw [hW1]; exact (Below.refl _ _).alloc (Nat.le_refl _) _
 have r1 : SBox W1 (w.heap.size + 1) 0 0 0 0 0 0 0 := by rw [hW1, ← z0]; exact SBox.new _ _ _ _ _ _ _ _
 have z1 : W1.heap.size = w.heap.size + 2 := by rw [hW1]; simp [z0]
 have s1 := s0.below b1 (by omega)
 obtain ⟨W2, hW2⟩ : ∃ W2, W2 = W1.alloc (.cells #[] 5) := ⟨_, rfl⟩
 have b2 : Below W1.heap.size W1 W2 := by rw [hW2]; exact (Below.refl _ _).alloc (Nat.le_refl _) _
 have s2 := s1.below b2 (by omega)
 have r2 := r1.below b2 (by omega)
 have B2 : Below w.heap.size w W2 := b0.trans ((b1.mono (by omega)).trans (b2.mono (by omega)))
 have o2 : W2.ownsRow (w.heap.size + 2) 5 1 (.slice (some ⟨w.heap.size + 2, 0, none⟩) 0 0) 0 (Lib.byteCells []) := by
  have h2 := World.ownsRow_lit (e := 5) (size := 1) (base := W1.heap.size) W1 #[] 0 (Nat.le_refl _) (by decide) (by simp)
  rw [hW2, ← z1]
  exact h2
 have HO := Lib.hid o2
 have HB := Lib.hid B2
 have HS2 := Lib.hid s2
 have HR2 := Lib.hid r2
 have HW0 := Lib.hid hW0
 have HW1 := Lib.hid hW1
 have HW2 := Lib.hid hW2
 have HSt := Lib.hid hst
 have HIt := Lib.hid (fun k => show CycM.iter nx x k < M from CycM.iter_lt hnx hx k)
 have HBt := Lib.hid hbt
 clear hW0 hW1 hW2 s0 z0 b0 b1 r1 z1 s1 b2 s2 r2 B2 o2 hst hnx hbt
 go_enter Tryz.func78, Tryz.ntmps78
 go_wp2
 go_loopw [1, 6] (fun c v wr => ∃ k q : Nat, k + q = n ∧ c = .int .i64 (q : Int) ∧ SBox wr w.heap.size K W T m f a ((CycM.iter nx x k : Nat) : Int) ∧ SBox wr (w.heap.size + 1) 0 0 0 0 0 0 0 ∧ wr.ownsRow (w.heap.size + 2) 5 1 v k (Lib.byteCells (outS nx bt x k)) ∧ Below w.heap.size w wr) (fun c _ _ => (intOf c).toNat)
 case atStart =>
  have e1 := HS2.out
  have e2 := HR2.out
  have e3 := HO.out
  have e4 := HB.out
  rw [HW2.out, HW1.out, HW0.out] at e1 e2 e3 e4
  exact ⟨0, n, Nat.zero_add _, rfl, e1, e2, e3, e4⟩
 case round =>
  obtain ⟨k, q, hk, rfl, hs, hr, ho, hb⟩ := hrel
  have HK := Lib.hid hk
  have hqn : q ≤ n := by omega
  have hkn : k ≤ n := by omega
  clear hk
  have HSs := Lib.hid hs
  have HRr := Lib.hid hr
  have HOo := Lib.hid ho
  have HBb := Lib.hid hb
  have hwz := hb.size
  have hrl := hr.lt
  have c0 := hs.c0
  have c1 := hs.c1
  have c2 := hs.c2
  have c3 := hs.c3
  have c4 := hs.c4
  have c5 := hs.c5
  have c6 := hs.c6
  clear hs hr ho hb
  by_cases hlt : 0 < q
  ·have hst := HSt.out _ (HIt.out k)
   have hb2 := HBt.out _ (HIt.out k)
   have HNx : Hid (CycM.iter nx x (k + 1) = nx (CycM.iter nx x k)) := Lib.hid rfl
   have HO1 : Hid (outS nx bt x (k + 1) = outS nx bt x k ++ [UInt8.ofNat (48 + bt (CycM.iter nx x k))]) := Lib.hid rfl
   have HBy := Lib.hid (byte_bit _ hb2)
   have HSt2 : Hid (∀ w, Calls Tryz.prog 126 #[.agg #[.int .i64 K, .int .i64 W, .int .i64 T, .int .i64 m, .int .i64 f, .int .i64 a, .int .i64 ((CycM.iter nx x k : Nat) : Int)]] w fun e w' => e = .returned (.tuple #[.agg #[.int .i64 K, .int .i64 W, .int .i64 T, .int .i64 m, .int .i64 f, .int .i64 a, .int .i64 ((nx (CycM.iter nx x k) : Nat) : Int)], .int .i64 ((bt (CycM.iter nx x k) : Nat) : Int)]) ∧ Below w.heap.size w w') := Lib.hid hst
   clear hst
   generalize CycM.iter nx x k = y at *
   generalize nx y = y' at *
   generalize bt y = bit at *
   have hgt : decide ((q : Int) > 0) = true := by simp; omega
   go_wp2_with fail
   refine (HSt2.out _).mono ?_
   rintro e w1 ⟨rfl, hb1⟩
   have HSs1 := Lib.hid (HSs.out.below hb1 (by omega))
   have HRr1 := Lib.hid (HRr.out.below hb1 (by omega))
   have HOo1 := Lib.hid (ownsRow_below HOo.out hb1)
   have HBb1 := Lib.hid (HBb.out.trans (hb1.mono hwz))
   have hws := hb1.size
   clear hb1
   have HW := Lib.hid (World.ownsRow.alloc (World.ownsRow.alloc HOo1.out (.cells #[.int .i64 K, .int .i64 W, .int .i64 T, .int .i64 m, .int .i64 f, .int .i64 a, .int .i64 (y' : Int)] 29)) (.cells #[.int .u8 (48 + (bit : Int))] 5))
   have HP := Lib.hid (fun v' w3 hown hg => take_push (v' := v') (w3 := w3) (c := 48 + (bit : Int)) (y' := (y' : Int)) HSs1.out HRr1.out HOo1.out HBb1.out hg hown)
   go_wp2_with (at_builtin; refine wpList_append_own_at _ rfl (.tmp 19) (.tmp 23) 22 rfl (w.heap.size + 2) 5 i0 (.int .u8 0) 1 1 Tryz.underlying22 hi hz0 hz1 hz2 rfl (by decide) _ _ _ rfl HW.out ⟨(w1.heap.size + 1), 0, none⟩ 1 1 [.int .u8 (48 + (bit : Int))] rfl rfl ?p1a ?p2a ?p3a ?p4a ?p5a ?_)
   try case p1a => exact news_one _ _ _ (by simp)
   try case p2a => first | rfl | (intro u hu; simp at hu; subst hu; rfl)
   try case p3a => first | (simp only [maxLen]; omega) | omega
   try case p4a => omega
   try case p5a => first | (simp only [World.size_alloc]; omega) | omega
   intro v' w3 hown' hg' _ he
   obtain ⟨n1, n2, n3, n4, n5, n6⟩ := HP.out v' w3 hown' hg'
   have N3 := Lib.hid n3
   have N4 := Lib.hid n4
   have N5 := Lib.hid n5
   have N6 := Lib.hid n6
   have x0 := n1.c0
   have x1 := n1.c1
   have x2 := n1.c2
   have x3 := n1.c3
   have x4 := n1.c4
   have x5 := n1.c5
   have x6 := n1.c6
   have y0 := n2.c0
   have y1 := n2.c1
   have y2 := n2.c2
   have y3 := n2.c3
   have y4 := n2.c4
   have y5 := n2.c5
   have y6 := n2.c6
   have f0 := n2.frz 0
   have f1 := n2.frz 1
   have f2 := n2.frz 2
   have f3 := n2.frz 3
   have f4 := n2.frz 4
   have f5 := n2.frz 5
   have f6 := n2.frz 6
   clear n1 n2 n3 n4 n5 n6 hown' hg' he c0 c1 c2 c3 c4 c5 c6
   go_wp2_with fail
   go_roundw
   case rel =>
    refine ⟨k + 1, q - 1, by have := HK.out; omega, by rw [Int.ofNat_sub (show 1 ≤ q by omega)]; rfl, ?_, N4.out, ?_, N6.out⟩
    ·rw [HNx.out]; exact N3.out
    ·show (set7 w3 w.heap.size K W T m f a (y' : Int)).ownsRow (w.heap.size + 2) 5 1 v' (k + 1) (Lib.byteCells (outS nx bt x (k + 1)))
     rw [HO1.out]
     have := N5.out
     rw [show (48 : Int) + (bit : Int) = ((48 + bit : Nat) : Int) by omega, ← HBy.out] at this
     simpa [Lib.byteCells] using this
   case measure => simp [intOf]; omega
  ·have hgt : decide ((q : Int) > 0) = false := by simp; omega
   obtain rfl : k = n := by have := HK.out; omega
   have HLn := Lib.hid (outS_len nx bt x k)
   have hl1 := HRr.out.c0
   have f0 := HRr.out.frz 0
   have f1 := HRr.out.frz 1
   have f2 := HRr.out.frz 2
   have f3 := HRr.out.frz 3
   have f4 := HRr.out.frz 4
   have f5 := HRr.out.frz 5
   have f6 := HRr.out.frz 6
   have g0 := HRr.out.c0
   have g1 := HRr.out.c1
   have g2 := HRr.out.c2
   have g3 := HRr.out.c3
   have g4 := HRr.out.c4
   have g5 := HRr.out.c5
   have g6 := HRr.out.c6
   have RD := Lib.hid (HRr.out.below (Below.drew (Below.refl wr.heap.size wr)) HRr.out.lt)
   have OD := Lib.hid (ownsRow_below HOo.out (Below.drew (Below.refl wr.heap.size wr)))
   have hC1 := conv_any OD.out HLn.out
   have S7 := Lib.hid (RD.out.set7 K W T m f a ((CycM.iter nx x k : Nat) : Int))
   have O7 := Lib.hid (World.ownsRow.kept OD.out (grown_set7 wr.drew (w.heap.size + 1) K W T m f a ((CycM.iter nx x k : Nat) : Int)) (.inr fun e => by obtain ⟨_, _, h1, _⟩ := ownsRow_block OD.out e; omega))
   have hC2 := conv_any O7.out HLn.out
   have S8 := HRr.out.set7 K W T m f a ((CycM.iter nx x k : Nat) : Int)
   have p0 := S8.c0
   have p1 := S8.c1
   have p2 := S8.c2
   have p3 := S8.c3
   have p4 := S8.c4
   have p5 := S8.c5
   have p6 := S8.c6
   have B7 := Lib.hid ((HBb.out).trans (grown_below (grown_set7 wr (w.heap.size + 1) K W T m f a ((CycM.iter nx x k : Nat) : Int)) (fun g e => by cases e; exact Nat.le_succ _) (show w.heap.size ≤ wr.heap.size by omega)))
   simp only [set7] at hC2 p0 p1 p2 p3 p4 p5 p6
   have mixed : Tryz.prog.follows .mixedOrders = true := by kernel_rfl
   go_wp2_with fail
   go_region_o
   all_goals
    go_wp2
    refine bodyPost_ret (v := .tuple #[.string ⟨(outS nx bt x k).toArray⟩, .agg #[.int .i64 K, .int .i64 W, .int .i64 T, .int .i64 m, .int .i64 f, .int .i64 a, .int .i64 ((CycM.iter nx x k : Nat) : Int)]]) (by simp [results, Tryz.results78, go_sem, p0, p1, p2, p3, p4, p5, p6]) rfl ⟨rfl, Below.drew B7.out⟩
def takeL (K W T m f a s c : Int) : List UInt8 := if K = 0 then outS (nextR W.toNat T.toNat) (· % 2) s.toNat c.toNat else outS (Cong.stepN m.toNat f.toNat a.toNat) (cbit m.toNat f.toNat a.toNat) s.toNat c.toNat
def takeX (K W T m f a s c : Int) : Int := if K = 0 then (CycM.iter (nextR W.toNat T.toNat) s.toNat c.toNat : Nat) else (CycM.iter (Cong.stepN m.toNat f.toNat a.toNat) s.toNat c.toNat : Nat)
def TakeR (K W T m f a s c : Int) (w : World) (e : Ending) (w' : World) : Prop := e = .returned (.tuple #[.string ⟨(takeL K W T m f a s c).toArray⟩, .agg #[.int .i64 K, .int .i64 W, .int .i64 T, .int .i64 m, .int .i64 f, .int .i64 a, .int .i64 (takeX K W T m f a s c)]]) ∧ Below w.heap.size w w'
theorem nats {K W T m f a s c : Int} (hB : streamB K W T m f a s = true) (hc : inR c 0 400 = true) : ∃ X N : Nat, s = X ∧ c = N ∧ N ≤ 400 ∧
  ((K = 0 ∧ ∃ V A : Nat, W = V ∧ T = A ∧ V ≤ 16 ∧ A < 2 ^ V ∧ X < 2 ^ V) ∨ (K = 1 ∧ ∃ M F A : Nat, m = M ∧ f = F ∧ a = A ∧ 2 ≤ M ∧ M ≤ 100000 ∧ F < M ∧ A < M ∧ X < M)) := by
 have h7 := inR_true hc
 rcases streamB_true hB with ⟨rfl, hR⟩ | ⟨rfl, hC⟩
 ·obtain ⟨h1, h2, h3, h4, h5, h6⟩ := Reg.bothR_true hR
  have ep : ((2 ^ W.toNat : Nat) : Int) = (2 : Int) ^ W.toNat := by simp
  exact ⟨s.toNat, c.toNat, by omega, by omega, by omega, .inl ⟨rfl, W.toNat, T.toNat, by omega, by omega, by omega, by omega, by omega⟩⟩
 ·obtain ⟨h1, h2, h3, h4, h5, h6, h7', h8⟩ := Cong.bothB_true hC
  exact ⟨s.toNat, c.toNat, by omega, by omega, by omega, .inr ⟨rfl, m.toNat, f.toNat, a.toNat, by omega, by omega, by omega, by omega, by omega, by omega, by omega, by omega⟩⟩
theorem specTake_yes {K W T m f a s c : Int} (hB : streamB K W T m f a s = true) (hc : inR c 0 400 = true) (w : World) : Calls Tryz.prog 78 #[.agg #[.int .i64 K, .int .i64 W, .int .i64 T, .int .i64 m, .int .i64 f, .int .i64 a, .int .i64 s], .int .i64 c] w (TakeR K W T m f a s c w) := by
 obtain ⟨X, N, rfl, rfl, hN, ⟨rfl, V, A, rfl, rfl, hV, hA, hX⟩ | ⟨rfl, M, F, A, rfl, rfl, rfl, h1, h2, h3, h4, h5⟩⟩ := nats hB hc
 ·exact l11Take_any 0 V A m f a (nextR V A) (· % 2) (2 ^ V) X N w hX hN (fun y hy => nextR_lt hy) (fun y _ => Nat.mod_lt _ (by decide)) (fun y hy w => l11Step_reg V A y m f a w hV hA hy)
 ·exact l11Take_any 1 W T M F A (Cong.stepN M F A) (cbit M F A) M X N w h5 hN (fun y hy => Cong.stepN_lt (by omega) y) (fun y _ => cbit_lt _ _ _ _) (fun y hy w => l11Step_con M F A y W T w h1 h2 h3 h4 hy)
set_option maxHeartbeats 1000000 in
set_option maxRecDepth 100000 in
theorem implTake_reg (V A X N : Nat) (m f a : Int) (w : World) (hV : V ≤ 16) (hA : A < 2 ^ V) (hX : X < 2 ^ V) (hN : N ≤ 400) :
  Calls Tryz.prog 32 #[.agg #[.int .i64 0, .int .i64 V, .int .i64 A, .int .i64 m, .int .i64 f, .int .i64 a, .int .i64 X], .int .i64 N] w (TakeRet 0 V A m f a (nextR V A) (· % 2) X N w) := by
 unfold TakeRet
 obtain ⟨W0, hW0⟩ : ∃ W0, W0 = w.alloc (.cells #[.int .i64 0, .int .i64 V, .int .i64 A, .int .i64 m, .int .i64 f, .int .i64 a, .int .i64 X] 29) := ⟨_, rfl⟩
 have s0 : SBox W0 w.heap.size 0 V A m f a X := by rw [hW0]; exact SBox.new _ _ _ _ _ _ _ _
 have z0 : W0.heap.size = w.heap.size + 1 := by rw [hW0]; simp
 have b0 : Below w.heap.size w W0 := by rw [hW0]; exact (Below.refl _ _).alloc (Nat.le_refl _) _
 obtain ⟨W1, hW1⟩ : ∃ W1, W1 = W0.alloc (.cells #[.int .i64 0, .int .i64 0, .int .i64 0, .int .i64 0, .int .i64 0, .int .i64 0, .int .i64 0] 29) := ⟨_, rfl⟩
 have b1 : Below W0.heap.size W0 W1 := by rw [hW1]; exact (Below.refl _ _).alloc (Nat.le_refl _) _
 have r1 : SBox W1 (w.heap.size + 1) 0 0 0 0 0 0 0 := by rw [hW1, ← z0]; exact SBox.new _ _ _ _ _ _ _ _
 have z1 : W1.heap.size = w.heap.size + 2 := by rw [hW1]; simp [z0]
 have s1 := s0.below b1 (by omega)
 have B1 := b0.trans (b1.mono (show w.heap.size ≤ W0.heap.size by omega))
 have HS := Lib.hid s1
 have HR := Lib.hid r1
 have HB := Lib.hid B1
 have HW0 := Lib.hid hW0
 have HW1 := Lib.hid hW1
 have HBi : Hid (∀ w, Calls Tryz.prog 68 #[.agg #[.int .i64 V, .int .i64 A], .int .i64 X, .int .i64 N] w fun e w' => e = .returned (.tuple #[.string ⟨(outS (nextR V A) (· % 2) X N).toArray⟩, .int .i64 ((CycM.iter (nextR V A) X N : Nat) : Int)]) ∧ Below w.heap.size w w') := Lib.hid fun w => by
  have := bits_all V A X N w hV hA hX hN
  unfold BitsRet at this
  rw [outS_reg] at this
  exact this
 have HZ := Lib.hid z1
 clear hW0 hW1 s0 z0 b0 b1 r1 z1 s1 B1
 go_enter Tryz.func32, Tryz.ntmps32
 go_wp2_with fail
 refine (HBi.out _).mono ?_
 rintro e w2 ⟨rfl, hb2⟩
 rw [← HW0.out, ← HW1.out] at hb2
 have hz := HZ.out
 have t0 := HS.out.below hb2 (by omega)
 have t1 := HR.out.below hb2 (by omega)
 have HB2 := Lib.hid (HB.out.trans (hb2.mono (by omega)))
 have hz2 := hb2.size
 clear hb2
 obtain ⟨y, hy⟩ : ∃ y, CycM.iter (nextR V A) X N = y := ⟨_, rfl⟩
 obtain ⟨l, hl⟩ : ∃ l, outS (nextR V A) (· % 2) X N = l := ⟨_, rfl⟩
 have HY := Lib.hid hy
 have HL := Lib.hid hl
 rw [hy, hl]
 clear hy hl
 have a0 := t0.c0
 have a1 := t0.c1
 have a2 := t0.c2
 have a3 := t0.c3
 have a4 := t0.c4
 have a5 := t0.c5
 have a6 := t0.c6
 have f0 := t0.frz 6
 have u0 := t0.set6 (y : Int)
 obtain ⟨w3, hw3⟩ : ∃ w3, w3 = w2.setCell ⟨w.heap.size, 6, none⟩ (.int .i64 (y : Int)) := ⟨_, rfl⟩
 rw [← hw3] at u0
 have u1 : SBox w3 (w.heap.size + 1) 0 0 0 0 0 0 0 := by rw [hw3]; exact t1.kept (Src.grown_setCell _ _ _) (by simp)
 have HW3 := Lib.hid hw3
 have HB3 := Lib.hid (show Below w.heap.size w w3 by rw [hw3]; exact HB2.out.setCell (by simp) _)
 have x0 := u0.c0
 have x1 := u0.c1
 have x2 := u0.c2
 have x3 := u0.c3
 have x4 := u0.c4
 have x5 := u0.c5
 have x6 := u0.c6
 have g0 := u1.frz 0
 have g1 := u1.frz 1
 have g2 := u1.frz 2
 have g3 := u1.frz 3
 have g4 := u1.frz 4
 have g5 := u1.frz 5
 have g6 := u1.frz 6
 have h0 := u1.c0
 have h1 := u1.c1
 have h2 := u1.c2
 have h3 := u1.c3
 have h4 := u1.c4
 have h5 := u1.c5
 have h6 := u1.c6
 have S8 := u1.set7 0 V A m f a (y : Int)
 have p0 := S8.c0
 have p1 := S8.c1
 have p2 := S8.c2
 have p3 := S8.c3
 have p4 := S8.c4
 have p5 := S8.c5
 have p6 := S8.c6
 simp only [set7] at p0 p1 p2 p3 p4 p5 p6
 have B7 := Lib.hid (HB3.out.trans (grown_below (grown_set7 w3 (w.heap.size + 1) 0 V A m f a (y : Int)) (fun g e => by cases e; exact Nat.le_succ _) HB3.out.size))
 have mixed : Tryz.prog.follows .mixedOrders = true := by kernel_rfl
 clear t0 t1 hw3 u0 u1 S8
 go_wp2_with fail
 rw [← HW3.out]
 clear a0 a1 a2 a3 a4 a5 a6 f0
 go_region_o
 all_goals
  go_wp2
  refine bodyPost_ret (v := .tuple #[.string ⟨l.toArray⟩, .agg #[.int .i64 0, .int .i64 V, .int .i64 A, .int .i64 m, .int .i64 f, .int .i64 a, .int .i64 (y : Int)]]) ?_ rfl ⟨by rw [HY.out, HL.out], ?_⟩
  ·simp [results, Tryz.results32, go_sem, p0, p1, p2, p3, p4, p5, p6]
  ·exact Below.drew B7.out
theorem push_plain {w w2 w3 : World} {v : Value} {k B : Nat} {xs : List Value} {c K W T m f a y : Int} (hs : SBox w2 B K W T m f a y) (hr : SBox w2 (B + 1) 0 0 0 0 0 0 0) (ho : w2.ownsRow (B + 2) 5 1 v k xs) (hb : Below B w w2)
  (hg : (w2.alloc (.cells #[.int .u8 c] 5)).grownBy w3 v.ownBlock) :
  SBox w3 B K W T m f a y ∧ SBox w3 (B + 1) 0 0 0 0 0 0 0 ∧ Below B w w3 := by
 have hrow : ∀ g, v.ownBlock = some g → B + 2 ≤ g ∧ g < w2.heap.size := fun g hg => by
  obtain ⟨_, _, h1, h2⟩ := ownsRow_block ho hg
  exact ⟨h1, h2⟩
 have hlt := hr.lt
 have ba : Below w2.heap.size w2 (w2.alloc (.cells #[.int .u8 c] 5)) := (Below.refl _ _).alloc (Nat.le_refl _) _
 have n2 := (hs.below ba (by omega)).kept hg (fun e => by have := hrow _ e; omega)
 have n3 := (hr.below ba (by omega)).kept hg (fun e => by have := hrow _ e; omega)
 exact ⟨n2, n3, (hb.trans (ba.mono (by omega))).trans (grown_below hg (fun g e => by have := (hrow g e).1; omega) (by simp; omega))⟩
set_option maxHeartbeats 2000000 in
set_option maxRecDepth 100000 in
theorem implTake_con (M F A X N : Nat) (W T : Int) (w : World) (h2 : 2 ≤ M) (hM : M ≤ 100000) (hF : F < M) (hA : A < M) (hX : X < M) (hN : N ≤ 400) :
  Calls Tryz.prog 32 #[.agg #[.int .i64 1, .int .i64 W, .int .i64 T, .int .i64 M, .int .i64 F, .int .i64 A, .int .i64 X], .int .i64 N] w (TakeRet 1 W T M F A (Cong.stepN M F A) (cbit M F A) X N w) := by
 unfold TakeRet
 obtain ⟨i0, hi, hz0, hz1, hz2⟩ := info_parts infoByte
 obtain ⟨W0, hW0⟩ : ∃ W0, W0 = w.alloc (.cells #[.int .i64 1, .int .i64 W, .int .i64 T, .int .i64 M, .int .i64 F, .int .i64 A, .int .i64 X] 29) := ⟨_, rfl⟩
 have s0 : SBox W0 w.heap.size 1 W T M F A X := by rw [hW0]; exact SBox.new _ _ _ _ _ _ _ _
 have z0 : W0.heap.size = w.heap.size + 1 := by rw [hW0]; simp
 have b0 : Below w.heap.size w W0 := by rw [hW0]; exact (Below.refl _ _).alloc (Nat.le_refl _) _
 obtain ⟨W1, hW1⟩ : ∃ W1, W1 = W0.alloc (.cells #[.int .i64 0, .int .i64 0, .int .i64 0, .int .i64 0, .int .i64 0, .int .i64 0, .int .i64 0] 29) := ⟨_, rfl⟩
 have b1 : Below W0.heap.size W0 W1 := by rw [hW1]; exact (Below.refl _ _).alloc (Nat.le_refl _) _
 have r1 : SBox W1 (w.heap.size + 1) 0 0 0 0 0 0 0 := by rw [hW1, ← z0]; exact SBox.new _ _ _ _ _ _ _ _
 have z1 : W1.heap.size = w.heap.size + 2 := by rw [hW1]; simp [z0]
 have s1 := s0.below b1 (by omega)
 obtain ⟨W2, hW2⟩ : ∃ W2, W2 = W1.alloc (.cells #[] 5) := ⟨_, rfl⟩
 have b2 : Below W1.heap.size W1 W2 := by rw [hW2]; exact (Below.refl _ _).alloc (Nat.le_refl _) _
 have s2 := s1.below b2 (by omega)
 have r2 := r1.below b2 (by omega)
 have B2 : Below w.heap.size w W2 := b0.trans ((b1.mono (by omega)).trans (b2.mono (by omega)))
 have o2 : W2.ownsRow (w.heap.size + 2) 5 1 (.slice (some ⟨w.heap.size + 2, 0, none⟩) 0 0) 0 (Lib.byteCells []) := by
  have h2 := World.ownsRow_lit (e := 5) (size := 1) (base := W1.heap.size) W1 #[] 0 (Nat.le_refl _) (by decide) (by simp)
  rw [hW2, ← z1]
  exact h2
 have HO := Lib.hid o2
 have HB := Lib.hid B2
 have HS2 := Lib.hid s2
 have HR2 := Lib.hid r2
 have HW0 := Lib.hid hW0
 have HW1 := Lib.hid hW1
 have HW2 := Lib.hid hW2
 have HIt := Lib.hid (fun k => show CycM.iter (Cong.stepN M F A) X k < M from CycM.iter_lt (fun y _ => Cong.stepN_lt (by omega) y) hX k)
 clear hW0 hW1 hW2 s0 z0 b0 b1 r1 z1 s1 b2 s2 r2 B2 o2
 go_enter Tryz.func32, Tryz.ntmps32
 go_wp2
 go_loopw [8, 28] (fun v c wr => ∃ k : Nat, k ≤ N ∧ c = .int .i64 (k : Int) ∧ SBox wr w.heap.size 1 W T M F A ((CycM.iter (Cong.stepN M F A) X k : Nat) : Int) ∧ SBox wr (w.heap.size + 1) 0 0 0 0 0 0 0 ∧ wr.ownsRow (w.heap.size + 2) 5 1 v k (Lib.byteCells (outS (Cong.stepN M F A) (cbit M F A) X k)) ∧ Below w.heap.size w wr) (fun _ c _ => N - (intOf c).toNat)
 case atStart =>
  have e1 := HS2.out
  have e2 := HR2.out
  have e3 := HO.out
  have e4 := HB.out
  rw [HW2.out, HW1.out, HW0.out] at e1 e2 e3 e4
  exact ⟨0, Nat.zero_le _, rfl, e1, e2, e3, e4⟩
 case round =>
  obtain ⟨k, hk, rfl, hs, hr, ho, hb⟩ := hrel
  have HSs := Lib.hid hs
  have HRr := Lib.hid hr
  have HOo := Lib.hid ho
  have HBb := Lib.hid hb
  have hwz := hb.size
  have hrl := hr.lt
  have c0 := hs.c0
  have c1 := hs.c1
  have c2 := hs.c2
  have c3 := hs.c3
  have c4 := hs.c4
  have c5 := hs.c5
  have c6 := hs.c6
  clear hs hr ho hb
  by_cases hlt : k < N
  ·have hyM := HIt.out k
   have hb2 := cbit_lt M F A (CycM.iter (Cong.stepN M F A) X k)
   have hcb : cbit M F A (CycM.iter (Cong.stepN M F A) X k) = if M ≤ 2 * Cong.stepN M F A (CycM.iter (Cong.stepN M F A) X k) then 1 else 0 := rfl
   have HNx : Hid (CycM.iter (Cong.stepN M F A) X (k + 1) = Cong.stepN M F A (CycM.iter (Cong.stepN M F A) X k)) := Lib.hid rfl
   have HO1 : Hid (outS (Cong.stepN M F A) (cbit M F A) X (k + 1) = outS (Cong.stepN M F A) (cbit M F A) X k ++ [UInt8.ofNat (48 + cbit M F A (CycM.iter (Cong.stepN M F A) X k))]) := Lib.hid rfl
   have HBy := Lib.hid (byte_bit _ hb2)
   have hyM2 : Cong.stepN M F A (CycM.iter (Cong.stepN M F A) X k) < M := Cong.stepN_lt (by omega) _
   have HSt : Hid (∀ w, Calls Tryz.prog 69 #[.agg #[.int .i64 M, .int .i64 F, .int .i64 A], .int .i64 ((CycM.iter (Cong.stepN M F A) X k : Nat) : Int)] w fun e w' => e = .returned (.int .i64 ((Cong.stepN M F A (CycM.iter (Cong.stepN M F A) X k) : Nat) : Int)) ∧ Below w.heap.size w w') :=
    Lib.hid fun w => Cong.congStep_any M F A _ w h2 hM hF hA hyM
   generalize CycM.iter (Cong.stepN M F A) X k = y at *
   generalize cbit M F A y = bit at *
   generalize Cong.stepN M F A y = y' at *
   obtain ⟨c, hc⟩ : ∃ c : Int, c = ((48 + bit : Nat) : Int) := ⟨_, rfl⟩
   have HC := Lib.hid hc
   have HCB := Lib.hid hcb
   have HT0 : Hid (∀ w, bit = 0 → Calls Tryz.prog 70 #[.int .i64 0] w fun e w' => e = .returned (.int .u8 c) ∧ w = w') := Lib.hid fun w h => by subst h; rw [hc]; exact bitText_any 0 (by decide) w
   have HT1 : Hid (∀ w, bit = 1 → Calls Tryz.prog 70 #[.int .i64 1] w fun e w' => e = .returned (.int .u8 c) ∧ w = w') := Lib.hid fun w h => by subst h; rw [hc]; exact bitText_any 1 (by decide) w
   clear hc hcb hb2 hyM
   go_wp2_with fail
   refine (HSt.out _).mono ?_
   rintro e w1 ⟨rfl, hb1⟩
   have hs1 := HSs.out.below hb1 (by omega)
   have hr1 := HRr.out.below hb1 (by omega)
   have ho1 := ownsRow_below HOo.out hb1
   have hbb1 := HBb.out.trans (hb1.mono hwz)
   have hws := hb1.size
   obtain ⟨w2, hw2⟩ : ∃ w2, w2 = w1.setCell ⟨w.heap.size, 6, none⟩ (.int .i64 (y' : Int)) := ⟨_, rfl⟩
   have HW2' := Lib.hid hw2
   have hz2' : w1.heap.size ≤ w2.heap.size := by rw [hw2]; simp
   have hs2 : SBox w2 w.heap.size 1 W T M F A (y' : Int) := by rw [hw2]; exact hs1.set6 _
   have hr2 : SBox w2 (w.heap.size + 1) 0 0 0 0 0 0 0 := by rw [hw2]; exact hr1.kept (Src.grown_setCell _ _ _) (by simp)
   have ho2 := World.ownsRow.kept ho1 (Src.grown_setCell w1 ⟨w.heap.size, 6, none⟩ (.int .i64 (y' : Int))) (.inr fun e => by obtain ⟨_, _, h1, _⟩ := ownsRow_block ho1 e; simp at h1; omega)
   rw [← hw2] at ho2
   have hbb2 : Below w.heap.size w w2 := by rw [hw2]; exact hbb1.setCell (by simp) _
   have HS3 := Lib.hid hs2
   have HO3 := Lib.hid ho2
   have a0 := hs1.c0
   have a1 := hs1.c1
   have a2 := hs1.c2
   have a3 := hs1.c3
   have a4 := hs1.c4
   have a5 := hs1.c5
   have a6 := hs1.c6
   have fz := hs1.frz 6
   have d3 := hs2.c3
   have d6 := hs2.c6
   have HP := Lib.hid (fun w3 hg => push_plain (w3 := w3) (c := c) hs2 hr2 ho2 hbb2 hg)
   have HW := Lib.hid (World.ownsRow.alloc ho2 (.cells #[.int .u8 c] 5))
   clear hb1 hs1 hr1 ho1 hbb1 hw2 hs2 hr2 ho2 hbb2 c0 c1 c2 c3 c4 c5 c6
   by_cases hcm : M ≤ 2 * y'
   ·have hbit : bit = 1 := by have := HCB.out; rw [if_pos hcm] at this; exact this
    have HBT := Lib.hid (fun w => HT1.out w hbit)
    clear hbit
    go_wp2_with fail
    rw [← HW2'.out]
    refine (HBT.out _).mono ?_
    rintro e w' ⟨rfl, rfl⟩
    go_wp2_with (at_builtin; refine wpList_append_own_at _ rfl (.tmp 43) (.tmp 46) 22 rfl (w.heap.size + 2) 5 i0 (.int .u8 0) 1 1 Tryz.underlying22 hi hz0 hz1 hz2 rfl (by decide) _ _ _ rfl HW.out ⟨w2.heap.size, 0, none⟩ 1 1 [.int .u8 c] rfl rfl ?p1a ?p2a ?p3a ?p4a ?p5a ?_)
    try case p1a => exact news_one _ _ _ (by simp)
    try case p2a => first | rfl | (intro u hu; simp at hu; subst hu; rfl)
    try case p3a => first | (simp only [maxLen]; omega) | omega
    try case p4a => omega
    try case p5a => first | (simp only [World.size_alloc]; omega) | omega
    intro v' w3 hown' hg' _ he
    obtain ⟨n3, n4, n6⟩ := HP.out w3 hg'
    have N3 := Lib.hid n3
    have N4 := Lib.hid n4
    have N5 := Lib.hid hown'
    have N6 := Lib.hid n6
    clear n3 n4 n6 hown' hg' he
    go_wp2_with fail
    go_roundw
    case rel =>
     refine ⟨k + 1, hlt, by go_num, ?_, N4.out, ?_, N6.out⟩
     ·rw [HNx.out]; exact N3.out
     ·rw [HO1.out]
      have := N5.out
      rw [HC.out, ← HBy.out] at this
      simpa [Lib.byteCells] using this
    case measure => simp [intOf]; omega
   ·have hbit : bit = 0 := by have := HCB.out; rw [if_neg hcm] at this; exact this
    have HBT := Lib.hid (fun w => HT0.out w hbit)
    clear hbit
    go_wp2_with fail
    rw [← HW2'.out]
    refine (HBT.out _).mono ?_
    rintro e w' ⟨rfl, rfl⟩
    go_wp2_with (at_builtin; refine wpList_append_own_at _ rfl (.tmp 43) (.tmp 46) 22 rfl (w.heap.size + 2) 5 i0 (.int .u8 0) 1 1 Tryz.underlying22 hi hz0 hz1 hz2 rfl (by decide) _ _ _ rfl HW.out ⟨w2.heap.size, 0, none⟩ 1 1 [.int .u8 c] rfl rfl ?p1b ?p2b ?p3b ?p4b ?p5b ?_)
    try case p1b => exact news_one _ _ _ (by simp)
    try case p2b => first | rfl | (intro u hu; simp at hu; subst hu; rfl)
    try case p3b => first | (simp only [maxLen]; omega) | omega
    try case p4b => omega
    try case p5b => first | (simp only [World.size_alloc]; omega) | omega
    intro v' w3 hown' hg' _ he
    obtain ⟨n3, n4, n6⟩ := HP.out w3 hg'
    have N3 := Lib.hid n3
    have N4 := Lib.hid n4
    have N5 := Lib.hid hown'
    have N6 := Lib.hid n6
    clear n3 n4 n6 hown' hg' he
    go_wp2_with fail
    go_roundw
    case rel =>
     refine ⟨k + 1, hlt, by go_num, ?_, N4.out, ?_, N6.out⟩
     ·rw [HNx.out]; exact N3.out
     ·rw [HO1.out]
      have := N5.out
      rw [HC.out, ← HBy.out] at this
      simpa [Lib.byteCells] using this
    case measure => simp [intOf]; omega
  ·obtain rfl : k = N := by omega
   have HLn := Lib.hid (outS_len (Cong.stepN M F A) (cbit M F A) X k)
   obtain ⟨y, hy⟩ : ∃ y, CycM.iter (Cong.stepN M F A) X k = y := ⟨_, rfl⟩
   obtain ⟨l, hl⟩ : ∃ l, outS (Cong.stepN M F A) (cbit M F A) X k = l := ⟨_, rfl⟩
   rw [hl] at HOo HLn
   rw [hy] at c6 HSs
   have HY := Lib.hid hy
   have HL := Lib.hid hl
   clear hy hl
   have f0 := HRr.out.frz 0
   have f1 := HRr.out.frz 1
   have f2 := HRr.out.frz 2
   have f3 := HRr.out.frz 3
   have f4 := HRr.out.frz 4
   have f5 := HRr.out.frz 5
   have f6 := HRr.out.frz 6
   have g0 := HRr.out.c0
   have g1 := HRr.out.c1
   have g2 := HRr.out.c2
   have g3 := HRr.out.c3
   have g4 := HRr.out.c4
   have g5 := HRr.out.c5
   have g6 := HRr.out.c6
   have RD := Lib.hid (HRr.out.below (Below.drew (Below.refl wr.heap.size wr)) HRr.out.lt)
   have OD := Lib.hid (ownsRow_below HOo.out (Below.drew (Below.refl wr.heap.size wr)))
   have hC1 := conv_any OD.out HLn.out
   have O7 := Lib.hid (World.ownsRow.kept OD.out (grown_set7 wr.drew (w.heap.size + 1) 1 W T M F A (y : Int)) (.inr fun e => by obtain ⟨_, _, h1, _⟩ := ownsRow_block OD.out e; omega))
   have hC2 := conv_any O7.out HLn.out
   have S8 := HRr.out.set7 1 W T M F A (y : Int)
   have p0 := S8.c0
   have p1 := S8.c1
   have p2 := S8.c2
   have p3 := S8.c3
   have p4 := S8.c4
   have p5 := S8.c5
   have p6 := S8.c6
   have B7 := Lib.hid ((HBb.out).trans (grown_below (grown_set7 wr (w.heap.size + 1) 1 W T M F A (y : Int)) (fun g e => by cases e; exact Nat.le_succ _) (show w.heap.size ≤ wr.heap.size by omega)))
   simp only [set7] at hC2 p0 p1 p2 p3 p4 p5 p6
   clear S8
   have mixed : Tryz.prog.follows .mixedOrders = true := by kernel_rfl
   go_wp2_with fail
   go_region_o
   all_goals
    go_wp2
    refine bodyPost_ret (v := .tuple #[.string ⟨l.toArray⟩, .agg #[.int .i64 1, .int .i64 W, .int .i64 T, .int .i64 M, .int .i64 F, .int .i64 A, .int .i64 (y : Int)]]) (by simp [results, Tryz.results32, go_sem, p0, p1, p2, p3, p4, p5, p6]) rfl ⟨by rw [HY.out, HL.out], Below.drew B7.out⟩
end Go.Proofs.YtgipnbeipfhekaaGreatDoor.Take
namespace Go.Proofs.YtgipnbeipfhekaaGreatDoor.Take
open Go.RowKit Go.Proofs.YtgipnbeipfhekaaGreatDoor Go.Proofs.YtgipnbeipfhekaaGreatDoor.Base Go.Proofs.YtgipnbeipfhekaaGreatDoor.Mem Go.Proofs.YtgipnbeipfhekaaGreatDoor.Reg Go.Proofs.YtgipnbeipfhekaaGreatDoor.Str
set_option linter.unusedVariables false
theorem implTake_yes {K W T m f a s c : Int} (hB : streamB K W T m f a s = true) (hc : inR c 0 400 = true) (w : World) : Calls Tryz.prog 32 #[.agg #[.int .i64 K, .int .i64 W, .int .i64 T, .int .i64 m, .int .i64 f, .int .i64 a, .int .i64 s], .int .i64 c] w (TakeR K W T m f a s c w) := by
 obtain ⟨X, N, rfl, rfl, hN, ⟨rfl, V, A, rfl, rfl, hV, hA, hX⟩ | ⟨rfl, M, F, A, rfl, rfl, rfl, h1, h2, h3, h4, h5⟩⟩ := nats hB hc
 ·exact implTake_reg V A X N m f a w hV hA hX hN
 ·exact implTake_con M F A X N W T w h1 h2 h3 h4 h5 hN
def okB (K W T m f a s c : Int) : Bool := streamB K W T m f a s && inR c 0 400
def TBRet (K W T m f a s c : Int) (w : World) (e : Ending) (w' : World) : Prop :=
 (okB K W T m f a s c = true → e = .returned (.tuple #[.string ⟨(takeL K W T m f a s c).toArray⟩, .agg #[.int .i64 K, .int .i64 W, .int .i64 T, .int .i64 m, .int .i64 f, .int .i64 a, .int .i64 (takeX K W T m f a s c)], .bool true])) ∧
 (okB K W T m f a s c = false → e = .returned (.tuple #[.string ⟨#[]⟩, .agg #[.int .i64 0, .int .i64 0, .int .i64 0, .int .i64 0, .int .i64 0, .int .i64 0, .int .i64 0], .bool false])) ∧ Below w.heap.size w w'
theorem TBRet.no {K W T m f a s c : Int} {w w' : World} {e : Ending} (h : okB K W T m f a s c = false) (he : e = .returned (.tuple #[.string ⟨#[]⟩, .agg #[.int .i64 0, .int .i64 0, .int .i64 0, .int .i64 0, .int .i64 0, .int .i64 0, .int .i64 0], .bool false])) (hb : Below w.heap.size w w') : TBRet K W T m f a s c w e w' :=
 ⟨fun h2 => (by rw [h] at h2; cases h2), fun _ => he, hb⟩
theorem TBRet.yes {K W T m f a s c : Int} {w w' : World} {e : Ending} (h : okB K W T m f a s c = true) (he : e = .returned (.tuple #[.string ⟨(takeL K W T m f a s c).toArray⟩, .agg #[.int .i64 K, .int .i64 W, .int .i64 T, .int .i64 m, .int .i64 f, .int .i64 a, .int .i64 (takeX K W T m f a s c)], .bool true])) (hb : Below w.heap.size w w') : TBRet K W T m f a s c w e w' :=
 ⟨fun _ => he, fun h2 => (by rw [h] at h2; cases h2), hb⟩
set_option maxHeartbeats 1000000 in
set_option maxRecDepth 100000 in
theorem implTB_any (K W T m f a s c : Int) (w : World) : Calls Tryz.prog 9 #[.agg #[.int .i64 K, .int .i64 W, .int .i64 T, .int .i64 m, .int .i64 f, .int .i64 a, .int .i64 s], .int .i64 c] w (TBRet K W T m f a s c w) := by
 cases hB : streamB K W T m f a s with
 | false =>
  have HB := Lib.hid hB
  have HN := Lib.hid (fun e w' => TBRet.no (w := w) (w' := w') (e := e) (show okB K W T m f a s c = false by simp [okB, hB]))
  clear hB
  obtain ⟨W1, hW1⟩ : ∃ W1, W1 = (w.alloc (.cells #[.int .i64 K, .int .i64 W, .int .i64 T, .int .i64 m, .int .i64 f, .int .i64 a, .int .i64 s] 29)).alloc (.cells #[.int .i64 0, .int .i64 0, .int .i64 0, .int .i64 0, .int .i64 0, .int .i64 0, .int .i64 0] 29) := ⟨_, rfl⟩
  have R1 : SBox W1 (w.heap.size + 1) 0 0 0 0 0 0 0 := by
   have := SBox.new (w.alloc (.cells #[.int .i64 K, .int .i64 W, .int .i64 T, .int .i64 m, .int .i64 f, .int .i64 a, .int .i64 s] 29)) 0 0 0 0 0 0 0
   rw [World.size_alloc] at this
   rw [hW1]; exact this
  have B1 : Below w.heap.size w W1 := by rw [hW1]; exact ((Below.refl _ _).alloc (Nat.le_refl _) _).alloc (by simp) _
  have HR := Lib.hid R1
  have HB1 := Lib.hid B1
  have HW1 := Lib.hid hW1
  clear R1 B1 hW1
  go_enter Tryz.func9, Tryz.ntmps9
  go_wp2_with (go_at_call 29; rw [← HW1.out]; refine (validStream_any K W T m f a s _).mono ?_; rintro e w1 ⟨rfl, hb1⟩; rw [HB.out]; have y0 := (HR.out.below hb1 HR.out.lt).c0; have y1 := (HR.out.below hb1 HR.out.lt).c1; have y2 := (HR.out.below hb1 HR.out.lt).c2; have y3 := (HR.out.below hb1 HR.out.lt).c3; have y4 := (HR.out.below hb1 HR.out.lt).c4; have y5 := (HR.out.below hb1 HR.out.lt).c5; have y6 := (HR.out.below hb1 HR.out.lt).c6; have e0 := (HR.out.below hb1 HR.out.lt).frz 0; have e1 := (HR.out.below hb1 HR.out.lt).frz 1; have e2 := (HR.out.below hb1 HR.out.lt).frz 2; have e3 := (HR.out.below hb1 HR.out.lt).frz 3; have e4 := (HR.out.below hb1 HR.out.lt).frz 4; have e5 := (HR.out.below hb1 HR.out.lt).frz 5; have e6 := (HR.out.below hb1 HR.out.lt).frz 6; have S8 := (HR.out.below hb1 HR.out.lt).set7 0 0 0 0 0 0 0; have p0 := S8.c0; have p1 := S8.c1; have p2 := S8.c2; have p3 := S8.c3; have p4 := S8.c4; have p5 := S8.c5; have p6 := S8.c6; simp only [set7] at p0 p1 p2 p3 p4 p5 p6; clear S8; have HB2 := Lib.hid (HB1.out.trans (hb1.mono HB1.out.size)))
  refine bodyPost_ret (v := .tuple #[.string ⟨#[]⟩, .agg #[.int .i64 0, .int .i64 0, .int .i64 0, .int .i64 0, .int .i64 0, .int .i64 0, .int .i64 0], .bool false]) (by simp [results, Tryz.results9, go_sem, p0, p1, p2, p3, p4, p5, p6]) rfl (HN.out _ _ rfl ?_)
  exact (((((((HB2.out.setCell (by simp) _).setCell (by simp) _).setCell (by simp) _).setCell (by simp) _).setCell (by simp) _).setCell (by simp) _).setCell (by simp) _)
 | true =>
  cases hc : inR c 0 400 with
  | false =>
   have HB := Lib.hid hB
   have HC := Lib.hid hc
   have HN := Lib.hid (fun e w' => TBRet.no (w := w) (w' := w') (e := e) (show okB K W T m f a s c = false by simp [okB, hB, hc]))
   clear hB hc
   obtain ⟨W1, hW1⟩ : ∃ W1, W1 = (w.alloc (.cells #[.int .i64 K, .int .i64 W, .int .i64 T, .int .i64 m, .int .i64 f, .int .i64 a, .int .i64 s] 29)).alloc (.cells #[.int .i64 0, .int .i64 0, .int .i64 0, .int .i64 0, .int .i64 0, .int .i64 0, .int .i64 0] 29) := ⟨_, rfl⟩
   have R1 : SBox W1 (w.heap.size + 1) 0 0 0 0 0 0 0 := by
    have := SBox.new (w.alloc (.cells #[.int .i64 K, .int .i64 W, .int .i64 T, .int .i64 m, .int .i64 f, .int .i64 a, .int .i64 s] 29)) 0 0 0 0 0 0 0
    rw [World.size_alloc] at this
    rw [hW1]; exact this
   have B1 : Below w.heap.size w W1 := by rw [hW1]; exact ((Below.refl _ _).alloc (Nat.le_refl _) _).alloc (by simp) _
   have HR := Lib.hid R1
   have HB1 := Lib.hid B1
   have HW1 := Lib.hid hW1
   clear R1 B1 hW1
   go_enter Tryz.func9, Tryz.ntmps9
   go_wp2_with (first | (go_at_call 29; rw [← HW1.out]; refine (validStream_any K W T m f a s _).mono ?_; rintro e w1 ⟨rfl, hb1⟩; rw [HB.out]; have y0 := (HR.out.below hb1 HR.out.lt).c0; have y1 := (HR.out.below hb1 HR.out.lt).c1; have y2 := (HR.out.below hb1 HR.out.lt).c2; have y3 := (HR.out.below hb1 HR.out.lt).c3; have y4 := (HR.out.below hb1 HR.out.lt).c4; have y5 := (HR.out.below hb1 HR.out.lt).c5; have y6 := (HR.out.below hb1 HR.out.lt).c6; have e0 := (HR.out.below hb1 HR.out.lt).frz 0; have e1 := (HR.out.below hb1 HR.out.lt).frz 1; have e2 := (HR.out.below hb1 HR.out.lt).frz 2; have e3 := (HR.out.below hb1 HR.out.lt).frz 3; have e4 := (HR.out.below hb1 HR.out.lt).frz 4; have e5 := (HR.out.below hb1 HR.out.lt).frz 5; have e6 := (HR.out.below hb1 HR.out.lt).frz 6; have S8 := (HR.out.below hb1 HR.out.lt).set7 0 0 0 0 0 0 0; have p0 := S8.c0; have p1 := S8.c1; have p2 := S8.c2; have p3 := S8.c3; have p4 := S8.c4; have p5 := S8.c5; have p6 := S8.c6; simp only [set7] at p0 p1 p2 p3 p4 p5 p6; clear S8; have HB2 := Lib.hid (HB1.out.trans (hb1.mono HB1.out.size))) | (go_at_call 31; refine (inRange_any _ _ _ _).mono ?_; rintro e w' ⟨rfl, rfl⟩; rw [HC.out]))
   refine bodyPost_ret (v := .tuple #[.string ⟨#[]⟩, .agg #[.int .i64 0, .int .i64 0, .int .i64 0, .int .i64 0, .int .i64 0, .int .i64 0, .int .i64 0], .bool false]) (by simp [results, Tryz.results9, go_sem, p0, p1, p2, p3, p4, p5, p6]) rfl (HN.out _ _ rfl ?_)
   exact (((((((HB2.out.setCell (by simp) _).setCell (by simp) _).setCell (by simp) _).setCell (by simp) _).setCell (by simp) _).setCell (by simp) _).setCell (by simp) _)
  | true =>
   have HB := Lib.hid hB
   have HC := Lib.hid hc
   have HY := Lib.hid (fun e w' => TBRet.yes (w := w) (w' := w') (e := e) (show okB K W T m f a s c = true by simp [okB, hB, hc]))
   have HT := Lib.hid (fun w => implTake_yes hB hc w)
   clear hB hc
   obtain ⟨l, hl⟩ : ∃ l, takeL K W T m f a s c = l := ⟨_, rfl⟩
   obtain ⟨x, hx⟩ : ∃ x, takeX K W T m f a s c = x := ⟨_, rfl⟩
   unfold TakeR at HT
   rw [hl, hx] at HY HT
   clear hl hx
   obtain ⟨W1, hW1⟩ : ∃ W1, W1 = (w.alloc (.cells #[.int .i64 K, .int .i64 W, .int .i64 T, .int .i64 m, .int .i64 f, .int .i64 a, .int .i64 s] 29)).alloc (.cells #[.int .i64 0, .int .i64 0, .int .i64 0, .int .i64 0, .int .i64 0, .int .i64 0, .int .i64 0] 29) := ⟨_, rfl⟩
   have R1 : SBox W1 (w.heap.size + 1) 0 0 0 0 0 0 0 := by
    have := SBox.new (w.alloc (.cells #[.int .i64 K, .int .i64 W, .int .i64 T, .int .i64 m, .int .i64 f, .int .i64 a, .int .i64 s] 29)) 0 0 0 0 0 0 0
    rw [World.size_alloc] at this
    rw [hW1]; exact this
   have B1 : Below w.heap.size w W1 := by rw [hW1]; exact ((Below.refl _ _).alloc (Nat.le_refl _) _).alloc (by simp) _
   have HR := Lib.hid R1
   have HB1 := Lib.hid B1
   have HW1 := Lib.hid hW1
   have S1 : SBox W1 w.heap.size K W T m f a s := by
    have := (SBox.new w K W T m f a s).below ((Below.refl (w.heap.size + 1) _).alloc (by simp) (.cells #[.int .i64 0, .int .i64 0, .int .i64 0, .int .i64 0, .int .i64 0, .int .i64 0, .int .i64 0] 29)) (Nat.lt_succ_self _)
    rw [hW1]; exact this
   have HS1 := Lib.hid S1
   clear R1 B1 hW1 S1
   go_enter Tryz.func9, Tryz.ntmps9
   go_wp2_with (first | (go_at_call 29; rw [← HW1.out]; refine (validStream_any K W T m f a s _).mono ?_; rintro e w1 ⟨rfl, hb1⟩; rw [HB.out]; have d0 := (HS1.out.below hb1 HS1.out.lt).c0; have d1 := (HS1.out.below hb1 HS1.out.lt).c1; have d2 := (HS1.out.below hb1 HS1.out.lt).c2; have d3 := (HS1.out.below hb1 HS1.out.lt).c3; have d4 := (HS1.out.below hb1 HS1.out.lt).c4; have d5 := (HS1.out.below hb1 HS1.out.lt).c5; have d6 := (HS1.out.below hb1 HS1.out.lt).c6; have HR2 := HR.out.below hb1 HR.out.lt; have HB2 := HB1.out.trans (hb1.mono HB1.out.size)) | (go_at_call 31; refine (inRange_any _ _ _ _).mono ?_; rintro e w' ⟨rfl, rfl⟩; rw [HC.out]) | (go_at_call 32; refine (HT.out _).mono ?_; rintro e w2 ⟨rfl, hb2⟩))
   have t1 := HR2.below hb2 HR2.lt
   have hz2 := hb2.size
   have hr2 := HR2.lt
   have B2 := Lib.hid (HB2.trans (hb2.mono HB2.size))
   clear hb2 HR2 HB2
   obtain ⟨w3, hw3⟩ : ∃ w3, w3 = w2.alloc (.cells #[.int .i64 K, .int .i64 W, .int .i64 T, .int .i64 m, .int .i64 f, .int .i64 a, .int .i64 x] 29) := ⟨_, rfl⟩
   have b3 : Below w2.heap.size w2 w3 := by rw [hw3]; exact (Below.refl _ _).alloc (Nat.le_refl _) _
   have u0 : SBox w3 w2.heap.size K W T m f a x := by rw [hw3]; exact SBox.new _ _ _ _ _ _ _ _
   have u1 := t1.below b3 t1.lt
   have HW3 := Lib.hid hw3
   have HB3 := Lib.hid (B2.out.trans (b3.mono B2.out.size))
   have hlt := t1.lt
   have x0 := u0.c0
   have x1 := u0.c1
   have x2 := u0.c2
   have x3 := u0.c3
   have x4 := u0.c4
   have x5 := u0.c5
   have x6 := u0.c6
   have g0 := u1.frz 0
   have g1 := u1.frz 1
   have g2 := u1.frz 2
   have g3 := u1.frz 3
   have g4 := u1.frz 4
   have g5 := u1.frz 5
   have g6 := u1.frz 6
   have h0 := u1.c0
   have h1 := u1.c1
   have h2 := u1.c2
   have h3 := u1.c3
   have h4 := u1.c4
   have h5 := u1.c5
   have h6 := u1.c6
   have S8 := u1.set7 K W T m f a x
   have p0 := S8.c0
   have p1 := S8.c1
   have p2 := S8.c2
   have p3 := S8.c3
   have p4 := S8.c4
   have p5 := S8.c5
   have p6 := S8.c6
   simp only [set7] at p0 p1 p2 p3 p4 p5 p6
   have B7 := Lib.hid (HB3.out.trans (grown_below (grown_set7 w3 (w.heap.size + 1) K W T m f a x) (fun g e => by cases e; exact Nat.le_succ _) HB3.out.size))
   have mixed : Tryz.prog.follows .mixedOrders = true := by kernel_rfl
   clear t1 hw3 u0 u1 S8 b3
   go_wp2_with fail
   rw [← HW3.out]
   go_region_o
   all_goals
    go_wp2
    refine bodyPost_ret (v := .tuple #[.string ⟨l.toArray⟩, .agg #[.int .i64 K, .int .i64 W, .int .i64 T, .int .i64 m, .int .i64 f, .int .i64 a, .int .i64 x], .bool true]) ?_ rfl (HY.out _ _ rfl ?_)
    ·simp [results, Tryz.results9, go_sem, p0, p1, p2, p3, p4, p5, p6]
    ·exact Below.drew B7.out
end Go.Proofs.YtgipnbeipfhekaaGreatDoor.Take
namespace Go.Proofs.YtgipnbeipfhekaaGreatDoor.Take
open Go.RowKit Go.Proofs.YtgipnbeipfhekaaGreatDoor Go.Proofs.YtgipnbeipfhekaaGreatDoor.Base Go.Proofs.YtgipnbeipfhekaaGreatDoor.Mem Go.Proofs.YtgipnbeipfhekaaGreatDoor.Reg Go.Proofs.YtgipnbeipfhekaaGreatDoor.Str
set_option linter.unusedVariables false
end Go.Proofs.YtgipnbeipfhekaaGreatDoor.Take
namespace Go.Proofs.YtgipnbeipfhekaaGreatDoor.MemS
open Go.RowKit Go.Proofs.YtgipnbeipfhekaaGreatDoor Go.Proofs.YtgipnbeipfhekaaGreatDoor.Base Go.Proofs.YtgipnbeipfhekaaGreatDoor.Mem Go.Proofs.YtgipnbeipfhekaaGreatDoor.Take
set_option linter.unusedVariables false
def RdS (w : World) (B : Nat) (A : Option Addr) (n : Nat) (fs : List Int) : Prop :=
 0 < n → ∃ b off, A = some ⟨b, off, none⟩ ∧ b < B ∧ ∀ i, i < 7 * n → w.cell? ⟨b, off + i, none⟩ = some (.int .i64 (fs.getD i 0))
theorem RdS.below {w w' : World} {B C n : Nat} {A : Option Addr} {fs : List Int} (h : RdS w B A n fs) (hb : Below C w w') (hBC : B ≤ C) : RdS w' B A n fs := fun h0 => by
 obtain ⟨b, off, e, hlt, hc⟩ := h h0
 exact ⟨b, off, e, hlt, fun i hi => (hb.cell (p := ⟨b, off + i, none⟩) (by show b < C; omega)).trans (hc i hi)⟩
theorem RdS.more {w : World} {B C n : Nat} {A : Option Addr} {fs : List Int} (h : RdS w B A n fs) (hBC : B ≤ C) : RdS w C A n fs := fun h0 => by
 obtain ⟨b, off, e, hlt, hc⟩ := h h0
 exact ⟨b, off, e, by omega, hc⟩
def OwnS (w : World) (B : Nat) (v : Value) (n : Nat) (fs : List Int) : Prop := w.ownsRow B 29 7 v n (ints fs)
theorem OwnS.len {w : World} {B n : Nat} {v : Value} {fs : List Int} (h : OwnS w B v n fs) : fs.length = 7 * n := by
 have := h.1
 rw [ints_len] at this
 omega
theorem OwnS.form {w : World} {B n : Nat} {v : Value} {fs : List Int} (h : OwnS w B v n fs) : ∃ A c, v = .slice A n c ∧ (0 < n → ∃ g, A = some ⟨g, 0, none⟩ ∧ B ≤ g ∧ g < w.heap.size) := ownsRow_form h
theorem OwnS.rd {w : World} {B n m c : Nat} {A : Option Addr} {fs : List Int} (h : OwnS w B (.slice A m c) n fs) : RdS w w.heap.size A n fs := fun h0 => by
 obtain ⟨A', c', e, hf⟩ := ownsRow_form h
 injection e with e1 e2 e3
 subst e1 e2 e3
 obtain ⟨g, rfl, _, hlt⟩ := hf h0
 refine ⟨g, 0, rfl, hlt, fun i hi => ?_⟩
 have hl := h.len
 rw [Nat.zero_add, World.ownsRow.cellAt h i (by omega), ints_get fs i (by omega)]
theorem OwnS.below {w w' : World} {B n : Nat} {v : Value} {fs : List Int} (h : OwnS w B v n fs) (hb : Below w.heap.size w w') : OwnS w' B v n fs := ownsRow_below h hb
theorem RdS.at {w : World} {B n : Nat} {A : Option Addr} {fs : List Int} (h : RdS w B A n fs) {j : Nat} (hj : j < n) : ∃ b off, A = some ⟨b, off, none⟩ ∧ b < B ∧ ∀ i, i < 7 → w.cell? ⟨b, off + j * 7 + i, none⟩ = some (.int .i64 (fs.getD (7 * j + i) 0)) := by
 obtain ⟨b, off, e, hlt, hc⟩ := h (by omega)
 exact ⟨b, off, e, hlt, fun i hi => by have := hc (7 * j + i) (by omega); rw [← Nat.add_assoc] at this; rw [Nat.mul_comm j 7]; exact this⟩
structure At7 (w : World) (b q : Nat) (a : Nat → Int) : Prop where
 c0 : w.cell? ⟨b, q, none⟩ = some (.int .i64 (a 0))
 c1 : w.cell? ⟨b, q + 1, none⟩ = some (.int .i64 (a 1))
 c2 : w.cell? ⟨b, q + 2, none⟩ = some (.int .i64 (a 2))
 c3 : w.cell? ⟨b, q + 3, none⟩ = some (.int .i64 (a 3))
 c4 : w.cell? ⟨b, q + 4, none⟩ = some (.int .i64 (a 4))
 c5 : w.cell? ⟨b, q + 5, none⟩ = some (.int .i64 (a 5))
 c6 : w.cell? ⟨b, q + 6, none⟩ = some (.int .i64 (a 6))
theorem At7.below {w w' : World} {b q C : Nat} {a : Nat → Int} (h : At7 w b q a) (hb : Below C w w') (hC : b < C) : At7 w' b q a :=
 ⟨(hb.cell (p := ⟨b, q, none⟩) hC).trans h.c0, (hb.cell (p := ⟨b, q + 1, none⟩) hC).trans h.c1, (hb.cell (p := ⟨b, q + 2, none⟩) hC).trans h.c2, (hb.cell (p := ⟨b, q + 3, none⟩) hC).trans h.c3, (hb.cell (p := ⟨b, q + 4, none⟩) hC).trans h.c4, (hb.cell (p := ⟨b, q + 5, none⟩) hC).trans h.c5, (hb.cell (p := ⟨b, q + 6, none⟩) hC).trans h.c6⟩
theorem RdS.at7 {w : World} {B n : Nat} {A : Option Addr} {fs : List Int} (h : RdS w B A n fs) {j : Nat} (hj : j < n) : ∃ b off, A = some ⟨b, off, none⟩ ∧ b < B ∧ At7 w b (off + j * 7) (fun i => fs.getD (7 * j + i) 0) := by
 obtain ⟨b, off, e, hlt, hc⟩ := h.at hj
 exact ⟨b, off, e, hlt, hc 0 (by decide), hc 1 (by decide), hc 2 (by decide), hc 3 (by decide), hc 4 (by decide), hc 5 (by decide), hc 6 (by decide)⟩
end Go.Proofs.YtgipnbeipfhekaaGreatDoor.MemS
namespace Go.Proofs.YtgipnbeipfhekaaGreatDoor.LabM
open Go.RowKit Go.Proofs.YtgipnbeipfhekaaGreatDoor Go.Proofs.YtgipnbeipfhekaaGreatDoor.Base Go.Proofs.YtgipnbeipfhekaaGreatDoor.Mem Go.Proofs.YtgipnbeipfhekaaGreatDoor.Cpy Go.Proofs.YtgipnbeipfhekaaGreatDoor.MemS Go.Proofs.YtgipnbeipfhekaaGreatDoor.Str
set_option linter.unusedVariables false
theorem infoT : (Tryz.prog.info? 9).map (fun i => (i.zero, i.size, i.bytes)) = some (some (.string ByteArray.empty), 1, 16) := by kernel_rfl
def texts (ss : List ByteArray) : List Value := ss.map Value.string
def RdT (w : World) (B : Nat) (A : Option Addr) (ss : List ByteArray) : Prop :=
 0 < ss.length → ∃ b off, A = some ⟨b, off, none⟩ ∧ b < B ∧ ∀ i, i < ss.length → w.cell? ⟨b, off + i, none⟩ = some (.string (ss.getD i ByteArray.empty))
theorem RdT.below {w w' : World} {B C : Nat} {A : Option Addr} {ss : List ByteArray} (h : RdT w B A ss) (hb : Below C w w') (hBC : B ≤ C) : RdT w' B A ss := fun h0 => by
 obtain ⟨b, off, e, hlt, hc⟩ := h h0
 exact ⟨b, off, e, hlt, fun i hi => (hb.cell (p := ⟨b, off + i, none⟩) (by show b < C; omega)).trans (hc i hi)⟩
theorem RdT.more {w : World} {B C : Nat} {A : Option Addr} {ss : List ByteArray} (h : RdT w B A ss) (hBC : B ≤ C) : RdT w C A ss := fun h0 => by
 obtain ⟨b, off, e, hlt, hc⟩ := h h0
 exact ⟨b, off, e, by omega, hc⟩
def OwnT (w : World) (B : Nat) (v : Value) (ss : List ByteArray) : Prop := w.ownsRow B 9 1 v ss.length (texts ss)
theorem OwnT.rd {w : World} {B n c : Nat} {A : Option Addr} {ss : List ByteArray} (h : OwnT w B (.slice A n c) ss) : RdT w w.heap.size A ss := fun h0 => by
 obtain ⟨A', c', e, hf⟩ := ownsRow_form h
 injection e with e1 e2 e3
 subst e1 e2 e3
 obtain ⟨g, rfl, _, hlt⟩ := hf h0
 refine ⟨g, 0, rfl, hlt, fun i hi => ?_⟩
 rw [Nat.zero_add, World.ownsRow.cellAt h i (by omega)]
 simp [texts, List.getD, hi]
def put7 (w : World) (g q : Nat) (f : Nat → Int) : World :=
 ((((((w.setCell ⟨g, q, none⟩ (.int .i64 (f 0))).setCell ⟨g, q + 1, none⟩ (.int .i64 (f 1))).setCell ⟨g, q + 2, none⟩ (.int .i64 (f 2))).setCell ⟨g, q + 3, none⟩ (.int .i64 (f 3))).setCell ⟨g, q + 4, none⟩ (.int .i64 (f 4))).setCell ⟨g, q + 5, none⟩ (.int .i64 (f 5))).setCell ⟨g, q + 6, none⟩ (.int .i64 (f 6))
theorem infoSt7 : (Tryz.prog.info? 29).map (fun i => (i.zero, i.size, i.bytes)) = some (some (.agg #[.int .i64 0, .int .i64 0, .int .i64 0, .int .i64 0, .int .i64 0, .int .i64 0, .int .i64 0]), 7, 56) := by kernel_rfl
end Go.Proofs.YtgipnbeipfhekaaGreatDoor.LabM

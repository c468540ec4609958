/- Openers: what is known of an argument's value. -/
import Derived.Test.YtpjepheiagllgaaDoorRows
import Derived.Test.YtpjepheiagllgaaDoorMgFnJ00
import Derived.Deep.Matrix
import Derived.ProofKit
import Derived.OpenShut
import Derived.Lib.SmallJoins
import Derived.Test.YtpjepheiagllgaaDoorMgFnJ03
import Derived.Deep.RegionWith
import Derived.Test.YtpjepheiagllgaaDoorMgFnJ02
import Derived.Laws.StructEq
import Derived.Laws.IdiomStrings
import Derived.Lib.BufferRead
namespace Go.Proofs.YtpjepheiagllgaaDoor.Open
open Go.ChangeShapes Go.WideShapes Go.ChangeAt Go.RowKit Go.Joins Go.Proofs.YtpjepheiagllgaaDoor
set_option linter.unusedVariables false
set_option maxRecDepth 100000
section
variable {H : Type} {enc : TypeId × Value → H} {w : World} {base b0 : Nat} {spare : Nat → Bool} {held : Bool} {v : Value} {d : DataW H} {p : List MemPlace}
theorem addr_add {a : Addr} (h : a.spot = none) (i : Nat) : a.add i = ⟨a.block, a.off + i, none⟩ := by
 obtain ⟨b, off, spot⟩ := a
 simp at h; subst h
 unfold Addr.add
 split <;> simp_all
theorem spot_of {a : Addr} {u : Value} (h : w.cell? (a.add 0) = some u) : a.spot = none ∧ a.block < w.heap.size := by
 have e : a.add 0 = a := by simp [Addr.add]
 rw [e] at h
 exact ⟨World.cell?_spot h, block_lt_of_cell h⟩
theorem cells8 : Tryd.prog.cellsOf 5 = 1 := by kernel_rfl
structure IsBytes (w : World) (v : Value) : Prop where
 ex : ∃ (A : Option Addr) (c : Nat) (zs : List Int), v = .slice A zs.length c ∧ zs.length ≤ 9223372036854775807 ∧ (∀ z ∈ zs, 0 ≤ z ∧ z ≤ 255) ∧ Mem.RdB w w.heap.size A zs
theorem bytes (hv : Value.okWide Tryd.prog w .any b0 22 v) (h : DataW.Trod enc Tryd.prog w base (fun _ => true) held 22 v d p) : IsBytes w v := by
 obtain ⟨a, len, cap, rfl⟩ := okWide_slice Tryd.underlying22 hv
 obtain ⟨fuel, hf⟩ := h
 rcases open_ints Tryd.underlying22 Tryd.underlying5 cells8 hf with ⟨hcs, _⟩ | ⟨x, l, c, zs, hcs, _, hl, hm, hz, _, hcell, hwz⟩
 ·simp [Value.cells] at hcs
  obtain ⟨rfl, rfl, rfl⟩ := hcs
  exact ⟨none, 0, [], rfl, by decide, by simp, fun h => absurd h (by simp)⟩
 ·simp [Value.cells] at hcs
  obtain ⟨rfl, rfl, rfl⟩ := hcs
  simp only [if_true] at hz
  have hlen : (zs.take len).length = len := by rw [List.length_take]; omega
  refine ⟨some x, cap, zs.take len, by rw [hlen], ?_, fun z hzm => ?_, fun h0 => ?_⟩
  ·rw [hlen]; unfold maxLen at hm; omega
  ·have := hwz z (List.mem_of_mem_take hzm)
   simp [Lit.wf, IntKind.min, IntKind.max, IntKind.signed, IntKind.bits] at this
   omega
  ·rw [hlen] at h0
   obtain ⟨hs, hb⟩ := spot_of (hcell 0 (by omega))
   refine ⟨x.block, x.off, by cases x; simp_all, hb, fun i hi => ?_⟩
   rw [hlen] at hi
   rw [← addr_add hs, hcell i (by omega)]
   simp [List.getD, hi]
theorem cellsI1 : Tryd.prog.cellsOf 2 = 1 := by kernel_rfl
structure IsInts (w : World) (v : Value) : Prop where
 ex : ∃ (A : Option Addr) (c : Nat) (zs : List Int), v = .slice A zs.length c ∧ zs.length ≤ 9223372036854775807 ∧ (∀ z ∈ zs, -9223372036854775808 ≤ z ∧ z ≤ 9223372036854775807) ∧ Mem.RdI w w.heap.size A zs
theorem ints (hv : Value.okWide Tryd.prog w .any b0 78 v) (h : DataW.Trod enc Tryd.prog w base (fun _ => true) held 78 v d p) : IsInts w v := by
 obtain ⟨a, len, cap, rfl⟩ := okWide_slice Tryd.underlying78 hv
 obtain ⟨fuel, hf⟩ := h
 rcases open_ints Tryd.underlying78 Tryd.underlying2 cellsI1 hf with ⟨hcs, _⟩ | ⟨x, l, c, zs, hcs, _, hl, hm, hz, _, hcell, hwz⟩
 ·simp [Value.cells] at hcs
  obtain ⟨rfl, rfl, rfl⟩ := hcs
  exact ⟨none, 0, [], rfl, by decide, by simp, fun h => absurd h (by simp)⟩
 ·simp [Value.cells] at hcs
  obtain ⟨rfl, rfl, rfl⟩ := hcs
  simp only [if_true] at hz
  have hlen : (zs.take len).length = len := by rw [List.length_take]; omega
  refine ⟨some x, cap, zs.take len, by rw [hlen], ?_, fun z hzm => ?_, fun h0 => ?_⟩
  ·rw [hlen]; unfold maxLen at hm; omega
  ·have := hwz z (List.mem_of_mem_take hzm)
   simp [Lit.wf, IntKind.min, IntKind.max, IntKind.signed, IntKind.bits] at this
   omega
  ·rw [hlen] at h0
   obtain ⟨hs, hb⟩ := spot_of (hcell 0 (by omega))
   refine ⟨x.block, x.off, by cases x; simp_all, hb, fun i hi => ?_⟩
   rw [hlen] at hi
   rw [← addr_add hs, hcell i (by omega)]
   simp [List.getD, hi]
end
end Go.Proofs.YtpjepheiagllgaaDoor.Open
namespace Go.Proofs.YtpjepheiagllgaaDoor.NetV
open Go.RowKit Go.Proofs.YtpjepheiagllgaaDoor Go.Proofs.YtpjepheiagllgaaDoor.Base Go.Proofs.YtpjepheiagllgaaDoor.Mem Go.Proofs.YtpjepheiagllgaaDoor.Cpy
set_option linter.unusedVariables false
end Go.Proofs.YtpjepheiagllgaaDoor.NetV
namespace Go.Proofs.YtpjepheiagllgaaDoor.RevNet
open Go.RowKit Go.Proofs.YtpjepheiagllgaaDoor Go.Proofs.YtpjepheiagllgaaDoor.Base Go.Proofs.YtpjepheiagllgaaDoor.Mem Go.Proofs.YtpjepheiagllgaaDoor.Pts Go.Proofs.YtpjepheiagllgaaDoor.NetV
set_option linter.unusedVariables false
theorem block_lt {w : World} {g : Nat} {o : Obj} (h : w.heap[g]? = some o) : g < w.heap.size := by
 rcases Nat.lt_or_ge g w.heap.size with hlt | hge
 ·exact hlt
 ·rw [Array.getElem?_eq_none hge] at h; cases h
end Go.Proofs.YtpjepheiagllgaaDoor.RevNet
namespace Go.Proofs.YtpjepheiagllgaaDoor.DrawN
open Go.RowKit Go.Proofs.YtpjepheiagllgaaDoor Go.Proofs.YtpjepheiagllgaaDoor.Base Go.Proofs.YtpjepheiagllgaaDoor.Mem Go.Proofs.YtpjepheiagllgaaDoor.Pts Go.Proofs.YtpjepheiagllgaaDoor.NetV Go.Proofs.YtpjepheiagllgaaDoor.RevNet Go.Proofs.YtpjepheiagllgaaDoor.Bits Go.Proofs.YtpjepheiagllgaaDoor.Src
set_option linter.unusedVariables false
structure Beside (p : Nat) (w w' : World) : Prop where
 size : w.heap.size ≤ w'.heap.size
 same : ∀ q, q < w.heap.size → q ≠ p → w'.heap[q]? = w.heap[q]?
theorem Beside.refl (p : Nat) (w : World) : Beside p w w := ⟨Nat.le_refl _, fun _ _ _ => rfl⟩
theorem Beside.trans {p : Nat} {a b c : World} (h : Beside p a b) (k : Beside p b c) : Beside p a c :=
 ⟨Nat.le_trans h.size k.size, fun q h1 h2 => (k.same q (Nat.lt_of_lt_of_le h1 h.size) h2).trans (h.same q h1 h2)⟩
theorem Beside.grown {p : Nat} {w w' : World} (h : w.grownBy w' (some p)) : Beside p w w' := ⟨h.size, fun q h1 h2 => h.block q h1 fun e => h2 (Option.some.inj e)⟩
theorem Beside.below {p : Nat} {w w' : World} (h : Below w.heap.size w w') : Beside p w w' := ⟨h.size, fun q h1 _ => h.block q h1⟩
end Go.Proofs.YtpjepheiagllgaaDoor.DrawN
namespace Go.Proofs.YtpjepheiagllgaaDoor.RBits
open Go.RowKit Go.Proofs.YtpjepheiagllgaaDoor Go.Proofs.YtpjepheiagllgaaDoor.Base Go.Proofs.YtpjepheiagllgaaDoor.Mem Go.Proofs.YtpjepheiagllgaaDoor.Reg Go.Proofs.YtpjepheiagllgaaDoor.Bld Go.Proofs.YtpjepheiagllgaaDoor.Src
set_option linter.unusedVariables false
theorem IsB.below {B b : Nat} {bs : List Value} {w w' : World} (h : IsB B b bs w) (hb : Below w.heap.size w w') : IsB B b bs w' := by
 have key : ∀ p, Lib.BuilderAt 43 5 B b p bs w → Lib.BuilderAt 43 5 B b p bs w' := fun p h => by
  have hlt := h.lt
  obtain ⟨hB, v, hbk, hown, hne⟩ := h
  exact ⟨hB, v, (hb.block b hlt).trans hbk, ownsRow_below hown hb, hne⟩
 rcases h with h | h
 ·exact .inl (key _ h)
 ·exact .inr (key _ h)
end Go.Proofs.YtpjepheiagllgaaDoor.RBits
namespace Go.Proofs.YtpjepheiagllgaaDoor.Cong
open Go.RowKit Go.Proofs.YtpjepheiagllgaaDoor Go.Proofs.YtpjepheiagllgaaDoor.Base
set_option linter.unusedVariables false
end Go.Proofs.YtpjepheiagllgaaDoor.Cong
namespace Go.Proofs.YtpjepheiagllgaaDoor.Cong
open Go.RowKit Go.Proofs.YtpjepheiagllgaaDoor Go.Proofs.YtpjepheiagllgaaDoor.Base
set_option linter.unusedVariables false
def bothB (m f a x : Int) : Bool := congB m f a && inR x 0 (m - 1)
theorem bothB_true {m f a x : Int} (h : bothB m f a x = true) : 2 ≤ m ∧ m ≤ 100000 ∧ 0 ≤ f ∧ f < m ∧ 0 ≤ a ∧ a < m ∧ 0 ≤ x ∧ x < m := by
 simp only [bothB, Bool.and_eq_true] at h
 have h1 := congB_true h.1
 have h2 := inR_true h.2
 omega
end Go.Proofs.YtpjepheiagllgaaDoor.Cong
namespace Go.Proofs.YtpjepheiagllgaaDoor.Str
open Go.RowKit Go.Proofs.YtpjepheiagllgaaDoor Go.Proofs.YtpjepheiagllgaaDoor.Base
set_option linter.unusedVariables false
def zc (m f a : Int) : Bool := m == 0 && (f == 0 && a == 0)
def zr (W T : Int) : Bool := W == 0 && T == 0
def streamB (K W T m f a s : Int) : Bool := if K = 0 then zc m f a && Reg.bothR W T s else if K = 1 then zr W T && Cong.bothB m f a s else false
end Go.Proofs.YtpjepheiagllgaaDoor.Str
namespace Go.Proofs.YtpjepheiagllgaaDoor.Str
open Go.RowKit Go.Proofs.YtpjepheiagllgaaDoor Go.Proofs.YtpjepheiagllgaaDoor.Base
set_option linter.unusedVariables false
theorem streamB_true {K W T m f a s : Int} (h : streamB K W T m f a s = true) : (K = 0 ∧ Reg.bothR W T s = true) ∨ (K = 1 ∧ Cong.bothB m f a s = true) := by
 unfold streamB at h
 by_cases h0 : K = 0
 ·rw [if_pos h0, Bool.and_eq_true] at h
  exact .inl ⟨h0, h.2⟩
 ·rw [if_neg h0] at h
  by_cases h1 : K = 1
  ·rw [if_pos h1, Bool.and_eq_true] at h
   exact .inr ⟨h1, h.2⟩
  ·rw [if_neg h1] at h
   cases h
end Go.Proofs.YtpjepheiagllgaaDoor.Str
namespace Go.Proofs.YtpjepheiagllgaaDoor.Take
open Go.RowKit Go.Proofs.YtpjepheiagllgaaDoor Go.Proofs.YtpjepheiagllgaaDoor.Base Go.Proofs.YtpjepheiagllgaaDoor.Mem Go.Proofs.YtpjepheiagllgaaDoor.Reg Go.Proofs.YtpjepheiagllgaaDoor.Bld Go.Proofs.YtpjepheiagllgaaDoor.Str Go.Proofs.YtpjepheiagllgaaDoor.RBits
set_option linter.unusedVariables false
def SBox (w : World) (b : Nat) (K W T m f a s : Int) : Prop := w.heap[b]? = some (.cells #[.int .i64 K, .int .i64 W, .int .i64 T, .int .i64 m, .int .i64 f, .int .i64 a, .int .i64 s] 67 (0, 0))
theorem SBox.new (w : World) (K W T m f a s : Int) : SBox (w.alloc (.cells #[.int .i64 K, .int .i64 W, .int .i64 T, .int .i64 m, .int .i64 f, .int .i64 a, .int .i64 s] 67)) w.heap.size K W T m f a s := by
 unfold SBox
 show (w.heap.push _)[w.heap.size]? = _
 simp
section
variable {w w' : World} {b : Nat} {K W T m f a s : Int}
theorem SBox.lt (h : SBox w b K W T m f a s) : b < w.heap.size := RevNet.block_lt h
theorem SBox.c0 (h : SBox w b K W T m f a s) : w.cell? ⟨b, 0, none⟩ = some (.int .i64 K) := by rw [Lib.cell_of_heap h]; rfl
theorem SBox.c1 (h : SBox w b K W T m f a s) : w.cell? ⟨b, 1, none⟩ = some (.int .i64 W) := by rw [Lib.cell_of_heap h]; rfl
theorem SBox.c2 (h : SBox w b K W T m f a s) : w.cell? ⟨b, 2, none⟩ = some (.int .i64 T) := by rw [Lib.cell_of_heap h]; rfl
theorem SBox.c3 (h : SBox w b K W T m f a s) : w.cell? ⟨b, 3, none⟩ = some (.int .i64 m) := by rw [Lib.cell_of_heap h]; rfl
theorem SBox.c4 (h : SBox w b K W T m f a s) : w.cell? ⟨b, 4, none⟩ = some (.int .i64 f) := by rw [Lib.cell_of_heap h]; rfl
theorem SBox.c5 (h : SBox w b K W T m f a s) : w.cell? ⟨b, 5, none⟩ = some (.int .i64 a) := by rw [Lib.cell_of_heap h]; rfl
theorem SBox.c6 (h : SBox w b K W T m f a s) : w.cell? ⟨b, 6, none⟩ = some (.int .i64 s) := by rw [Lib.cell_of_heap h]; rfl
theorem SBox.frz (h : SBox w b K W T m f a s) (i : Nat) : w.frozen? ⟨b, i, none⟩ = false := Lib.frozen_of_heap h i
theorem SBox.below {B : Nat} (h : SBox w b K W T m f a s) (hb : Below B w w') (hB : b < B) : SBox w' b K W T m f a s := (hb.block b hB).trans h
theorem SBox.kept {row : Option Nat} (h : SBox w b K W T m f a s) (hg : w.grownBy w' row) (hne : row ≠ some b) : SBox w' b K W T m f a s := (hg.block b h.lt fun e => hne e.symm).trans h
def set7 (w : World) (b : Nat) (K W T m f a s : Int) : World :=
 ((((((w.setCell ⟨b, 0, none⟩ (.int .i64 K)).setCell ⟨b, 1, none⟩ (.int .i64 W)).setCell ⟨b, 2, none⟩ (.int .i64 T)).setCell ⟨b, 3, none⟩ (.int .i64 m)).setCell ⟨b, 4, none⟩ (.int .i64 f)).setCell ⟨b, 5, none⟩ (.int .i64 a)).setCell ⟨b, 6, none⟩ (.int .i64 s)
theorem SBox.set7 (h : SBox w b K W T m f a s) (K' W' T' m' f' a' s' : Int) : SBox (set7 w b K' W' T' m' f' a' s') b K' W' T' m' f' a' s' := by
 unfold SBox at *
 unfold Take.set7
 simp [World.setCell, Array.getElem?_modify, h]
theorem grown_set7 (w : World) (b : Nat) (K W T m f a s : Int) : w.grownBy (set7 w b K W T m f a s) (some b) := by
 unfold set7
 exact grown_trans (grown_trans (grown_trans (grown_trans (grown_trans (grown_trans (Src.grown_setCell _ _ _) (Src.grown_setCell _ _ _)) (Src.grown_setCell _ _ _)) (Src.grown_setCell _ _ _)) (Src.grown_setCell _ _ _)) (Src.grown_setCell _ _ _)) (Src.grown_setCell _ _ _)
end
end Go.Proofs.YtpjepheiagllgaaDoor.Take
namespace Go.Proofs.YtpjepheiagllgaaDoor.Take
open Go.RowKit Go.Proofs.YtpjepheiagllgaaDoor Go.Proofs.YtpjepheiagllgaaDoor.Base Go.Proofs.YtpjepheiagllgaaDoor.Mem Go.Proofs.YtpjepheiagllgaaDoor.Reg Go.Proofs.YtpjepheiagllgaaDoor.Str
set_option linter.unusedVariables false
end Go.Proofs.YtpjepheiagllgaaDoor.Take
namespace Go.Proofs.YtpjepheiagllgaaDoor.Take
open Go.RowKit Go.Proofs.YtpjepheiagllgaaDoor Go.Proofs.YtpjepheiagllgaaDoor.Base Go.Proofs.YtpjepheiagllgaaDoor.Mem Go.Proofs.YtpjepheiagllgaaDoor.Reg Go.Proofs.YtpjepheiagllgaaDoor.Str
set_option linter.unusedVariables false
end Go.Proofs.YtpjepheiagllgaaDoor.Take
namespace Go.Proofs.YtpjepheiagllgaaDoor.MemS
open Go.RowKit Go.Proofs.YtpjepheiagllgaaDoor Go.Proofs.YtpjepheiagllgaaDoor.Base Go.Proofs.YtpjepheiagllgaaDoor.Mem Go.Proofs.YtpjepheiagllgaaDoor.Take
set_option linter.unusedVariables false
def RdS (w : World) (B : Nat) (A : Option Addr) (n : Nat) (fs : List Int) : Prop :=
 0 < n → ∃ b off, A = some ⟨b, off, none⟩ ∧ b < B ∧ ∀ i, i < 7 * n → w.cell? ⟨b, off + i, none⟩ = some (.int .i64 (fs.getD i 0))
theorem RdS.below {w w' : World} {B C n : Nat} {A : Option Addr} {fs : List Int} (h : RdS w B A n fs) (hb : Below C w w') (hBC : B ≤ C) : RdS w' B A n fs := fun h0 => by
 obtain ⟨b, off, e, hlt, hc⟩ := h h0
 exact ⟨b, off, e, hlt, fun i hi => (hb.cell (p := ⟨b, off + i, none⟩) (by show b < C; omega)).trans (hc i hi)⟩
theorem RdS.more {w : World} {B C n : Nat} {A : Option Addr} {fs : List Int} (h : RdS w B A n fs) (hBC : B ≤ C) : RdS w C A n fs := fun h0 => by
 obtain ⟨b, off, e, hlt, hc⟩ := h h0
 exact ⟨b, off, e, by omega, hc⟩
def OwnS (w : World) (B : Nat) (v : Value) (n : Nat) (fs : List Int) : Prop := w.ownsRow B 67 7 v n (ints fs)
theorem OwnS.len {w : World} {B n : Nat} {v : Value} {fs : List Int} (h : OwnS w B v n fs) : fs.length = 7 * n := by
 have := h.1
 rw [ints_len] at this
 omega
theorem OwnS.rd {w : World} {B n m c : Nat} {A : Option Addr} {fs : List Int} (h : OwnS w B (.slice A m c) n fs) : RdS w w.heap.size A n fs := fun h0 => by
 obtain ⟨A', c', e, hf⟩ := ownsRow_form h
 injection e with e1 e2 e3
 subst e1 e2 e3
 obtain ⟨g, rfl, _, hlt⟩ := hf h0
 refine ⟨g, 0, rfl, hlt, fun i hi => ?_⟩
 have hl := h.len
 rw [Nat.zero_add, World.ownsRow.cellAt h i (by omega), ints_get fs i (by omega)]
theorem OwnS.below {w w' : World} {B n : Nat} {v : Value} {fs : List Int} (h : OwnS w B v n fs) (hb : Below w.heap.size w w') : OwnS w' B v n fs := ownsRow_below h hb
theorem RdS.at {w : World} {B n : Nat} {A : Option Addr} {fs : List Int} (h : RdS w B A n fs) {j : Nat} (hj : j < n) : ∃ b off, A = some ⟨b, off, none⟩ ∧ b < B ∧ ∀ i, i < 7 → w.cell? ⟨b, off + j * 7 + i, none⟩ = some (.int .i64 (fs.getD (7 * j + i) 0)) := by
 obtain ⟨b, off, e, hlt, hc⟩ := h (by omega)
 exact ⟨b, off, e, hlt, fun i hi => by have := hc (7 * j + i) (by omega); rw [← Nat.add_assoc] at this; rw [Nat.mul_comm j 7]; exact this⟩
end Go.Proofs.YtpjepheiagllgaaDoor.MemS
namespace Go.Proofs.YtpjepheiagllgaaDoor.LabM
open Go.RowKit Go.Proofs.YtpjepheiagllgaaDoor Go.Proofs.YtpjepheiagllgaaDoor.Base Go.Proofs.YtpjepheiagllgaaDoor.Mem Go.Proofs.YtpjepheiagllgaaDoor.Cpy Go.Proofs.YtpjepheiagllgaaDoor.MemS Go.Proofs.YtpjepheiagllgaaDoor.Str
set_option linter.unusedVariables false
theorem infoT : (Tryd.prog.info? 9).map (fun i => (i.zero, i.size, i.bytes)) = some (some (.string ByteArray.empty), 1, 16) := by kernel_rfl
def texts (ss : List ByteArray) : List Value := ss.map Value.string
def RdT (w : World) (B : Nat) (A : Option Addr) (ss : List ByteArray) : Prop :=
 0 < ss.length → ∃ b off, A = some ⟨b, off, none⟩ ∧ b < B ∧ ∀ i, i < ss.length → w.cell? ⟨b, off + i, none⟩ = some (.string (ss.getD i ByteArray.empty))
theorem RdT.below {w w' : World} {B C : Nat} {A : Option Addr} {ss : List ByteArray} (h : RdT w B A ss) (hb : Below C w w') (hBC : B ≤ C) : RdT w' B A ss := fun h0 => by
 obtain ⟨b, off, e, hlt, hc⟩ := h h0
 exact ⟨b, off, e, hlt, fun i hi => (hb.cell (p := ⟨b, off + i, none⟩) (by show b < C; omega)).trans (hc i hi)⟩
theorem RdT.more {w : World} {B C : Nat} {A : Option Addr} {ss : List ByteArray} (h : RdT w B A ss) (hBC : B ≤ C) : RdT w C A ss := fun h0 => by
 obtain ⟨b, off, e, hlt, hc⟩ := h h0
 exact ⟨b, off, e, by omega, hc⟩
def OwnT (w : World) (B : Nat) (v : Value) (ss : List ByteArray) : Prop := w.ownsRow B 9 1 v ss.length (texts ss)
theorem OwnT.rd {w : World} {B n c : Nat} {A : Option Addr} {ss : List ByteArray} (h : OwnT w B (.slice A n c) ss) : RdT w w.heap.size A ss := fun h0 => by
 obtain ⟨A', c', e, hf⟩ := ownsRow_form h
 injection e with e1 e2 e3
 subst e1 e2 e3
 obtain ⟨g, rfl, _, hlt⟩ := hf h0
 refine ⟨g, 0, rfl, hlt, fun i hi => ?_⟩
 rw [Nat.zero_add, World.ownsRow.cellAt h i (by omega)]
 simp [texts, List.getD, hi]
theorem infoSt7 : (Tryd.prog.info? 67).map (fun i => (i.zero, i.size, i.bytes)) = some (some (.agg #[.int .i64 0, .int .i64 0, .int .i64 0, .int .i64 0, .int .i64 0, .int .i64 0, .int .i64 0]), 7, 56) := by kernel_rfl
end Go.Proofs.YtpjepheiagllgaaDoor.LabM

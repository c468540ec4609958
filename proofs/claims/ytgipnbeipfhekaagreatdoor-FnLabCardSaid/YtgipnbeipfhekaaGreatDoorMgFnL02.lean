/- A register after many steps: the reference's powers of x. -/
import Derived.Test.YtgipnbeipfhekaaGreatDoorMgFnL01
import Derived.Test.YtgipnbeipfhekaaGreatDoorMgFnL00
import Derived.BigRegion
import Derived.Maps.AppendAt
import Derived.Deep.RegionHeld3
import Derived.Test.YtgipnbeipfhekaaGreatDoorRows
import Derived.Deep.Matrix
import Derived.ProofKit
import Derived.OpenShut
import Derived.Lib.SmallJoins
import Derived.Deep.RegionWith
import Derived.Laws.StructEq
import Derived.Laws.IdiomStrings
import Derived.Lib.BufferRead
set_option linter.unusedVariables false
set_option linter.unusedSimpArgs false
set_option maxRecDepth 100000
set_option maxHeartbeats 2000000
namespace Go.Proofs.YtgipnbeipfhekaaGreatDoor
namespace Jump
open Go.RowKit Base Poly
def bl (p : Nat) : Nat := if p = 0 then 0 else p.log2 + 1
end Jump
namespace Jump
open Go.RowKit Base Poly Bits
def PowRet (p W N : Nat) (w : World) (e : Ending) (w' : World) : Prop := ∃ r : Nat, e = .returned (.int .i64 r) ∧ r < 2 ^ W ∧ Rep p r N ∧ w = w'
end Jump
namespace Jump
open Go.RowKit Base Poly Bits
def jumpTo (W T x n : Nat) : Nat := CycM.iter (Reg.nextR W T) x n
theorem bothR_yes {W T x : Nat} (hW : W ≤ 16) (hT : T < 2 ^ W) (hx : x < 2 ^ W) : Reg.bothR W T x = true := by
 have e : ((2 ^ W : Nat) : Int) = (2 : Int) ^ W := by simp
 have h1 := inR_yes (n := (W : Int)) (lo := 0) (hi := 16) (by omega)
 have h2 := inR_yes (n := (T : Int)) (lo := 0) (hi := (2 : Int) ^ W - 1) (by omega)
 have h3 := inR_yes (n := (x : Int)) (lo := 0) (hi := (2 : Int) ^ W - 1) (by omega)
 simp [Reg.bothR, Reg.regB, Reg.stB, h1, h2, h3]
theorem iter_per {F : Nat → Nat} {x j n : Nat} (h : F x = F x) (hc : CycM.iter F x j = CycM.iter F x n) (hj : j < n) : ∀ q, CycM.iter F x (j + q * (n - j)) = CycM.iter F x j
 | 0 => by simp
 | q + 1 => by
  have e : j + (q + 1) * (n - j) = n + q * (n - j) := by rw [Nat.add_mul, Nat.one_mul]; omega
  rw [e, CycM.iter_add, ← hc, ← CycM.iter_add, iter_per h hc hj q]
theorem iter_red {F : Nat → Nat} {x j n m : Nat} (h : CycM.IsCyc F x j n) (hm : j ≤ m) : CycM.iter F x (j + (m - j) % (n - j)) = CycM.iter F x m := by
 obtain ⟨h1, h2, _⟩ := h
 have e : m = (j + (m - j) / (n - j) * (n - j)) + (m - j) % (n - j) := by
  have := Nat.div_add_mod' (m - j) (n - j)
  omega
 conv => rhs; rw [e]
 rw [CycM.iter_add F x (j + (m - j) / (n - j) * (n - j)), iter_per rfl h2 h1, ← CycM.iter_add]
theorem jumpR_any (W T x n : Nat) (w : World) (hW : W ≤ 16) (hT : T < 2 ^ W) (hx : x < 2 ^ W) (hn : n ≤ 1000000000000000000) :
  Calls Tryz.prog 71 #[.agg #[.int .i64 W, .int .i64 T], .int .i64 x, .int .i64 n] w fun e w' => e = .returned (.int .i64 (jumpTo W T x n : Nat)) ∧ Below w.heap.size w w' := by
 have hp : 2 ^ W ≤ 2 ^ 16 := Nat.pow_le_pow_right (by decide) hW
 obtain ⟨W0, hW0⟩ : ∃ W0, W0 = w.alloc (.cells #[.int .i64 W, .int .i64 T] 25) := ⟨_, rfl⟩
 have hz0 : W0.heap.size = w.heap.size + 1 := by rw [hW0]; simp
 have c0 : W0.cell? ⟨w.heap.size, 0, none⟩ = some (.int .i64 W) := by rw [hW0]; go_simp
 have c1 : W0.cell? ⟨w.heap.size, 1, none⟩ = some (.int .i64 T) := by rw [hW0]; go_simp
 have B0 := J (show Below w.heap.size w W0 by rw [hW0]; exact (Below.refl _ _).alloc (Nat.le_refl _) _)
 have HW0 := J hW0
 have HC := J (Reg.cycleR_any W T x W0 hW hT hx)
 have HZ := J hz0
 have hz0' : w.heap.size < W0.heap.size := by omega
 have hF := CycM.iter_lt (T := Reg.nextR W T) (M := 2 ^ W) (x := x) (fun s hs => Reg.nextR_lt hs) hx
 have HF := J hF
 clear hW0 hz0 hF
 go_enter Tryz.func71, Tryz.ntmps71
 go_wp2_with fail
 rw [← HW0.out]
 refine HC.out.mono ?_
 rintro e w1 ⟨j, m, hc, rfl, hb⟩
 have hle := CycM.IsCyc.le (M := 2 ^ W) (fun s hs => Reg.nextR_lt hs) hx hc
 have hjm := hc.1
 have d0 := (hb.cell (p := ⟨w.heap.size, 0, none⟩) hz0').trans c0
 have d1 := (hb.cell (p := ⟨w.heap.size, 1, none⟩) hz0').trans c1
 have HCyc := J hc
 have HB := J hb
 clear hc hb
 obtain ⟨N, hN, hNi, hNx⟩ : ∃ N : Nat, N ≤ 1000000000000000000 ∧ (N : Int) = (if (j : Int) < n then (j : Int) + ((n : Int) - j) % ((m : Int) - j) else n) ∧ jumpTo W T x n = jumpTo W T x N := by
  by_cases hjn : j < n
  ·have h1 : (n - j) % (m - j) < m - j := Nat.mod_lt _ (by omega)
   refine ⟨j + (n - j) % (m - j), by omega, ?_, (iter_red HCyc.out (by omega)).symm⟩
   rw [if_pos (by omega)]
   have e1 : ((n : Int) - j) = ((n - j : Nat) : Int) := by omega
   have e2 : ((m : Int) - j) = ((m - j : Nat) : Int) := by omega
   rw [e1, e2]; simp
  ·exact ⟨n, hn, by rw [if_neg (by omega)], rfl⟩
 have HN := J hNx
 have HI := J hNi
 clear hNx hNi
 have hdec : decide (j < n) = true ∨ decide (j < n) = false := by cases decide (j < n) <;> simp
 rcases hdec with hd | hd
 all_goals
  first | (have hjn : (j : Int) < n := by (have := of_decide_eq_true hd; omega)) | (have hjn : ¬ (j : Int) < n := by (have := of_decide_eq_false hd; omega))
  have HK := J (HI.out)
  first | rw [if_pos hjn] at HK | rw [if_neg hjn] at HK
  have g0 : (0 : Int) ≤ N := by omega
  have g1 : (N : Int) ≤ 1000000000000000000 := by omega
  rw [HK.out] at g0 g1
  go_wp2
  rw [← HK.out]
  go_loopw [1, 26] (fun s i wr => ∃ k : Nat, k ≤ N ∧ i = .int .i64 k ∧ s = .int .i64 (jumpTo W T x k : Nat) ∧ Below W0.heap.size W0 wr) (fun _ i _ => N - (intOf i).toNat)
  case atStart => exact ⟨0, by omega, rfl, rfl, HB.out⟩
  case round =>
   obtain ⟨k, hk, rfl, rfl, hb⟩ := hrel
   have e0 := (hb.cell (p := ⟨w.heap.size, 0, none⟩) hz0').trans c0
   have e1 := (hb.cell (p := ⟨w.heap.size, 1, none⟩) hz0').trans c1
   have HBel := J hb
   clear hb
   by_cases hlt : k < N
   ·have HS := J (Reg.implStep_any W T (jumpTo W T x k) wr hW hT (HF.out k))
    go_wp2_with fail
    refine HS.out.mono ?_
    rintro e w2 ⟨rfl, hb2⟩
    have HB2 := J (Base.Below.nextA HBel.out hb2)
    clear hb2
    go_wp2_with fail
    go_roundw
    case rel => exact ⟨k + 1, hlt, by go_num, rfl, HB2.out⟩
    case measure => simp [intOf]; omega
   ·obtain rfl : k = N := by omega
    go_wp2
    go_ret
    exact ⟨ret_int (by rw [HN.out]), B0.out.trans (HBel.out.mono (Nat.le_of_lt hz0'))⟩
end Jump
namespace Rev
open Go.RowKit Base Mem
end Rev
namespace AllIn
open Go.RowKit Base Mem
def allInB (xs : List Int) (lo hi : Int) : Bool := xs.all fun x => inR x lo hi
theorem allInB_true {xs : List Int} {lo hi : Int} (h : allInB xs lo hi = true) (i : Nat) (hi' : i < xs.length) : lo ≤ xs.getD i 0 ∧ xs.getD i 0 ≤ hi := by
 have := List.all_eq_true.1 h (xs.getD i 0) (by simp [List.getD, hi'])
 exact inR_true this
theorem lenI_any (A : Option Addr) (n c : Nat) (w : World) (h : n ≤ 9223372036854775807) :
  Calls Tryz.prog 54 #[.slice A n c] w fun e w' => e = .returned (.int .i64 (n : Int)) ∧ w = w' := by
 go_enter Tryz.func54, Tryz.ntmps54
 go_wp2
 go_ret
 exact ⟨rfl, rfl⟩
theorem closure_any (b0 b1 : Nat) (x lo hi : Int) (w : World) (h0 : w.cell? ⟨b0, 0, none⟩ = some (.int .i64 lo)) (h1 : w.cell? ⟨b1, 0, none⟩ = some (.int .i64 hi)) :
  Calls Tryz.prog 165 #[.int .i64 x, .pointer (some ⟨b0, 0, none⟩), .pointer (some ⟨b1, 0, none⟩)] w fun e w' => e = .returned (.bool (!inR x lo hi)) ∧ w = w' := by
 go_enter Tryz.func165, Tryz.ntmps165
 go_wp2_with (go_at_call 31; refine (inRange_any _ _ _ _).mono ?_; rintro e w' ⟨rfl, rfl⟩)
 go_ret
 exact ⟨rfl, rfl⟩
end AllIn
namespace Pts
open Go.RowKit Base Mem AllIn
def rowB (L b : Nat) (xs : List Int) : Bool := (xs.length == L) && allInB xs 0 ((2 : Int) ^ b - 1)
theorem all_at {α : Type} {xs : List α} {f : α → Bool} (d : α) {i : Nat} (h : i < xs.length) (ha : xs.all f = true) : f (xs.getD i d) = true :=
 List.all_eq_true.1 ha (xs.getD i d) (by simp [List.getD, h])
end Pts
namespace RevNet
open Go.RowKit Base Mem Pts
theorem OwnI_push {wr w2 : World} {B : Nat} {v v' : Value} {xs : List Int} {x : Int} (hO : OwnI wr B v xs) (hB : B ≤ wr.heap.size)
  (hown : w2.ownsRow B 2 1 v' (xs.length + 1) (ints xs ++ [.int .i64 x])) : OwnI w2 B v' (xs ++ [x]) := by
 unfold OwnI
 rw [List.length_append, show ints (xs ++ [x]) = ints xs ++ [.int .i64 x] by simp [ints]]
 exact hown
theorem beside {wr w2 : World} {B : Nat} {v u : Value} {xs ys : List Int} {o : Obj} (hO : OwnI wr B v xs) (hu : OwnI wr B u ys) (ha : ∀ g, v.ownBlock = some g → u.ownBlock ≠ some g) (hg : (wr.alloc o).grownBy w2 v.ownBlock) : OwnI w2 B u ys := by
 refine World.ownsRow.kept (World.ownsRow.alloc hu o) hg ?_
 rcases hv : u.ownBlock with _ | g
 ·exact .inl rfl
 ·exact .inr fun e => ha g e.symm hv
end RevNet
namespace NetV
open Go.RowKit Base Mem AllIn Pts
end NetV
namespace Cpy
open Go.RowKit Base Mem
theorem us_set {us : List Value} {j n : Nat} (hj : us.length = j) (hn : j < n) (u z : Value) : (us ++ List.replicate (n - j) z).set j u = (us ++ [u]) ++ List.replicate (n - (j + 1)) z := by
 rw [List.set_append_right _ _ (Nat.le_of_eq hj), hj, Nat.sub_self, show n - j = (n - (j + 1)) + 1 by omega, List.replicate_succ, List.set_cons_zero, List.append_assoc]
 rfl
theorem us_get {us : List Value} {j n : Nat} (hj : us.length = j) (hn : j < n) (z : Value) : (us ++ List.replicate (n - j) z)[j]? = some z := by
 rw [List.getElem?_append_right (Nat.le_of_eq hj), hj, Nat.sub_self, List.getElem?_replicate, if_pos (by omega)]
end Cpy
namespace Open
open Go.ChangeShapes Go.WideShapes Go.ChangeAt Go.RowKit Go.Joins
set_option maxRecDepth 100000
section
variable {H : Type} {enc : TypeId × Value → H} {w : World} {base b0 : Nat} {spare : Nat → Bool} {held : Bool} {v : Value} {d : DataW H} {p : List MemPlace}
theorem addr_add {a : Addr} (h : a.spot = none) (i : Nat) : a.add i = ⟨a.block, a.off + i, none⟩ := by
 obtain ⟨b, off, spot⟩ := a
 simp at h; subst h
 unfold Addr.add
 split <;> simp_all
theorem spot_of {a : Addr} {u : Value} (h : w.cell? (a.add 0) = some u) : a.spot = none ∧ a.block < w.heap.size := by
 have e : a.add 0 = a := by simp [Addr.add]
 rw [e] at h
 exact ⟨World.cell?_spot h, block_lt_of_cell h⟩
theorem cells8 : Tryz.prog.cellsOf 5 = 1 := by kernel_rfl
structure IsBytes (w : World) (v : Value) : Prop where
 ex : ∃ (A : Option Addr) (c : Nat) (zs : List Int), v = .slice A zs.length c ∧ zs.length ≤ 9223372036854775807 ∧ (∀ z ∈ zs, 0 ≤ z ∧ z ≤ 255) ∧ Mem.RdB w w.heap.size A zs
theorem bytes (hv : Value.okWide Tryz.prog w .any b0 22 v) (h : DataW.Trod enc Tryz.prog w base (fun _ => true) held 22 v d p) : IsBytes w v := by
 obtain ⟨a, len, cap, rfl⟩ := okWide_slice Tryz.underlying22 hv
 obtain ⟨fuel, hf⟩ := h
 rcases open_ints Tryz.underlying22 Tryz.underlying5 cells8 hf with ⟨hcs, _⟩ | ⟨x, l, c, zs, hcs, _, hl, hm, hz, _, hcell, hwz⟩
 ·simp [Value.cells] at hcs
  obtain ⟨rfl, rfl, rfl⟩ := hcs
  exact ⟨none, 0, [], rfl, by decide, by simp, fun h => absurd h (by simp)⟩
 ·simp [Value.cells] at hcs
  obtain ⟨rfl, rfl, rfl⟩ := hcs
  simp only [if_true] at hz
  have hlen : (zs.take len).length = len := by rw [List.length_take]; omega
  refine ⟨some x, cap, zs.take len, by rw [hlen], ?_, fun z hzm => ?_, fun h0 => ?_⟩
  ·rw [hlen]; unfold maxLen at hm; omega
  ·have := hwz z (List.mem_of_mem_take hzm)
   simp [Lit.wf, IntKind.min, IntKind.max, IntKind.signed, IntKind.bits] at this
   omega
  ·rw [hlen] at h0
   obtain ⟨hs, hb⟩ := spot_of (hcell 0 (by omega))
   refine ⟨x.block, x.off, by cases x; simp_all, hb, fun i hi => ?_⟩
   rw [hlen] at hi
   rw [← addr_add hs, hcell i (by omega)]
   simp [List.getD, hi]
theorem cellsI1 : Tryz.prog.cellsOf 2 = 1 := by kernel_rfl
structure IsInts (w : World) (v : Value) : Prop where
 ex : ∃ (A : Option Addr) (c : Nat) (zs : List Int), v = .slice A zs.length c ∧ zs.length ≤ 9223372036854775807 ∧ (∀ z ∈ zs, -9223372036854775808 ≤ z ∧ z ≤ 9223372036854775807) ∧ Mem.RdI w w.heap.size A zs
theorem ints (hv : Value.okWide Tryz.prog w .any b0 43 v) (h : DataW.Trod enc Tryz.prog w base (fun _ => true) held 43 v d p) : IsInts w v := by
 obtain ⟨a, len, cap, rfl⟩ := okWide_slice Tryz.underlying43 hv
 obtain ⟨fuel, hf⟩ := h
 rcases open_ints Tryz.underlying43 Tryz.underlying2 cellsI1 hf with ⟨hcs, _⟩ | ⟨x, l, c, zs, hcs, _, hl, hm, hz, _, hcell, hwz⟩
 ·simp [Value.cells] at hcs
  obtain ⟨rfl, rfl, rfl⟩ := hcs
  exact ⟨none, 0, [], rfl, by decide, by simp, fun h => absurd h (by simp)⟩
 ·simp [Value.cells] at hcs
  obtain ⟨rfl, rfl, rfl⟩ := hcs
  simp only [if_true] at hz
  have hlen : (zs.take len).length = len := by rw [List.length_take]; omega
  refine ⟨some x, cap, zs.take len, by rw [hlen], ?_, fun z hzm => ?_, fun h0 => ?_⟩
  ·rw [hlen]; unfold maxLen at hm; omega
  ·have := hwz z (List.mem_of_mem_take hzm)
   simp [Lit.wf, IntKind.min, IntKind.max, IntKind.signed, IntKind.bits] at this
   omega
  ·rw [hlen] at h0
   obtain ⟨hs, hb⟩ := spot_of (hcell 0 (by omega))
   refine ⟨x.block, x.off, by cases x; simp_all, hb, fun i hi => ?_⟩
   rw [hlen] at hi
   rw [← addr_add hs, hcell i (by omega)]
   simp [List.getD, hi]
end
end Open
namespace NetV
open Go.RowKit Base Mem Cpy
end NetV
namespace RevNet
open Go.RowKit Base Mem Pts NetV
theorem block_lt {w : World} {g : Nat} {o : Obj} (h : w.heap[g]? = some o) : g < w.heap.size := by
 rcases Nat.lt_or_ge g w.heap.size with hlt | hge
 ·exact hlt
 ·rw [Array.getElem?_eq_none hge] at h; cases h
end RevNet
namespace DrawN
open Go.RowKit Base Mem Pts NetV RevNet Bits YtgipnbeipfhekaaGreatDoor.Src
structure Beside (p : Nat) (w w' : World) : Prop where
 size : w.heap.size ≤ w'.heap.size
 same : ∀ q, q < w.heap.size → q ≠ p → w'.heap[q]? = w.heap[q]?
theorem Beside.refl (p : Nat) (w : World) : Beside p w w := ⟨Nat.le_refl _, fun _ _ _ => rfl⟩
theorem Beside.trans {p : Nat} {a b c : World} (h : Beside p a b) (k : Beside p b c) : Beside p a c :=
 ⟨Nat.le_trans h.size k.size, fun q h1 h2 => (k.same q (Nat.lt_of_lt_of_le h1 h.size) h2).trans (h.same q h1 h2)⟩
theorem Beside.grown {p : Nat} {w w' : World} (h : w.grownBy w' (some p)) : Beside p w w' := ⟨h.size, fun q h1 h2 => h.block q h1 fun e => h2 (Option.some.inj e)⟩
theorem Beside.below {p : Nat} {w w' : World} (h : Below w.heap.size w w') : Beside p w w' := ⟨h.size, fun q h1 _ => h.block q h1⟩
end DrawN
namespace RBits
open Go.RowKit Base Mem Reg Bld YtgipnbeipfhekaaGreatDoor.Src
def outR (W T x : Nat) : Nat → List UInt8
 | 0 => []
 | n + 1 => outR W T x n ++ [UInt8.ofNat (48 + CycM.iter (nextR W T) x n % 2)]
theorem outR_len (W T x : Nat) : ∀ n, (outR W T x n).length = n
 | 0 => rfl
 | n + 1 => by simp [outR, outR_len W T x n]
theorem outR_ne {W T x n : Nat} (h : 0 < n) : outR W T x n ≠ [] := fun h0 => by
 have := outR_len W T x n
 rw [h0] at this
 simp at this
 omega
theorem byte_bit (k : Nat) (h : k < 2) : (UInt8.ofNat (48 + k)).toNat = 48 + k := by
 have : k = 0 ∨ k = 1 := by omega
 rcases this with rfl | rfl <;> rfl
theorem bitText_any (x : Nat) (hx : x < 2) (w : World) : Calls Tryz.prog 70 #[.int .i64 x] w fun e w' => e = .returned (.int .u8 ((48 + x : Nat) : Int)) ∧ w = w' := by
 have : x = 0 ∨ x = 1 := by omega
 rcases this with rfl | rfl
 all_goals
  go_enter Tryz.func70, Tryz.ntmps70
  go_wp2
  go_ret
  exact ⟨rfl, rfl⟩
theorem IsB.below {B b : Nat} {bs : List Value} {w w' : World} (h : IsB B b bs w) (hb : Below w.heap.size w w') : IsB B b bs w' := by
 have key : ∀ p, Lib.BuilderAt 93 5 B b p bs w → Lib.BuilderAt 93 5 B b p bs w' := fun p h => by
  have hlt := h.lt
  obtain ⟨hB, v, hbk, hown, hne⟩ := h
  exact ⟨hB, v, (hb.block b hlt).trans hbk, ownsRow_below hown hb, hne⟩
 rcases h with h | h
 ·exact .inl (key _ h)
 ·exact .inr (key _ h)
def BitsRet (W T x n : Nat) (w : World) (e : Ending) (w' : World) : Prop := e = .returned (.tuple #[.string ⟨(outR W T x n).toArray⟩, .int .i64 ((CycM.iter (nextR W T) x n : Nat) : Int)]) ∧ Below w.heap.size w w'
theorem step_bit {W T x bit : Nat} (h : x % 2 = bit) (hW2 : W ≤ 16) (hT : T < 2 ^ W) (hx : x < 2 ^ W) (w : World) :
  Calls Tryz.prog 118 #[.agg #[.int .i64 W, .int .i64 T], .int .i64 x] w fun e w' => e = .returned (.tuple #[.int .i64 (nextR W T x : Nat), .int .i64 (bit : Nat)]) ∧ Below w.heap.size w w' := by
 subst h; exact implStep_any W T x w hW2 hT hx
theorem bits_any (W T x n : Nat) (w : World) (hW : W ≤ 16) (hT : T < 2 ^ W) (hx : x < 2 ^ W) (hn : n ≤ 400) (hn0 : 0 < n) :
  Calls Tryz.prog 68 #[.agg #[.int .i64 W, .int .i64 T], .int .i64 x, .int .i64 n] w (BitsRet W T x n w) := by
 obtain ⟨W0, hW0⟩ : ∃ W0, W0 = w.alloc (.cells #[.int .i64 W, .int .i64 T] 25) := ⟨_, rfl⟩
 have hz0 : W0.heap.size = w.heap.size + 1 := by rw [hW0]; simp
 have c0 : W0.cell? ⟨w.heap.size, 0, none⟩ = some (.int .i64 W) := by rw [hW0]; go_simp
 have c1 : W0.cell? ⟨w.heap.size, 1, none⟩ = some (.int .i64 T) := by rw [hW0]; go_simp
 have B0 := J (show Below w.heap.size w W0 by rw [hW0]; exact (Below.refl _ _).alloc (Nat.le_refl _) _)
 obtain ⟨W1, hW1⟩ : ∃ W1, W1 = W0.alloc (.cells #[.pointer none, .slice none 0 0] 93) := ⟨_, rfl⟩
 have hz1 : W1.heap.size = w.heap.size + 1 + 1 := by rw [hW1]; simp [hz0]
 have B1 := J (show Below (w.heap.size + 1) W0 W1 by rw [hW1]; exact (Below.refl _ _).alloc (by omega) _)
 have I1 := J (show IsB (w.heap.size + 1) (w.heap.size + 1) (Lib.byteCells []) W1 by rw [hW1, ← hz0]; exact Lib.fresh_isBuilder _ _ W0)
 have HW0 := J hW0
 have HW1 := J hW1
 have HZ0 := J hz0
 have HZ1 := J hz1
 have hz0' : w.heap.size < W0.heap.size := by omega
 have hz1' : W0.heap.size < W1.heap.size := by omega
 have hit : ∀ k, CycM.iter (nextR W T) x k < 2 ^ W := fun k => CycM.iter_lt (fun s hs => nextR_lt hs) hx k
 have hp : 2 ^ W ≤ 2 ^ 16 := Nat.pow_le_pow_right (by decide) hW
 have HN0 := J hn0
 clear hW0 hW1 hz0 hz1 hn0
 go_enter Tryz.func68, Tryz.ntmps68
 go_wp2
 go_loopw [1, 12] (fun o i wr => ∃ k : Nat, k ≤ n ∧ i = .int .i64 k ∧ o = .int .i64 (CycM.iter (nextR W T) x k : Nat) ∧ IsB (w.heap.size + 1) (w.heap.size + 1) (Lib.byteCells (outR W T x k)) wr ∧ Below (w.heap.size + 1) W0 wr) (fun _ i _ => n - (intOf i).toNat)
 case atStart =>
  refine ⟨0, by omega, rfl, rfl, ?_, ?_⟩
  ·have := I1.out
   rw [HW1.out, HW0.out] at this
   first | exact this | (rw [HW0.out]; exact this)
  ·have := B1.out
   rw [HW1.out, HW0.out] at this
   first | exact this | (rw [HW0.out]; exact this)
 case round =>
  obtain ⟨k, hk, rfl, rfl, hI, hb⟩ := hrel
  have d0 := (hb.cell (p := ⟨w.heap.size, 0, none⟩) (Nat.lt_succ_self _)).trans c0
  have d1 := (hb.cell (p := ⟨w.heap.size, 1, none⟩) (Nat.lt_succ_self _)).trans c1
  have hwz := hb.size
  have HBel := J hb
  have HI := J hI
  clear hb c0 c1 hI
  by_cases hlt : k < n
  ·have hxk := hit k
   have HO : Hid (outR W T x (k + 1) = outR W T x k ++ [UInt8.ofNat (48 + CycM.iter (nextR W T) x k % 2)]) := J rfl
   have HT : Hid (CycM.iter (nextR W T) x (k + 1) = nextR W T (CycM.iter (nextR W T) x k)) := J rfl
   have HBy := J (byte_bit (CycM.iter (nextR W T) x k % 2) (Nat.mod_lt _ (by decide)))
   have HLn := J (outR_len W T x k)
   have hm2 : CycM.iter (nextR W T) x k % 2 < 2 := Nat.mod_lt _ (by decide)
   generalize CycM.iter (nextR W T) x k = y at *
   generalize hbit : y % 2 = bit at *
   have HS := J (fun w => step_bit hbit hW hT hxk w)
   clear hbit hit
   go_wp2_with fail
   refine (HS.out _).mono ?_
   rintro e w1 ⟨rfl, hb1⟩
   have HI1 := J (IsB.below HI.out hb1)
   have HB1 := J (HBel.out.trans (hb1.mono (by have := HZ0.out; omega)))
   have HWB := J (fun h => writeByte_any (w.heap.size + 1) (w.heap.size + 1) (Lib.byteCells (outR W T x k)) ((48 + bit : Nat) : Int) w1 (HI1.out) (by rw [Lib.byteCells_length, HLn.out]; omega) h)
   have hws := hb1.size
   clear hb1
   have HWB2 := J (HWB.out (by have := HZ0.out; omega))
   clear HWB
   go_wp2_with (first | (go_at_call 70; refine (bitText_any bit hm2 _).mono ?_; rintro e w' ⟨rfl, rfl⟩) | (refine HWB2.out.mono ?_; rintro e w2 ⟨rfl, hI2, hb2⟩; have HI2 := J hI2; have HB2 := J hb2; clear hI2 hb2))
   go_roundw
   case rel =>
    refine ⟨k + 1, hlt, by go_num, by rw [HT.out], ?_, HB1.out.trans HB2.out⟩
    rw [HO.out]
    have := HI2.out
    rw [← HBy.out] at this
    simpa [Lib.byteCells] using this
   case measure => simp [intOf]; omega
  ·obtain rfl : k = n := by omega
   have HNe := J (outR_ne (W := W) (T := T) (x := x) HN0.out)
   have HS := J (string_some (w.heap.size + 1) (w.heap.size + 1) (outR W T x k) wr HI.out HNe.out)
   have HX := J (fun w2 (hb2 : Below (w.heap.size + 1) wr w2) => B0.out.trans ((HBel.out.trans hb2).mono (show w.heap.size ≤ w.heap.size + 1 by omega)))
   go_wp2_with fail
   refine HS.out.mono ?_
   rintro e w2 ⟨rfl, hb2⟩
   have HB2 := J (HX.out _ hb2)
   clear hb2
   go_wp2
   go_ret2
   exact ⟨rfl, HB2.out⟩
theorem string_nil (B b : Nat) (p : Value) (w : World) (hbk : w.heap[b]? = some (.cells #[p, .slice none 0 0] 93 (0, 0))) :
  Calls Tryz.prog 48 #[.pointer (some ⟨b, 0, none⟩)] w fun e w' => e = .returned (.string ⟨#[]⟩) ∧ Below B w w' := by
 have c1 : w.drew.cell? ⟨b, 1, none⟩ = some (.slice none 0 0) := by
  have : w.drew.heap[b]? = some (.cells #[p, .slice none 0 0] 93 (0, 0)) := hbk
  rw [Lib.cell_of_heap this]; rfl
 have hSD : (Builtin.unsafeSliceData_ #[22] 141 #[.slice none 0 0]).run Tryz.prog w.drew = .ok (.pointer none) w.drew := rfl
 have hUS : (Builtin.unsafeString_ #[141, 3] 9 #[.pointer none, .int .i64 0]).run Tryz.prog w.drew = .ok (.string ⟨#[]⟩) w.drew :=
  Lib.run_unsafeString_none w.drew _ _ _ none
 have mixed : Tryz.prog.follows .mixedOrders = true := by kernel_rfl
 go_enter Tryz.func48, Tryz.ntmps48
 go_wp2
 go_region_o
 all_goals (go_wp2; go_ret; exact ⟨rfl, Below.drew (Below.refl B w)⟩)
theorem bits_zero (W T x : Nat) (w : World) : Calls Tryz.prog 68 #[.agg #[.int .i64 W, .int .i64 T], .int .i64 x, .int .i64 0] w (BitsRet W T x 0 w) := by
 obtain ⟨W0, hW0⟩ : ∃ W0, W0 = w.alloc (.cells #[.int .i64 W, .int .i64 T] 25) := ⟨_, rfl⟩
 have hz0 : W0.heap.size = w.heap.size + 1 := by rw [hW0]; simp
 obtain ⟨W1, hW1⟩ : ∃ W1, W1 = W0.alloc (.cells #[.pointer none, .slice none 0 0] 93) := ⟨_, rfl⟩
 have hbk : W1.heap[w.heap.size + 1]? = some (.cells #[.pointer none, .slice none 0 0] 93 (0, 0)) := by rw [hW1, ← hz0]; exact heap_alloc_new W0 _
 have B1 := J (show Below w.heap.size w W1 by rw [hW1, hW0]; exact ((Below.refl _ _).alloc (Nat.le_refl _) _).alloc (by simp) _)
 have HS := J (string_nil w.heap.size (w.heap.size + 1) (.pointer none) W1 hbk)
 have HW0 := J hW0
 have HW1 := J hW1
 clear hW0 hW1 hbk hz0
 go_enter Tryz.func68, Tryz.ntmps68
 go_wp2
 go_loopw [1, 12] (fun o i wr => i = .int .i64 0 ∧ o = .int .i64 (x : Int) ∧ wr = W1) (fun _ i _ => 0)
 case atStart => exact ⟨rfl, rfl, by rw [HW1.out, HW0.out]⟩
 case round =>
  obtain ⟨rfl, rfl, rfl⟩ := hrel
  go_wp2_with fail
  refine HS.out.mono ?_
  rintro e w2 ⟨rfl, hb2⟩
  have HB2 := J (B1.out.trans hb2)
  clear hb2
  go_wp2
  go_ret2
  exact ⟨rfl, HB2.out⟩
theorem bits_all (W T x n : Nat) (w : World) (hW : W ≤ 16) (hT : T < 2 ^ W) (hx : x < 2 ^ W) (hn : n ≤ 400) :
  Calls Tryz.prog 68 #[.agg #[.int .i64 W, .int .i64 T], .int .i64 x, .int .i64 n] w (BitsRet W T x n w) := by
 by_cases h : n = 0
 ·subst h; exact bits_zero W T x w
 ·exact bits_any W T x n w hW hT hx hn (by omega)
end RBits
namespace Str
open Go.RowKit Base
def zc (m f a : Int) : Bool := m == 0 && (f == 0 && a == 0)
def zr (W T : Int) : Bool := W == 0 && T == 0
def streamB (K W T m f a s : Int) : Bool := if K = 0 then zc m f a && Reg.bothR W T s else if K = 1 then zr W T && Cong.bothB m f a s else false
theorem eqCong {m f a : Int} {r : Bool} (h : zc m f a = r) (w : World) :
  (binOp .eql 27 (.agg #[.int .i64 m, .int .i64 f, .int .i64 a]) (.agg #[.int .i64 0, .int .i64 0, .int .i64 0])).run Tryz.prog w = .ok (.bool r) w := by
 subst h
 unfold zc
 cases h1 : (m == 0) <;> cases h2 : (f == 0) <;> cases h3 : (a == 0) <;> go_simp
theorem eqReg {W T : Int} {r : Bool} (h : zr W T = r) (w : World) :
  (binOp .eql 25 (.agg #[.int .i64 W, .int .i64 T]) (.agg #[.int .i64 0, .int .i64 0])).run Tryz.prog w = .ok (.bool r) w := by
 subst h
 unfold zr
 cases h1 : (W == 0) <;> cases h2 : (T == 0) <;> go_simp
theorem validStream_any (K W T m f a s : Int) (w : World) :
  Calls Tryz.prog 29 #[.agg #[.int .i64 K, .int .i64 W, .int .i64 T, .int .i64 m, .int .i64 f, .int .i64 a, .int .i64 s]] w fun e w' => e = .returned (.bool (streamB K W T m f a s)) ∧ Below w.heap.size w w' := by
 by_cases hK : K = 0
 ·subst hK
  cases hb : Reg.bothR W T s
  ·go_enter Tryz.func29, Tryz.ntmps29
   go_wp2_with (go_at_call 66; refine (Reg.isRegState_any W T s _).mono ?_; rintro e w1 ⟨rfl, hb1⟩)
   go_ret
   exact ⟨ret_bool (by simp [streamB, hb]), Base.Below.boxed hb1⟩
  ·cases hz : zc m f a
   all_goals
    have he := eqCong hz
    go_enter Tryz.func29, Tryz.ntmps29
    go_wp2_with (go_at_call 66; refine (Reg.isRegState_any W T s _).mono ?_; rintro e w1 ⟨rfl, hb1⟩; have d3 : w1.cell? ⟨w.heap.size, 3, none⟩ = some (.int .i64 m) := box_cells hb1 3; have d4 : w1.cell? ⟨w.heap.size, 4, none⟩ = some (.int .i64 f) := box_cells hb1 4; have d5 : w1.cell? ⟨w.heap.size, 5, none⟩ = some (.int .i64 a) := box_cells hb1 5)
    go_ret
    exact ⟨ret_bool (by simp [streamB, hz, hb]), Base.Below.boxed hb1⟩
 ·by_cases hK1 : K = 1
  ·subst hK1
   clear hK
   cases hb : Cong.bothB m f a s
   ·go_enter Tryz.func29, Tryz.ntmps29
    go_wp2_with (go_at_call 67; refine (Cong.isState_any m f a s _).mono ?_; rintro e w1 ⟨rfl, hb1⟩)
    go_ret
    exact ⟨ret_bool (by simp [streamB, hb]), Base.Below.boxed hb1⟩
   ·cases hz : zr W T
    all_goals
     have he := eqReg hz
     go_enter Tryz.func29, Tryz.ntmps29
     go_wp2_with (go_at_call 67; refine (Cong.isState_any m f a s _).mono ?_; rintro e w1 ⟨rfl, hb1⟩; have d1 : w1.cell? ⟨w.heap.size, 1, none⟩ = some (.int .i64 W) := box_cells hb1 1; have d2 : w1.cell? ⟨w.heap.size, 2, none⟩ = some (.int .i64 T) := box_cells hb1 2)
     go_ret
     exact ⟨ret_bool (by simp [streamB, hz, hb]), Base.Below.boxed hb1⟩
  ·have g0 : (K == 0) = false := by simpa using hK
   have g1 : (K == 1) = false := by simpa using hK1
   have HF := J (show streamB K W T m f a s = false by simp [streamB, hK, hK1])
   clear hK hK1
   go_enter Tryz.func29, Tryz.ntmps29
   go_wp2
   go_ret
   exact ⟨ret_bool HF.out.symm, (Below.refl _ _).alloc (Nat.le_refl _) _⟩
end Str
namespace Str
open Go.RowKit Base
noncomputable def preS (K W T m f a s : Int) : Int := if streamB K W T m f a s = true then (if K = 0 then Reg.preR W T s else Cong.preB m f a s) else 0
noncomputable def perS (K W T m f a s : Int) : Int := if streamB K W T m f a s = true then (if K = 0 then Reg.perR W T s else Cong.perB m f a s) else 0
theorem streamB_true {K W T m f a s : Int} (h : streamB K W T m f a s = true) : (K = 0 ∧ Reg.bothR W T s = true) ∨ (K = 1 ∧ Cong.bothB m f a s = true) := by
 unfold streamB at h
 by_cases h0 : K = 0
 ·rw [if_pos h0, Bool.and_eq_true] at h
  exact .inl ⟨h0, h.2⟩
 ·rw [if_neg h0] at h
  by_cases h1 : K = 1
  ·rw [if_pos h1, Bool.and_eq_true] at h
   exact .inr ⟨h1, h.2⟩
  ·rw [if_neg h1] at h
   cases h
theorem preS_r {W T m f a s : Int} (h : streamB 0 W T m f a s = true) : preS 0 W T m f a s = Reg.preR W T s := by rw [preS, if_pos h, if_pos rfl]
theorem perS_r {W T m f a s : Int} (h : streamB 0 W T m f a s = true) : perS 0 W T m f a s = Reg.perR W T s := by rw [perS, if_pos h, if_pos rfl]
theorem preS_c {W T m f a s : Int} (h : streamB 1 W T m f a s = true) : preS 1 W T m f a s = Cong.preB m f a s := by rw [preS, if_pos h, if_neg (by decide)]
theorem perS_c {W T m f a s : Int} (h : streamB 1 W T m f a s = true) : perS 1 W T m f a s = Cong.perB m f a s := by rw [perS, if_pos h, if_neg (by decide)]
theorem cycleRI_any {W T x : Int} (hB : Reg.bothR W T x = true) (w : World) :
  Calls Tryz.prog 73 #[.agg #[.int .i64 W, .int .i64 T], .int .i64 x] w fun e w' => e = .returned (.tuple #[.int .i64 (Reg.preR W T x), .int .i64 (Reg.perR W T x)]) ∧ Below w.heap.size w w' := by
 obtain ⟨h1, h2, h3, h4, h5, h6⟩ := Reg.bothR_true hB
 obtain ⟨V, rfl⟩ := Int.eq_ofNat_of_zero_le h1
 obtain ⟨A, rfl⟩ := Int.eq_ofNat_of_zero_le h3
 obtain ⟨X, rfl⟩ := Int.eq_ofNat_of_zero_le h5
 have ep : ((2 ^ V : Nat) : Int) = (2 : Int) ^ V := by simp
 simp only [Int.toNat_natCast, ← ep] at h4 h6
 refine (Reg.cycleR_any V A X w (by omega) (by omega) (by omega)).mono ?_
 rintro e w' ⟨j, n, hc, rfl, hb⟩
 refine ⟨?_, hb⟩
 rw [Reg.preR_eq hB hc, Reg.perR_eq hB hc]
theorem cycleCI_any {m f a x : Int} (hB : Cong.bothB m f a x = true) (w : World) :
  Calls Tryz.prog 74 #[.agg #[.int .i64 m, .int .i64 f, .int .i64 a], .int .i64 x] w fun e w' => e = .returned (.tuple #[.int .i64 (Cong.preB m f a x), .int .i64 (Cong.perB m f a x)]) ∧ Below w.heap.size w w' := by
 obtain ⟨h1, h2, h3, h4, h5, h6, h7, h8⟩ := Cong.bothB_true hB
 obtain ⟨M, rfl⟩ := Int.eq_ofNat_of_zero_le (show 0 ≤ m by omega)
 obtain ⟨F, rfl⟩ := Int.eq_ofNat_of_zero_le h3
 obtain ⟨A, rfl⟩ := Int.eq_ofNat_of_zero_le h5
 obtain ⟨X, rfl⟩ := Int.eq_ofNat_of_zero_le h7
 refine (Cong.cycle_any M F A X w (by omega) (by omega) (by omega) (by omega) (by omega)).mono ?_
 rintro e w' ⟨j, n, hc, rfl, hb⟩
 refine ⟨?_, hb⟩
 rw [Cong.preB_eq hB hc, Cong.perB_eq hB hc]
theorem implCycle_any {K W T m f a s : Int} (hB : streamB K W T m f a s = true) (w : World) :
  Calls Tryz.prog 35 #[.agg #[.int .i64 K, .int .i64 W, .int .i64 T, .int .i64 m, .int .i64 f, .int .i64 a, .int .i64 s]] w fun e w' => e = .returned (.tuple #[.int .i64 (preS K W T m f a s), .int .i64 (perS K W T m f a s)]) ∧ Below w.heap.size w w' := by
 rcases streamB_true hB with ⟨rfl, hR⟩ | ⟨rfl, hC⟩
 ·rw [preS_r hB, perS_r hB]
  have HC := J (fun w => cycleRI_any hR w)
  generalize hp : Reg.preR W T s = p at *
  generalize hq : Reg.perR W T s = q at *
  clear hp hq hB hR
  go_enter Tryz.func35, Tryz.ntmps35
  go_wp2_with (go_at_call 73; refine (HC.out _).mono ?_; rintro e w1 ⟨rfl, hb1⟩)
  go_ret2
  exact ⟨rfl, Base.Below.boxed hb1⟩
 ·rw [preS_c hB, perS_c hB]
  have HC := J (fun w => cycleCI_any hC w)
  generalize hp : Cong.preB m f a s = p at *
  generalize hq : Cong.perB m f a s = q at *
  clear hp hq hB hC
  go_enter Tryz.func35, Tryz.ntmps35
  go_wp2_with (go_at_call 74; refine (HC.out _).mono ?_; rintro e w1 ⟨rfl, hb1⟩)
  go_ret2
  exact ⟨rfl, Base.Below.boxed hb1⟩
end Str
namespace Take
open Go.RowKit Base Mem Reg Bld Str RBits
def cbit (m f a x : Nat) : Nat := if m ≤ 2 * Cong.stepN m f a x then 1 else 0
theorem cbit_lt (m f a x : Nat) : cbit m f a x < 2 := by unfold cbit; split <;> omega
def outS (nx bt : Nat → Nat) (x : Nat) : Nat → List UInt8
 | 0 => []
 | n + 1 => outS nx bt x n ++ [UInt8.ofNat (48 + bt (CycM.iter nx x n))]
theorem outS_len (nx bt : Nat → Nat) (x : Nat) : ∀ n, (outS nx bt x n).length = n
 | 0 => rfl
 | n + 1 => by simp [outS, outS_len nx bt x n]
theorem outS_reg (W T x : Nat) : ∀ n, outR W T x n = outS (nextR W T) (· % 2) x n
 | 0 => rfl
 | n + 1 => by rw [outR, outS, outS_reg W T x n]
def SBox (w : World) (b : Nat) (K W T m f a s : Int) : Prop := w.heap[b]? = some (.cells #[.int .i64 K, .int .i64 W, .int .i64 T, .int .i64 m, .int .i64 f, .int .i64 a, .int .i64 s] 29 (0, 0))
theorem SBox.new (w : World) (K W T m f a s : Int) : SBox (w.alloc (.cells #[.int .i64 K, .int .i64 W, .int .i64 T, .int .i64 m, .int .i64 f, .int .i64 a, .int .i64 s] 29)) w.heap.size K W T m f a s := by
 unfold SBox
 show (w.heap.push _)[w.heap.size]? = _
 simp
section
variable {w w' : World} {b : Nat} {K W T m f a s : Int}
theorem SBox.lt (h : SBox w b K W T m f a s) : b < w.heap.size := RevNet.block_lt h
theorem SBox.c0 (h : SBox w b K W T m f a s) : w.cell? ⟨b, 0, none⟩ = some (.int .i64 K) := by rw [Lib.cell_of_heap h]; rfl
theorem SBox.c1 (h : SBox w b K W T m f a s) : w.cell? ⟨b, 1, none⟩ = some (.int .i64 W) := by rw [Lib.cell_of_heap h]; rfl
theorem SBox.c2 (h : SBox w b K W T m f a s) : w.cell? ⟨b, 2, none⟩ = some (.int .i64 T) := by rw [Lib.cell_of_heap h]; rfl
theorem SBox.c3 (h : SBox w b K W T m f a s) : w.cell? ⟨b, 3, none⟩ = some (.int .i64 m) := by rw [Lib.cell_of_heap h]; rfl
theorem SBox.c4 (h : SBox w b K W T m f a s) : w.cell? ⟨b, 4, none⟩ = some (.int .i64 f) := by rw [Lib.cell_of_heap h]; rfl
theorem SBox.c5 (h : SBox w b K W T m f a s) : w.cell? ⟨b, 5, none⟩ = some (.int .i64 a) := by rw [Lib.cell_of_heap h]; rfl
theorem SBox.c6 (h : SBox w b K W T m f a s) : w.cell? ⟨b, 6, none⟩ = some (.int .i64 s) := by rw [Lib.cell_of_heap h]; rfl
theorem SBox.frz (h : SBox w b K W T m f a s) (i : Nat) : w.frozen? ⟨b, i, none⟩ = false := Lib.frozen_of_heap h i
theorem SBox.below {B : Nat} (h : SBox w b K W T m f a s) (hb : Below B w w') (hB : b < B) : SBox w' b K W T m f a s := (hb.block b hB).trans h
theorem SBox.kept {row : Option Nat} (h : SBox w b K W T m f a s) (hg : w.grownBy w' row) (hne : row ≠ some b) : SBox w' b K W T m f a s := (hg.block b h.lt fun e => hne e.symm).trans h
def set7 (w : World) (b : Nat) (K W T m f a s : Int) : World :=
 ((((((w.setCell ⟨b, 0, none⟩ (.int .i64 K)).setCell ⟨b, 1, none⟩ (.int .i64 W)).setCell ⟨b, 2, none⟩ (.int .i64 T)).setCell ⟨b, 3, none⟩ (.int .i64 m)).setCell ⟨b, 4, none⟩ (.int .i64 f)).setCell ⟨b, 5, none⟩ (.int .i64 a)).setCell ⟨b, 6, none⟩ (.int .i64 s)
theorem SBox.set6 (h : SBox w b K W T m f a s) (s' : Int) : SBox (w.setCell ⟨b, 6, none⟩ (.int .i64 s')) b K W T m f a s' := by
 unfold SBox at *
 simp [World.setCell, Array.getElem?_modify, h]
theorem SBox.set7 (h : SBox w b K W T m f a s) (K' W' T' m' f' a' s' : Int) : SBox (set7 w b K' W' T' m' f' a' s') b K' W' T' m' f' a' s' := by
 unfold SBox at *
 unfold Take.set7
 simp [World.setCell, Array.getElem?_modify, h]
theorem grown_set7 (w : World) (b : Nat) (K W T m f a s : Int) : w.grownBy (set7 w b K W T m f a s) (some b) := by
 unfold set7
 exact grown_trans (grown_trans (grown_trans (grown_trans (grown_trans (grown_trans (Src.grown_setCell _ _ _) (Src.grown_setCell _ _ _)) (Src.grown_setCell _ _ _)) (Src.grown_setCell _ _ _)) (Src.grown_setCell _ _ _)) (Src.grown_setCell _ _ _)) (Src.grown_setCell _ _ _)
end
def TakeRet (K W T m f a : Int) (nx bt : Nat → Nat) (x n : Nat) (w : World) (e : Ending) (w' : World) : Prop :=
 e = .returned (.tuple #[.string ⟨(outS nx bt x n).toArray⟩, .agg #[.int .i64 K, .int .i64 W, .int .i64 T, .int .i64 m, .int .i64 f, .int .i64 a, .int .i64 ((CycM.iter nx x n : Nat) : Int)]]) ∧ Below w.heap.size w w'
theorem conv_own {w : World} {B g n cap : Nat} {l : List UInt8} (h : w.ownsRow B 5 1 (.slice (some ⟨g, 0, none⟩) n cap) n (Lib.byteCells l)) (hl : l.length = n) :
  (convert 22 9 (.slice (some ⟨g, 0, none⟩) n cap)).run Tryz.prog w = .ok (.string ⟨l.toArray⟩) w := by
 subst hl
 refine run_convert_bytes_back w 22 9 5 ⟨g, 0, none⟩ cap l Tryz.underlying22 Tryz.underlying5 Tryz.underlying9 ?_
 intro j hj
 have := h.cells (g := g) rfl j (.int .u8 (l[j].toNat : Int)) (by simp [Lib.byteCells, hj])
 simpa [Addr.add] using this
theorem conv_any {w : World} {B n : Nat} {v : Value} {l : List UInt8} (h : w.ownsRow B 5 1 v n (Lib.byteCells l)) (hl : l.length = n) :
  (convert 22 9 v).run Tryz.prog w = .ok (.string ⟨l.toArray⟩) w := by
 rcases h.2 with ⟨rfl, h0⟩ | ⟨g, cap, cur, rfl, _⟩
 ·obtain rfl : l = [] := List.eq_nil_of_length_eq_zero (by omega)
  exact Lib.run_convert_nil_bytes w 22 9 5 0 Tryz.underlying22 Tryz.underlying5 Tryz.underlying9
 ·exact conv_own h hl
def takeL (K W T m f a s c : Int) : List UInt8 := if K = 0 then outS (nextR W.toNat T.toNat) (· % 2) s.toNat c.toNat else outS (Cong.stepN m.toNat f.toNat a.toNat) (cbit m.toNat f.toNat a.toNat) s.toNat c.toNat
def takeX (K W T m f a s c : Int) : Int := if K = 0 then (CycM.iter (nextR W.toNat T.toNat) s.toNat c.toNat : Nat) else (CycM.iter (Cong.stepN m.toNat f.toNat a.toNat) s.toNat c.toNat : Nat)
def TakeR (K W T m f a s c : Int) (w : World) (e : Ending) (w' : World) : Prop := e = .returned (.tuple #[.string ⟨(takeL K W T m f a s c).toArray⟩, .agg #[.int .i64 K, .int .i64 W, .int .i64 T, .int .i64 m, .int .i64 f, .int .i64 a, .int .i64 (takeX K W T m f a s c)]]) ∧ Below w.heap.size w w'
theorem nats {K W T m f a s c : Int} (hB : streamB K W T m f a s = true) (hc : inR c 0 400 = true) : ∃ X N : Nat, s = X ∧ c = N ∧ N ≤ 400 ∧
  ((K = 0 ∧ ∃ V A : Nat, W = V ∧ T = A ∧ V ≤ 16 ∧ A < 2 ^ V ∧ X < 2 ^ V) ∨ (K = 1 ∧ ∃ M F A : Nat, m = M ∧ f = F ∧ a = A ∧ 2 ≤ M ∧ M ≤ 100000 ∧ F < M ∧ A < M ∧ X < M)) := by
 have h7 := inR_true hc
 rcases streamB_true hB with ⟨rfl, hR⟩ | ⟨rfl, hC⟩
 ·obtain ⟨h1, h2, h3, h4, h5, h6⟩ := Reg.bothR_true hR
  have ep : ((2 ^ W.toNat : Nat) : Int) = (2 : Int) ^ W.toNat := by simp
  exact ⟨s.toNat, c.toNat, by omega, by omega, by omega, .inl ⟨rfl, W.toNat, T.toNat, by omega, by omega, by omega, by omega, by omega⟩⟩
 ·obtain ⟨h1, h2, h3, h4, h5, h6, h7', h8⟩ := Cong.bothB_true hC
  exact ⟨s.toNat, c.toNat, by omega, by omega, by omega, .inr ⟨rfl, m.toNat, f.toNat, a.toNat, by omega, by omega, by omega, by omega, by omega, by omega, by omega, by omega⟩⟩
theorem implTake_reg (V A X N : Nat) (m f a : Int) (w : World) (hV : V ≤ 16) (hA : A < 2 ^ V) (hX : X < 2 ^ V) (hN : N ≤ 400) :
  Calls Tryz.prog 32 #[.agg #[.int .i64 0, .int .i64 V, .int .i64 A, .int .i64 m, .int .i64 f, .int .i64 a, .int .i64 X], .int .i64 N] w (TakeRet 0 V A m f a (nextR V A) (· % 2) X N w) := by
 unfold TakeRet
 obtain ⟨W0, hW0⟩ : ∃ W0, W0 = w.alloc (.cells #[.int .i64 0, .int .i64 V, .int .i64 A, .int .i64 m, .int .i64 f, .int .i64 a, .int .i64 X] 29) := ⟨_, rfl⟩
 have s0 : SBox W0 w.heap.size 0 V A m f a X := by rw [hW0]; exact SBox.new _ _ _ _ _ _ _ _
 have z0 : W0.heap.size = w.heap.size + 1 := by rw [hW0]; simp
 have b0 : Below w.heap.size w W0 := by rw [hW0]; exact (Below.refl _ _).alloc (Nat.le_refl _) _
 obtain ⟨W1, hW1⟩ : ∃ W1, W1 = W0.alloc (.cells #[.int .i64 0, .int .i64 0, .int .i64 0, .int .i64 0, .int .i64 0, .int .i64 0, .int .i64 0] 29) := ⟨_, rfl⟩
 have b1 : Below W0.heap.size W0 W1 := by rw [hW1]; exact (Below.refl _ _).alloc (Nat.le_refl _) _
 have r1 : SBox W1 (w.heap.size + 1) 0 0 0 0 0 0 0 := by rw [hW1, ← z0]; exact SBox.new _ _ _ _ _ _ _ _
 have z1 : W1.heap.size = w.heap.size + 2 := by rw [hW1]; simp [z0]
 have s1 := s0.below b1 (by omega)
 have B1 := b0.trans (b1.mono (show w.heap.size ≤ W0.heap.size by omega))
 have HS := J s1
 have HR := J r1
 have HB := J B1
 have HW0 := J hW0
 have HW1 := J hW1
 have HBi : Hid (∀ w, Calls Tryz.prog 68 #[.agg #[.int .i64 V, .int .i64 A], .int .i64 X, .int .i64 N] w fun e w' => e = .returned (.tuple #[.string ⟨(outS (nextR V A) (· % 2) X N).toArray⟩, .int .i64 ((CycM.iter (nextR V A) X N : Nat) : Int)]) ∧ Below w.heap.size w w') := J fun w => by
  have := bits_all V A X N w hV hA hX hN
  unfold BitsRet at this
  rw [outS_reg] at this
  exact this
 have HZ := J z1
 clear hW0 hW1 s0 z0 b0 b1 r1 z1 s1 B1
 go_enter Tryz.func32, Tryz.ntmps32
 go_wp2_with fail
 refine (HBi.out _).mono ?_
 rintro e w2 ⟨rfl, hb2⟩
 rw [← HW0.out, ← HW1.out] at hb2
 have hz := HZ.out
 have t0 := HS.out.below hb2 (by omega)
 have t1 := HR.out.below hb2 (by omega)
 have HB2 := J (HB.out.trans (hb2.mono (by omega)))
 have hz2 := hb2.size
 clear hb2
 obtain ⟨y, hy⟩ : ∃ y, CycM.iter (nextR V A) X N = y := ⟨_, rfl⟩
 obtain ⟨l, hl⟩ : ∃ l, outS (nextR V A) (· % 2) X N = l := ⟨_, rfl⟩
 have HY := J hy
 have HL := J hl
 rw [hy, hl]
 clear hy hl
 have a0 := t0.c0
 have a1 := t0.c1
 have a2 := t0.c2
 have a3 := t0.c3
 have a4 := t0.c4
 have a5 := t0.c5
 have a6 := t0.c6
 have f0 := t0.frz 6
 have u0 := t0.set6 (y : Int)
 obtain ⟨w3, hw3⟩ : ∃ w3, w3 = w2.setCell ⟨w.heap.size, 6, none⟩ (.int .i64 (y : Int)) := ⟨_, rfl⟩
 rw [← hw3] at u0
 have u1 : SBox w3 (w.heap.size + 1) 0 0 0 0 0 0 0 := by rw [hw3]; exact t1.kept (Src.grown_setCell _ _ _) (by simp)
 have HW3 := J hw3
 have HB3 := J (show Below w.heap.size w w3 by rw [hw3]; exact HB2.out.setCell (by simp) _)
 have x0 := u0.c0
 have x1 := u0.c1
 have x2 := u0.c2
 have x3 := u0.c3
 have x4 := u0.c4
 have x5 := u0.c5
 have x6 := u0.c6
 have g0 := u1.frz 0
 have g1 := u1.frz 1
 have g2 := u1.frz 2
 have g3 := u1.frz 3
 have g4 := u1.frz 4
 have g5 := u1.frz 5
 have g6 := u1.frz 6
 have h0 := u1.c0
 have h1 := u1.c1
 have h2 := u1.c2
 have h3 := u1.c3
 have h4 := u1.c4
 have h5 := u1.c5
 have h6 := u1.c6
 have S8 := u1.set7 0 V A m f a (y : Int)
 have p0 := S8.c0
 have p1 := S8.c1
 have p2 := S8.c2
 have p3 := S8.c3
 have p4 := S8.c4
 have p5 := S8.c5
 have p6 := S8.c6
 simp only [set7] at p0 p1 p2 p3 p4 p5 p6
 have B7 := J (HB3.out.trans (grown_below (grown_set7 w3 (w.heap.size + 1) 0 V A m f a (y : Int)) (fun g e => by cases e; exact Nat.le_succ _) HB3.out.size))
 have mixed : Tryz.prog.follows .mixedOrders = true := by kernel_rfl
 clear t0 t1 hw3 u0 u1 S8
 go_wp2_with fail
 rw [← HW3.out]
 clear a0 a1 a2 a3 a4 a5 a6 f0
 go_region_o
 all_goals
  go_wp2
  refine bodyPost_ret (v := .tuple #[.string ⟨l.toArray⟩, .agg #[.int .i64 0, .int .i64 V, .int .i64 A, .int .i64 m, .int .i64 f, .int .i64 a, .int .i64 (y : Int)]]) ?_ rfl ⟨by rw [HY.out, HL.out], ?_⟩
  ·simp [results, Tryz.results32, go_sem, p0, p1, p2, p3, p4, p5, p6]
  ·exact Below.drew B7.out
theorem push_plain {w w2 w3 : World} {v : Value} {k B : Nat} {xs : List Value} {c K W T m f a y : Int} (hs : SBox w2 B K W T m f a y) (hr : SBox w2 (B + 1) 0 0 0 0 0 0 0) (ho : w2.ownsRow (B + 2) 5 1 v k xs) (hb : Below B w w2)
  (hg : (w2.alloc (.cells #[.int .u8 c] 5)).grownBy w3 v.ownBlock) :
  SBox w3 B K W T m f a y ∧ SBox w3 (B + 1) 0 0 0 0 0 0 0 ∧ Below B w w3 := by
 have hrow : ∀ g, v.ownBlock = some g → B + 2 ≤ g ∧ g < w2.heap.size := fun g hg => by
  obtain ⟨_, _, h1, h2⟩ := ownsRow_block ho hg
  exact ⟨h1, h2⟩
 have hlt := hr.lt
 have ba : Below w2.heap.size w2 (w2.alloc (.cells #[.int .u8 c] 5)) := (Below.refl _ _).alloc (Nat.le_refl _) _
 have n2 := (hs.below ba (by omega)).kept hg (fun e => by have := hrow _ e; omega)
 have n3 := (hr.below ba (by omega)).kept hg (fun e => by have := hrow _ e; omega)
 exact ⟨n2, n3, (hb.trans (ba.mono (by omega))).trans (grown_below hg (fun g e => by have := (hrow g e).1; omega) (by simp; omega))⟩
theorem implTake_con (M F A X N : Nat) (W T : Int) (w : World) (h2 : 2 ≤ M) (hM : M ≤ 100000) (hF : F < M) (hA : A < M) (hX : X < M) (hN : N ≤ 400) :
  Calls Tryz.prog 32 #[.agg #[.int .i64 1, .int .i64 W, .int .i64 T, .int .i64 M, .int .i64 F, .int .i64 A, .int .i64 X], .int .i64 N] w (TakeRet 1 W T M F A (Cong.stepN M F A) (cbit M F A) X N w) := by
 unfold TakeRet
 obtain ⟨i0, hi, hz0, hz1, hz2⟩ := info_parts infoByte
 obtain ⟨W0, hW0⟩ : ∃ W0, W0 = w.alloc (.cells #[.int .i64 1, .int .i64 W, .int .i64 T, .int .i64 M, .int .i64 F, .int .i64 A, .int .i64 X] 29) := ⟨_, rfl⟩
 have s0 : SBox W0 w.heap.size 1 W T M F A X := by rw [hW0]; exact SBox.new _ _ _ _ _ _ _ _
 have z0 : W0.heap.size = w.heap.size + 1 := by rw [hW0]; simp
 have b0 : Below w.heap.size w W0 := by rw [hW0]; exact (Below.refl _ _).alloc (Nat.le_refl _) _
 obtain ⟨W1, hW1⟩ : ∃ W1, W1 = W0.alloc (.cells #[.int .i64 0, .int .i64 0, .int .i64 0, .int .i64 0, .int .i64 0, .int .i64 0, .int .i64 0] 29) := ⟨_, rfl⟩
 have b1 : Below W0.heap.size W0 W1 := by rw [hW1]; exact (Below.refl _ _).alloc (Nat.le_refl _) _
 have r1 : SBox W1 (w.heap.size + 1) 0 0 0 0 0 0 0 := by rw [hW1, ← z0]; exact SBox.new _ _ _ _ _ _ _ _
 have z1 : W1.heap.size = w.heap.size + 2 := by rw [hW1]; simp [z0]
 have s1 := s0.below b1 (by omega)
 obtain ⟨W2, hW2⟩ : ∃ W2, W2 = W1.alloc (.cells #[] 5) := ⟨_, rfl⟩
 have b2 : Below W1.heap.size W1 W2 := by rw [hW2]; exact (Below.refl _ _).alloc (Nat.le_refl _) _
 have s2 := s1.below b2 (by omega)
 have r2 := r1.below b2 (by omega)
 have B2 : Below w.heap.size w W2 := b0.trans ((b1.mono (by omega)).trans (b2.mono (by omega)))
 have o2 : W2.ownsRow (w.heap.size + 2) 5 1 (.slice (some ⟨w.heap.size + 2, 0, none⟩) 0 0) 0 (Lib.byteCells []) := by
  have h2 := World.ownsRow_lit (e := 5) (size := 1) (base := W1.heap.size) W1 #[] 0 (Nat.le_refl _) (by decide) (by simp)
  rw [hW2, ← z1]
  exact h2
 have HO := J o2
 have HB := J B2
 have HS2 := J s2
 have HR2 := J r2
 have HW0 := J hW0
 have HW1 := J hW1
 have HW2 := J hW2
 have HIt := J (fun k => show CycM.iter (Cong.stepN M F A) X k < M from CycM.iter_lt (fun y _ => Cong.stepN_lt (by omega) y) hX k)
 clear hW0 hW1 hW2 s0 z0 b0 b1 r1 z1 s1 b2 s2 r2 B2 o2
 go_enter Tryz.func32, Tryz.ntmps32
 go_wp2
 go_loopw [8, 28] (fun v c wr => ∃ k : Nat, k ≤ N ∧ c = .int .i64 (k : Int) ∧ SBox wr w.heap.size 1 W T M F A ((CycM.iter (Cong.stepN M F A) X k : Nat) : Int) ∧ SBox wr (w.heap.size + 1) 0 0 0 0 0 0 0 ∧ wr.ownsRow (w.heap.size + 2) 5 1 v k (Lib.byteCells (outS (Cong.stepN M F A) (cbit M F A) X k)) ∧ Below w.heap.size w wr) (fun _ c _ => N - (intOf c).toNat)
 case atStart =>
  have e1 := HS2.out
  have e2 := HR2.out
  have e3 := HO.out
  have e4 := HB.out
  rw [HW2.out, HW1.out, HW0.out] at e1 e2 e3 e4
  exact ⟨0, Nat.zero_le _, rfl, e1, e2, e3, e4⟩
 case round =>
  obtain ⟨k, hk, rfl, hs, hr, ho, hb⟩ := hrel
  have HSs := J hs
  have HRr := J hr
  have HOo := J ho
  have HBb := J hb
  have hwz := hb.size
  have hrl := hr.lt
  have c0 := hs.c0
  have c1 := hs.c1
  have c2 := hs.c2
  have c3 := hs.c3
  have c4 := hs.c4
  have c5 := hs.c5
  have c6 := hs.c6
  clear hs hr ho hb
  by_cases hlt : k < N
  ·have hyM := HIt.out k
   have hb2 := cbit_lt M F A (CycM.iter (Cong.stepN M F A) X k)
   have hcb : cbit M F A (CycM.iter (Cong.stepN M F A) X k) = if M ≤ 2 * Cong.stepN M F A (CycM.iter (Cong.stepN M F A) X k) then 1 else 0 := rfl
   have HNx : Hid (CycM.iter (Cong.stepN M F A) X (k + 1) = Cong.stepN M F A (CycM.iter (Cong.stepN M F A) X k)) := J rfl
   have HO1 : Hid (outS (Cong.stepN M F A) (cbit M F A) X (k + 1) = outS (Cong.stepN M F A) (cbit M F A) X k ++ [UInt8.ofNat (48 + cbit M F A (CycM.iter (Cong.stepN M F A) X k))]) := J rfl
   have HBy := J (byte_bit _ hb2)
   have hyM2 : Cong.stepN M F A (CycM.iter (Cong.stepN M F A) X k) < M := Cong.stepN_lt (by omega) _
   have HSt : Hid (∀ w, Calls Tryz.prog 69 #[.agg #[.int .i64 M, .int .i64 F, .int .i64 A], .int .i64 ((CycM.iter (Cong.stepN M F A) X k : Nat) : Int)] w fun e w' => e = .returned (.int .i64 ((Cong.stepN M F A (CycM.iter (Cong.stepN M F A) X k) : Nat) : Int)) ∧ Below w.heap.size w w') :=
    J fun w => Cong.congStep_any M F A _ w h2 hM hF hA hyM
   generalize CycM.iter (Cong.stepN M F A) X k = y at *
   generalize cbit M F A y = bit at *
   generalize Cong.stepN M F A y = y' at *
   obtain ⟨c, hc⟩ : ∃ c : Int, c = ((48 + bit : Nat) : Int) := ⟨_, rfl⟩
   have HC := J hc
   have HCB := J hcb
   have HT0 : Hid (∀ w, bit = 0 → Calls Tryz.prog 70 #[.int .i64 0] w fun e w' => e = .returned (.int .u8 c) ∧ w = w') := J fun w h => by subst h; rw [hc]; exact bitText_any 0 (by decide) w
   have HT1 : Hid (∀ w, bit = 1 → Calls Tryz.prog 70 #[.int .i64 1] w fun e w' => e = .returned (.int .u8 c) ∧ w = w') := J fun w h => by subst h; rw [hc]; exact bitText_any 1 (by decide) w
   clear hc hcb hb2 hyM
   go_wp2_with fail
   refine (HSt.out _).mono ?_
   rintro e w1 ⟨rfl, hb1⟩
   have hs1 := HSs.out.below hb1 (by omega)
   have hr1 := HRr.out.below hb1 (by omega)
   have ho1 := ownsRow_below HOo.out hb1
   have hbb1 := HBb.out.trans (hb1.mono hwz)
   have hws := hb1.size
   obtain ⟨w2, hw2⟩ : ∃ w2, w2 = w1.setCell ⟨w.heap.size, 6, none⟩ (.int .i64 (y' : Int)) := ⟨_, rfl⟩
   have HW2' := J hw2
   have hz2' : w1.heap.size ≤ w2.heap.size := by rw [hw2]; simp
   have hs2 : SBox w2 w.heap.size 1 W T M F A (y' : Int) := by rw [hw2]; exact hs1.set6 _
   have hr2 : SBox w2 (w.heap.size + 1) 0 0 0 0 0 0 0 := by rw [hw2]; exact hr1.kept (Src.grown_setCell _ _ _) (by simp)
   have ho2 := World.ownsRow.kept ho1 (Src.grown_setCell w1 ⟨w.heap.size, 6, none⟩ (.int .i64 (y' : Int))) (.inr fun e => by obtain ⟨_, _, h1, _⟩ := ownsRow_block ho1 e; simp at h1; omega)
   rw [← hw2] at ho2
   have hbb2 : Below w.heap.size w w2 := by rw [hw2]; exact hbb1.setCell (by simp) _
   have HS3 := J hs2
   have HO3 := J ho2
   have a0 := hs1.c0
   have a1 := hs1.c1
   have a2 := hs1.c2
   have a3 := hs1.c3
   have a4 := hs1.c4
   have a5 := hs1.c5
   have a6 := hs1.c6
   have fz := hs1.frz 6
   have d3 := hs2.c3
   have d6 := hs2.c6
   have HP := J (fun w3 hg => push_plain (w3 := w3) (c := c) hs2 hr2 ho2 hbb2 hg)
   have HW := J (World.ownsRow.alloc ho2 (.cells #[.int .u8 c] 5))
   clear hb1 hs1 hr1 ho1 hbb1 hw2 hs2 hr2 ho2 hbb2 c0 c1 c2 c3 c4 c5 c6
   by_cases hcm : M ≤ 2 * y'
   ·have hbit : bit = 1 := by have := HCB.out; rw [if_pos hcm] at this; exact this
    have HBT := J (fun w => HT1.out w hbit)
    clear hbit
    go_wp2_with fail
    rw [← HW2'.out]
    refine (HBT.out _).mono ?_
    rintro e w' ⟨rfl, rfl⟩
    go_wp2_with (at_builtin; refine wpList_append_own_at _ rfl (.tmp 43) (.tmp 46) 22 rfl (w.heap.size + 2) 5 i0 (.int .u8 0) 1 1 Tryz.underlying22 hi hz0 hz1 hz2 rfl (by decide) _ _ _ rfl HW.out ⟨w2.heap.size, 0, none⟩ 1 1 [.int .u8 c] rfl rfl ?p1a ?p2a ?p3a ?p4a ?p5a ?_)
    try case p1a => exact news_one _ _ _ (by simp)
    try case p2a => first | rfl | (intro u hu; simp at hu; subst hu; rfl)
    try case p3a => first | (simp only [maxLen]; omega) | omega
    try case p4a => omega
    try case p5a => first | (simp only [World.size_alloc]; omega) | omega
    intro v' w3 hown' hg' _ he
    obtain ⟨n3, n4, n6⟩ := HP.out w3 hg'
    have N3 := J n3
    have N4 := J n4
    have N5 := J hown'
    have N6 := J n6
    clear n3 n4 n6 hown' hg' he
    go_wp2_with fail
    go_roundw
    case rel =>
     refine ⟨k + 1, hlt, by go_num, ?_, N4.out, ?_, N6.out⟩
     ·rw [HNx.out]; exact N3.out
     ·rw [HO1.out]
      have := N5.out
      rw [HC.out, ← HBy.out] at this
      simpa [Lib.byteCells] using this
    case measure => simp [intOf]; omega
   ·have hbit : bit = 0 := by have := HCB.out; rw [if_neg hcm] at this; exact this
    have HBT := J (fun w => HT0.out w hbit)
    clear hbit
    go_wp2_with fail
    rw [← HW2'.out]
    refine (HBT.out _).mono ?_
    rintro e w' ⟨rfl, rfl⟩
    go_wp2_with (at_builtin; refine wpList_append_own_at _ rfl (.tmp 43) (.tmp 46) 22 rfl (w.heap.size + 2) 5 i0 (.int .u8 0) 1 1 Tryz.underlying22 hi hz0 hz1 hz2 rfl (by decide) _ _ _ rfl HW.out ⟨w2.heap.size, 0, none⟩ 1 1 [.int .u8 c] rfl rfl ?p1b ?p2b ?p3b ?p4b ?p5b ?_)
    try case p1b => exact news_one _ _ _ (by simp)
    try case p2b => first | rfl | (intro u hu; simp at hu; subst hu; rfl)
    try case p3b => first | (simp only [maxLen]; omega) | omega
    try case p4b => omega
    try case p5b => first | (simp only [World.size_alloc]; omega) | omega
    intro v' w3 hown' hg' _ he
    obtain ⟨n3, n4, n6⟩ := HP.out w3 hg'
    have N3 := J n3
    have N4 := J n4
    have N5 := J hown'
    have N6 := J n6
    clear n3 n4 n6 hown' hg' he
    go_wp2_with fail
    go_roundw
    case rel =>
     refine ⟨k + 1, hlt, by go_num, ?_, N4.out, ?_, N6.out⟩
     ·rw [HNx.out]; exact N3.out
     ·rw [HO1.out]
      have := N5.out
      rw [HC.out, ← HBy.out] at this
      simpa [Lib.byteCells] using this
    case measure => simp [intOf]; omega
  ·obtain rfl : k = N := by omega
   have HLn := J (outS_len (Cong.stepN M F A) (cbit M F A) X k)
   obtain ⟨y, hy⟩ : ∃ y, CycM.iter (Cong.stepN M F A) X k = y := ⟨_, rfl⟩
   obtain ⟨l, hl⟩ : ∃ l, outS (Cong.stepN M F A) (cbit M F A) X k = l := ⟨_, rfl⟩
   rw [hl] at HOo HLn
   rw [hy] at c6 HSs
   have HY := J hy
   have HL := J hl
   clear hy hl
   have f0 := HRr.out.frz 0
   have f1 := HRr.out.frz 1
   have f2 := HRr.out.frz 2
   have f3 := HRr.out.frz 3
   have f4 := HRr.out.frz 4
   have f5 := HRr.out.frz 5
   have f6 := HRr.out.frz 6
   have g0 := HRr.out.c0
   have g1 := HRr.out.c1
   have g2 := HRr.out.c2
   have g3 := HRr.out.c3
   have g4 := HRr.out.c4
   have g5 := HRr.out.c5
   have g6 := HRr.out.c6
   have RD := J (HRr.out.below (Below.drew (Below.refl wr.heap.size wr)) HRr.out.lt)
   have OD := J (ownsRow_below HOo.out (Below.drew (Below.refl wr.heap.size wr)))
   have hC1 := conv_any OD.out HLn.out
   have O7 := J (World.ownsRow.kept OD.out (grown_set7 wr.drew (w.heap.size + 1) 1 W T M F A (y : Int)) (.inr fun e => by obtain ⟨_, _, h1, _⟩ := ownsRow_block OD.out e; omega))
   have hC2 := conv_any O7.out HLn.out
   have S8 := HRr.out.set7 1 W T M F A (y : Int)
   have p0 := S8.c0
   have p1 := S8.c1
   have p2 := S8.c2
   have p3 := S8.c3
   have p4 := S8.c4
   have p5 := S8.c5
   have p6 := S8.c6
   have B7 := J ((HBb.out).trans (grown_below (grown_set7 wr (w.heap.size + 1) 1 W T M F A (y : Int)) (fun g e => by cases e; exact Nat.le_succ _) (show w.heap.size ≤ wr.heap.size by omega)))
   simp only [set7] at hC2 p0 p1 p2 p3 p4 p5 p6
   clear S8
   have mixed : Tryz.prog.follows .mixedOrders = true := by kernel_rfl
   go_wp2_with fail
   go_region_o
   all_goals
    go_wp2
    refine bodyPost_ret (v := .tuple #[.string ⟨l.toArray⟩, .agg #[.int .i64 1, .int .i64 W, .int .i64 T, .int .i64 M, .int .i64 F, .int .i64 A, .int .i64 (y : Int)]]) (by simp [results, Tryz.results32, go_sem, p0, p1, p2, p3, p4, p5, p6]) rfl ⟨by rw [HY.out, HL.out], Below.drew B7.out⟩
end Take
namespace Take
open Go.RowKit Base Mem Reg Str
theorem implTake_yes {K W T m f a s c : Int} (hB : streamB K W T m f a s = true) (hc : inR c 0 400 = true) (w : World) : Calls Tryz.prog 32 #[.agg #[.int .i64 K, .int .i64 W, .int .i64 T, .int .i64 m, .int .i64 f, .int .i64 a, .int .i64 s], .int .i64 c] w (TakeR K W T m f a s c w) := by
 obtain ⟨X, N, rfl, rfl, hN, ⟨rfl, V, A, rfl, rfl, hV, hA, hX⟩ | ⟨rfl, M, F, A, rfl, rfl, rfl, h1, h2, h3, h4, h5⟩⟩ := nats hB hc
 ·exact implTake_reg V A X N m f a w hV hA hX hN
 ·exact implTake_con M F A X N W T w h1 h2 h3 h4 h5 hN
def okB (K W T m f a s c : Int) : Bool := streamB K W T m f a s && inR c 0 400
def TBRet (K W T m f a s c : Int) (w : World) (e : Ending) (w' : World) : Prop :=
 (okB K W T m f a s c = true → e = .returned (.tuple #[.string ⟨(takeL K W T m f a s c).toArray⟩, .agg #[.int .i64 K, .int .i64 W, .int .i64 T, .int .i64 m, .int .i64 f, .int .i64 a, .int .i64 (takeX K W T m f a s c)], .bool true])) ∧
 (okB K W T m f a s c = false → e = .returned (.tuple #[.string ⟨#[]⟩, .agg #[.int .i64 0, .int .i64 0, .int .i64 0, .int .i64 0, .int .i64 0, .int .i64 0, .int .i64 0], .bool false])) ∧ Below w.heap.size w w'
theorem TBRet.no {K W T m f a s c : Int} {w w' : World} {e : Ending} (h : okB K W T m f a s c = false) (he : e = .returned (.tuple #[.string ⟨#[]⟩, .agg #[.int .i64 0, .int .i64 0, .int .i64 0, .int .i64 0, .int .i64 0, .int .i64 0, .int .i64 0], .bool false])) (hb : Below w.heap.size w w') : TBRet K W T m f a s c w e w' :=
 ⟨fun h2 => (by rw [h] at h2; cases h2), fun _ => he, hb⟩
theorem TBRet.yes {K W T m f a s c : Int} {w w' : World} {e : Ending} (h : okB K W T m f a s c = true) (he : e = .returned (.tuple #[.string ⟨(takeL K W T m f a s c).toArray⟩, .agg #[.int .i64 K, .int .i64 W, .int .i64 T, .int .i64 m, .int .i64 f, .int .i64 a, .int .i64 (takeX K W T m f a s c)], .bool true])) (hb : Below w.heap.size w w') : TBRet K W T m f a s c w e w' :=
 ⟨fun _ => he, fun h2 => (by rw [h] at h2; cases h2), hb⟩
theorem implTB_any (K W T m f a s c : Int) (w : World) : Calls Tryz.prog 9 #[.agg #[.int .i64 K, .int .i64 W, .int .i64 T, .int .i64 m, .int .i64 f, .int .i64 a, .int .i64 s], .int .i64 c] w (TBRet K W T m f a s c w) := by
 cases hB : streamB K W T m f a s with
 | false =>
  have HB := J hB
  have HN := J (fun e w' => TBRet.no (w := w) (w' := w') (e := e) (show okB K W T m f a s c = false by simp [okB, hB]))
  clear hB
  obtain ⟨W1, hW1⟩ : ∃ W1, W1 = (w.alloc (.cells #[.int .i64 K, .int .i64 W, .int .i64 T, .int .i64 m, .int .i64 f, .int .i64 a, .int .i64 s] 29)).alloc (.cells #[.int .i64 0, .int .i64 0, .int .i64 0, .int .i64 0, .int .i64 0, .int .i64 0, .int .i64 0] 29) := ⟨_, rfl⟩
  have R1 : SBox W1 (w.heap.size + 1) 0 0 0 0 0 0 0 := by
   have := SBox.new (w.alloc (.cells #[.int .i64 K, .int .i64 W, .int .i64 T, .int .i64 m, .int .i64 f, .int .i64 a, .int .i64 s] 29)) 0 0 0 0 0 0 0
   rw [World.size_alloc] at this
   rw [hW1]; exact this
  have B1 : Below w.heap.size w W1 := by rw [hW1]; exact ((Below.refl _ _).alloc (Nat.le_refl _) _).alloc (by simp) _
  have HR := J R1
  have HB1 := J B1
  have HW1 := J hW1
  clear R1 B1 hW1
  go_enter Tryz.func9, Tryz.ntmps9
  go_wp2_with (go_at_call 29; rw [← HW1.out]; refine (validStream_any K W T m f a s _).mono ?_; rintro e w1 ⟨rfl, hb1⟩; rw [HB.out]; have y0 := (HR.out.below hb1 HR.out.lt).c0; have y1 := (HR.out.below hb1 HR.out.lt).c1; have y2 := (HR.out.below hb1 HR.out.lt).c2; have y3 := (HR.out.below hb1 HR.out.lt).c3; have y4 := (HR.out.below hb1 HR.out.lt).c4; have y5 := (HR.out.below hb1 HR.out.lt).c5; have y6 := (HR.out.below hb1 HR.out.lt).c6; have e0 := (HR.out.below hb1 HR.out.lt).frz 0; have e1 := (HR.out.below hb1 HR.out.lt).frz 1; have e2 := (HR.out.below hb1 HR.out.lt).frz 2; have e3 := (HR.out.below hb1 HR.out.lt).frz 3; have e4 := (HR.out.below hb1 HR.out.lt).frz 4; have e5 := (HR.out.below hb1 HR.out.lt).frz 5; have e6 := (HR.out.below hb1 HR.out.lt).frz 6; have S8 := (HR.out.below hb1 HR.out.lt).set7 0 0 0 0 0 0 0; have p0 := S8.c0; have p1 := S8.c1; have p2 := S8.c2; have p3 := S8.c3; have p4 := S8.c4; have p5 := S8.c5; have p6 := S8.c6; simp only [set7] at p0 p1 p2 p3 p4 p5 p6; clear S8; have HB2 := J (HB1.out.trans (hb1.mono HB1.out.size)))
  refine bodyPost_ret (v := .tuple #[.string ⟨#[]⟩, .agg #[.int .i64 0, .int .i64 0, .int .i64 0, .int .i64 0, .int .i64 0, .int .i64 0, .int .i64 0], .bool false]) (by simp [results, Tryz.results9, go_sem, p0, p1, p2, p3, p4, p5, p6]) rfl (HN.out _ _ rfl ?_)
  exact (((((((HB2.out.setCell (by simp) _).setCell (by simp) _).setCell (by simp) _).setCell (by simp) _).setCell (by simp) _).setCell (by simp) _).setCell (by simp) _)
 | true =>
  cases hc : inR c 0 400 with
  | false =>
   have HB := J hB
   have HC := J hc
   have HN := J (fun e w' => TBRet.no (w := w) (w' := w') (e := e) (show okB K W T m f a s c = false by simp [okB, hB, hc]))
   clear hB hc
   obtain ⟨W1, hW1⟩ : ∃ W1, W1 = (w.alloc (.cells #[.int .i64 K, .int .i64 W, .int .i64 T, .int .i64 m, .int .i64 f, .int .i64 a, .int .i64 s] 29)).alloc (.cells #[.int .i64 0, .int .i64 0, .int .i64 0, .int .i64 0, .int .i64 0, .int .i64 0, .int .i64 0] 29) := ⟨_, rfl⟩
   have R1 : SBox W1 (w.heap.size + 1) 0 0 0 0 0 0 0 := by
    have := SBox.new (w.alloc (.cells #[.int .i64 K, .int .i64 W, .int .i64 T, .int .i64 m, .int .i64 f, .int .i64 a, .int .i64 s] 29)) 0 0 0 0 0 0 0
    rw [World.size_alloc] at this
    rw [hW1]; exact this
   have B1 : Below w.heap.size w W1 := by rw [hW1]; exact ((Below.refl _ _).alloc (Nat.le_refl _) _).alloc (by simp) _
   have HR := J R1
   have HB1 := J B1
   have HW1 := J hW1
   clear R1 B1 hW1
   go_enter Tryz.func9, Tryz.ntmps9
   go_wp2_with (first | (go_at_call 29; rw [← HW1.out]; refine (validStream_any K W T m f a s _).mono ?_; rintro e w1 ⟨rfl, hb1⟩; rw [HB.out]; have y0 := (HR.out.below hb1 HR.out.lt).c0; have y1 := (HR.out.below hb1 HR.out.lt).c1; have y2 := (HR.out.below hb1 HR.out.lt).c2; have y3 := (HR.out.below hb1 HR.out.lt).c3; have y4 := (HR.out.below hb1 HR.out.lt).c4; have y5 := (HR.out.below hb1 HR.out.lt).c5; have y6 := (HR.out.below hb1 HR.out.lt).c6; have e0 := (HR.out.below hb1 HR.out.lt).frz 0; have e1 := (HR.out.below hb1 HR.out.lt).frz 1; have e2 := (HR.out.below hb1 HR.out.lt).frz 2; have e3 := (HR.out.below hb1 HR.out.lt).frz 3; have e4 := (HR.out.below hb1 HR.out.lt).frz 4; have e5 := (HR.out.below hb1 HR.out.lt).frz 5; have e6 := (HR.out.below hb1 HR.out.lt).frz 6; have S8 := (HR.out.below hb1 HR.out.lt).set7 0 0 0 0 0 0 0; have p0 := S8.c0; have p1 := S8.c1; have p2 := S8.c2; have p3 := S8.c3; have p4 := S8.c4; have p5 := S8.c5; have p6 := S8.c6; simp only [set7] at p0 p1 p2 p3 p4 p5 p6; clear S8; have HB2 := J (HB1.out.trans (hb1.mono HB1.out.size))) | (go_at_call 31; refine (inRange_any _ _ _ _).mono ?_; rintro e w' ⟨rfl, rfl⟩; rw [HC.out]))
   refine bodyPost_ret (v := .tuple #[.string ⟨#[]⟩, .agg #[.int .i64 0, .int .i64 0, .int .i64 0, .int .i64 0, .int .i64 0, .int .i64 0, .int .i64 0], .bool false]) (by simp [results, Tryz.results9, go_sem, p0, p1, p2, p3, p4, p5, p6]) rfl (HN.out _ _ rfl ?_)
   exact (((((((HB2.out.setCell (by simp) _).setCell (by simp) _).setCell (by simp) _).setCell (by simp) _).setCell (by simp) _).setCell (by simp) _).setCell (by simp) _)
  | true =>
   have HB := J hB
   have HC := J hc
   have HY := J (fun e w' => TBRet.yes (w := w) (w' := w') (e := e) (show okB K W T m f a s c = true by simp [okB, hB, hc]))
   have HT := J (fun w => implTake_yes hB hc w)
   clear hB hc
   obtain ⟨l, hl⟩ : ∃ l, takeL K W T m f a s c = l := ⟨_, rfl⟩
   obtain ⟨x, hx⟩ : ∃ x, takeX K W T m f a s c = x := ⟨_, rfl⟩
   unfold TakeR at HT
   rw [hl, hx] at HY HT
   clear hl hx
   obtain ⟨W1, hW1⟩ : ∃ W1, W1 = (w.alloc (.cells #[.int .i64 K, .int .i64 W, .int .i64 T, .int .i64 m, .int .i64 f, .int .i64 a, .int .i64 s] 29)).alloc (.cells #[.int .i64 0, .int .i64 0, .int .i64 0, .int .i64 0, .int .i64 0, .int .i64 0, .int .i64 0] 29) := ⟨_, rfl⟩
   have R1 : SBox W1 (w.heap.size + 1) 0 0 0 0 0 0 0 := by
    have := SBox.new (w.alloc (.cells #[.int .i64 K, .int .i64 W, .int .i64 T, .int .i64 m, .int .i64 f, .int .i64 a, .int .i64 s] 29)) 0 0 0 0 0 0 0
    rw [World.size_alloc] at this
    rw [hW1]; exact this
   have B1 : Below w.heap.size w W1 := by rw [hW1]; exact ((Below.refl _ _).alloc (Nat.le_refl _) _).alloc (by simp) _
   have HR := J R1
   have HB1 := J B1
   have HW1 := J hW1
   have S1 : SBox W1 w.heap.size K W T m f a s := by
    have := (SBox.new w K W T m f a s).below ((Below.refl (w.heap.size + 1) _).alloc (by simp) (.cells #[.int .i64 0, .int .i64 0, .int .i64 0, .int .i64 0, .int .i64 0, .int .i64 0, .int .i64 0] 29)) (Nat.lt_succ_self _)
    rw [hW1]; exact this
   have HS1 := J S1
   clear R1 B1 hW1 S1
   go_enter Tryz.func9, Tryz.ntmps9
   go_wp2_with (first | (go_at_call 29; rw [← HW1.out]; refine (validStream_any K W T m f a s _).mono ?_; rintro e w1 ⟨rfl, hb1⟩; rw [HB.out]; have d0 := (HS1.out.below hb1 HS1.out.lt).c0; have d1 := (HS1.out.below hb1 HS1.out.lt).c1; have d2 := (HS1.out.below hb1 HS1.out.lt).c2; have d3 := (HS1.out.below hb1 HS1.out.lt).c3; have d4 := (HS1.out.below hb1 HS1.out.lt).c4; have d5 := (HS1.out.below hb1 HS1.out.lt).c5; have d6 := (HS1.out.below hb1 HS1.out.lt).c6; have HR2 := HR.out.below hb1 HR.out.lt; have HB2 := HB1.out.trans (hb1.mono HB1.out.size)) | (go_at_call 31; refine (inRange_any _ _ _ _).mono ?_; rintro e w' ⟨rfl, rfl⟩; rw [HC.out]) | (go_at_call 32; refine (HT.out _).mono ?_; rintro e w2 ⟨rfl, hb2⟩))
   have t1 := HR2.below hb2 HR2.lt
   have hz2 := hb2.size
   have hr2 := HR2.lt
   have B2 := J (HB2.trans (hb2.mono HB2.size))
   clear hb2 HR2 HB2
   obtain ⟨w3, hw3⟩ : ∃ w3, w3 = w2.alloc (.cells #[.int .i64 K, .int .i64 W, .int .i64 T, .int .i64 m, .int .i64 f, .int .i64 a, .int .i64 x] 29) := ⟨_, rfl⟩
   have b3 : Below w2.heap.size w2 w3 := by rw [hw3]; exact (Below.refl _ _).alloc (Nat.le_refl _) _
   have u0 : SBox w3 w2.heap.size K W T m f a x := by rw [hw3]; exact SBox.new _ _ _ _ _ _ _ _
   have u1 := t1.below b3 t1.lt
   have HW3 := J hw3
   have HB3 := J (B2.out.trans (b3.mono B2.out.size))
   have hlt := t1.lt
   have x0 := u0.c0
   have x1 := u0.c1
   have x2 := u0.c2
   have x3 := u0.c3
   have x4 := u0.c4
   have x5 := u0.c5
   have x6 := u0.c6
   have g0 := u1.frz 0
   have g1 := u1.frz 1
   have g2 := u1.frz 2
   have g3 := u1.frz 3
   have g4 := u1.frz 4
   have g5 := u1.frz 5
   have g6 := u1.frz 6
   have h0 := u1.c0
   have h1 := u1.c1
   have h2 := u1.c2
   have h3 := u1.c3
   have h4 := u1.c4
   have h5 := u1.c5
   have h6 := u1.c6
   have S8 := u1.set7 K W T m f a x
   have p0 := S8.c0
   have p1 := S8.c1
   have p2 := S8.c2
   have p3 := S8.c3
   have p4 := S8.c4
   have p5 := S8.c5
   have p6 := S8.c6
   simp only [set7] at p0 p1 p2 p3 p4 p5 p6
   have B7 := J (HB3.out.trans (grown_below (grown_set7 w3 (w.heap.size + 1) K W T m f a x) (fun g e => by cases e; exact Nat.le_succ _) HB3.out.size))
   have mixed : Tryz.prog.follows .mixedOrders = true := by kernel_rfl
   clear t1 hw3 u0 u1 S8 b3
   go_wp2_with fail
   rw [← HW3.out]
   go_region_o
   all_goals
    go_wp2
    refine bodyPost_ret (v := .tuple #[.string ⟨l.toArray⟩, .agg #[.int .i64 K, .int .i64 W, .int .i64 T, .int .i64 m, .int .i64 f, .int .i64 a, .int .i64 x], .bool true]) ?_ rfl (HY.out _ _ rfl ?_)
    ·simp [results, Tryz.results9, go_sem, p0, p1, p2, p3, p4, p5, p6]
    ·exact Below.drew B7.out
end Take
namespace Take
open Go.RowKit Base Mem Reg Str
end Take
end Go.Proofs.YtgipnbeipfhekaaGreatDoor

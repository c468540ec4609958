/- slices.Values: the list's elements come one after another. -/
import Derived.Test.YthagenodiofgnaaGreatDoorMgFnD00
import Derived.Shelf.SlIterI.Collect
import Derived.Sort.KeysCollected
import Derived.OwnWalkIn
import Derived.TacticsInMore
import Derived.RegionIn
import Derived.LoopNIn
import Derived.LoopIn
import Derived.Shelf.SortM.Plain
import Derived.Shelf.SortM.SortNone
import Derived.Test.YthagenodiofgnaaGreatDoorMgFnD19
import Derived.Test.YthagenodiofgnaaGreatDoorMgFnD17
import Derived.Test.YthagenodiofgnaaGreatDoorMgFnD20
namespace Go.Proofs.YthagenodiofgnaaGreatDoor.SeqI
open Go.RowKit Go.Sort Go.Shelf Go.Proofs.YthagenodiofgnaaGreatDoor Go.Proofs.YthagenodiofgnaaGreatDoor.Base Go.Proofs.YthagenodiofgnaaGreatDoor.Mem
set_option linter.unusedVariables false
def VRel (J : List Int → World → Prop) (xs : List Int) (iv : Value) (wr : World) : Prop := ∃ k : Nat, k ≤ xs.length ∧ iv = .int .i64 (k : Int) ∧ Hid (J (xs.take k) wr)
set_option maxRecDepth 100000 in
set_option maxHeartbeats 1000000 in
theorem vals_in (m l bx : Nat) (A : Option Addr) (c : Nat) (xs : List Int) (w0 : World) (hbox : w0.cell? ⟨bx, 0, none⟩ = some (.slice A xs.length c)) (hbx : bx < w0.heap.size) (hx : RdI w0 w0.heap.size A xs) (hm : xs.length ≤ 1000)
  (J : List Int → World → Prop) (hB : ∀ s W, J s W → Below w0.heap.size w0 W)
  (hY : ∀ pre x W1, J pre W1 → pre.length < xs.length → YieldAt Fence.wide m Tryz.prog l #[encZ x] W1 fun e W' => e = .returned (.bool true) ∧ J (pre ++ [x]) W' ∧ KeepsWalks W1 W') (W : World) (h0 : J [] W) :
  CallsIn Fence.wide (m + 1) Tryz.prog 64 #[.func (.yield l) #[] #[], .pointer (some ⟨bx, 0, none⟩)] W fun e W' => (∃ v, e = .returned v) ∧ J xs W' := by
 have d0 := ((hB _ _ h0).cell (p := ⟨bx, 0, none⟩) hbx).trans hbox
 have HB := Lib.hid hB
 have HY := Lib.hid hY
 have HX := Lib.hid hx
 have H0 := Lib.hid h0
 clear hB hY hx h0 hbox
 refine callsIn_of_wp Tryz.func64 rfl trivial ?_ rfl
 simp only [Tryz.ntmps64, List.size_toArray, List.length_cons, List.length_nil, Nat.reduceAdd, Nat.reduceSub, Array.replicate_succ, Array.replicate_zero, List.push_toArray, List.append_toArray, List.nil_append, List.cons_append]
 gi_wp2
 gi_loopw [7] (fun iv wr => VRel J xs iv wr) (fun iv _ => xs.length - (Go.RowKit.intOf iv).toNat)
 case atStart => exact ⟨0, Nat.zero_le _, rfl, Lib.hid (by rw [List.take_zero]; exact H0.out)⟩
 case round =>
  obtain ⟨k, hk, rfl, HJ⟩ := hrel
  by_cases hkn : k < xs.length
  ·have hkn2 : (k : Int) < (xs.length : Int) := by omega
   obtain ⟨b, off, rfl, hb, hc⟩ := (HX.out.below (HB.out _ _ HJ.out) (Nat.le_refl _)) (by omega)
   have e0 := hc k hkn
   obtain ⟨fn, tmps, assign, body, hy, hR⟩ := HY.out (xs.take k) (xs.getD k 0) wr HJ.out (by rw [List.length_take]; omega)
   have htk : xs.take k ++ [xs.getD k 0] = xs.take (k + 1) := by
    rw [List.take_add_one, List.getD_eq_getElem?_getD, List.getElem?_eq_getElem hkn]; rfl
   rw [htk] at hR
   have HR := Lib.hid hR
   clear hc htk hR
   generalize xs.getD k 0 = x at *
   gi_wp2
   refine HR.out.mono ?_
   rintro e W3 ⟨rfl, hJ3, hk3⟩
   have HJ3 := Lib.hid hJ3
   clear hJ3 hk3 HR HJ hy
   gi_wp2
   go_roundw
   case rel => exact ⟨k + 1, hkn, by simp, HJ3⟩
   case measure => simp [Go.RowKit.intOf]; omega
  ·obtain rfl : k = xs.length := by omega
   have HJ4 := HJ.out
   rw [List.take_of_length_le (Nat.le_refl _)] at HJ4
   have HJ5 := Lib.hid HJ4
   clear HJ HJ4
   gi_wp2
   go_end0
   exact ⟨⟨_, rfl⟩, HJ5.out⟩
end Go.Proofs.YthagenodiofgnaaGreatDoor.SeqI
namespace Go.Proofs
open Go.Shelf
def YthagenodiofgnaaGreatDoor.laysq_ren : Go.Shelf.Ren := ⟨fun | 11 => 91 | n => n, fun | 24 => 32 | 26 => 2 | 28 => 67 | 0 => 0 | 33 => 57 | 4 => 4 | n => n, fun | n => n⟩
theorem YthagenodiofgnaaGreatDoor.laysq : Go.Proofs.SlLaysZI.n11 Tryz.prog YthagenodiofgnaaGreatDoor.laysq_ren := {
 mixed := by kernel_rfl
 f11 := ⟨Tryz.f91.name, by decide, Tryz.func91.trans (congrArg some (by kernel_rfl))⟩
 t0 := Tryz.underlying0
 a0 := Tryz.isAgg0
 z0 := Tryz.sizeOf0
 v0 := Tryz.zeroValue0
 t24 := Tryz.underlying32
 a24 := Tryz.isAgg32
 z24 := Tryz.sizeOf32
 v24 := Tryz.zeroValue32
 t26 := Tryz.underlying2
 a26 := Tryz.isAgg2
 z26 := Tryz.sizeOf2
 v26 := Tryz.zeroValue2
 t28 := Tryz.underlying67
 a28 := Tryz.isAgg67
 z28 := Tryz.sizeOf67
 v28 := Tryz.zeroValue67
 i26 := by kernel_rfl }
def YthagenodiofgnaaGreatDoor.laysr_ren : Go.Shelf.Ren := ⟨fun | 5 => 63 | 8 => 93 | 7 => 92 | 19 => 116 | 20 => 117 | 10 => 107 | 11 => 108 | 12 => 109 | 13 => 110 | 14 => 111 | 15 => 112 | 16 => 113 | 17 => 114 | 18 => 115 | 30 => 125 | 31 => 126 | 32 => 127 | 33 => 128 | 34 => 129 | 35 => 130 | 40 => 136 | n => n, fun | 23 => 32 | 25 => 2 | 3 => 3 | 32 => 74 | 22 => 32 | 0 => 0 | 44 => 144 | 46 => 69 | 4 => 4 | 36 => 137 | 35 => 136 | 41 => 141 | 5 => 5 | 9 => 9 | 53 => 150 | 57 => 154 | 63 => 165 | 64 => 166 | n => n, fun | n => n⟩
theorem YthagenodiofgnaaGreatDoor.laysr : Go.Proofs.SlLaysM.n5 Tryz.prog YthagenodiofgnaaGreatDoor.laysr_ren := {
 mixed := by kernel_rfl
 f5 := ⟨Tryz.f63.name, by decide, Tryz.func63.trans (congrArg some (by kernel_rfl))⟩
 f7 := ⟨Tryz.f92.name, by decide, Tryz.func92.trans (congrArg some (by kernel_rfl))⟩
 f8 := Tryz.func93.trans (congrArg some (by kernel_rfl))
 f10 := ⟨Tryz.f107.name, by decide, Tryz.func107.trans (congrArg some (by kernel_rfl))⟩
 f11 := ⟨Tryz.f108.name, by decide, Tryz.func108.trans (congrArg some (by kernel_rfl))⟩
 f12 := ⟨Tryz.f109.name, by decide, Tryz.func109.trans (congrArg some (by kernel_rfl))⟩
 f13 := ⟨Tryz.f110.name, by decide, Tryz.func110.trans (congrArg some (by kernel_rfl))⟩
 f14 := ⟨Tryz.f111.name, by decide, Tryz.func111.trans (congrArg some (by kernel_rfl))⟩
 f15 := ⟨Tryz.f112.name, by decide, Tryz.func112.trans (congrArg some (by kernel_rfl))⟩
 f16 := ⟨Tryz.f113.name, by decide, Tryz.func113.trans (congrArg some (by kernel_rfl))⟩
 f17 := ⟨Tryz.f114.name, by decide, Tryz.func114.trans (congrArg some (by kernel_rfl))⟩
 f18 := ⟨Tryz.f115.name, by decide, Tryz.func115.trans (congrArg some (by kernel_rfl))⟩
 f19 := Tryz.func116.trans (congrArg some (by kernel_rfl))
 f20 := Tryz.func117.trans (congrArg some (by kernel_rfl))
 f30 := ⟨Tryz.f125.name, by decide, Tryz.func125.trans (congrArg some (by kernel_rfl))⟩
 f31 := Tryz.func126.trans (congrArg some (by kernel_rfl))
 f32 := Tryz.func127.trans (congrArg some (by kernel_rfl))
 f33 := ⟨Tryz.f128.name, by decide, Tryz.func128.trans (congrArg some (by kernel_rfl))⟩
 f34 := ⟨Tryz.f129.name, by decide, Tryz.func129.trans (congrArg some (by kernel_rfl))⟩
 f35 := ⟨Tryz.f130.name, by decide, Tryz.func130.trans (congrArg some (by kernel_rfl))⟩
 f40 := ⟨Tryz.f136.name, by decide, Tryz.func136.trans (congrArg some (by kernel_rfl))⟩
 t0 := Tryz.underlying0
 a0 := Tryz.isAgg0
 z0 := Tryz.sizeOf0
 v0 := Tryz.zeroValue0
 t3 := Tryz.underlying3
 a3 := Tryz.isAgg3
 z3 := Tryz.sizeOf3
 v3 := Tryz.zeroValue3
 t4 := Tryz.underlying4
 a4 := Tryz.isAgg4
 z4 := Tryz.sizeOf4
 v4 := Tryz.zeroValue4
 t5 := Tryz.underlying5
 a5 := Tryz.isAgg5
 z5 := Tryz.sizeOf5
 v5 := Tryz.zeroValue5
 t9 := Tryz.underlying9
 a9 := Tryz.isAgg9
 z9 := Tryz.sizeOf9
 v9 := Tryz.zeroValue9
 t22 := Tryz.underlying32
 a22 := Tryz.isAgg32
 z22 := Tryz.sizeOf32
 v22 := Tryz.zeroValue32
 t23 := Tryz.underlying32
 a23 := Tryz.isAgg32
 z23 := Tryz.sizeOf32
 v23 := Tryz.zeroValue32
 t25 := Tryz.underlying2
 a25 := Tryz.isAgg2
 z25 := Tryz.sizeOf2
 v25 := Tryz.zeroValue2
 t32 := Tryz.underlying74
 a32 := Tryz.isAgg74
 z32 := Tryz.sizeOf74
 v32 := Tryz.zeroValue74
 t35 := Tryz.underlying136
 a35 := Tryz.isAgg136
 z35 := Tryz.sizeOf136
 v35 := Tryz.zeroValue136
 t36 := Tryz.underlying137
 a36 := Tryz.isAgg137
 z36 := Tryz.sizeOf137
 v36 := Tryz.zeroValue137
 t41 := Tryz.underlying141
 a41 := Tryz.isAgg141
 z41 := Tryz.sizeOf141
 v41 := Tryz.zeroValue141
 t44 := Tryz.underlying144
 a44 := Tryz.isAgg144
 z44 := Tryz.sizeOf144
 v44 := Tryz.zeroValue144
 t46 := Tryz.underlying69
 a46 := Tryz.isAgg69
 z46 := Tryz.sizeOf69
 v46 := Tryz.zeroValue69
 t53 := Tryz.underlying150
 a53 := Tryz.isAgg150
 z53 := Tryz.sizeOf150
 v53 := Tryz.zeroValue150
 t57 := Tryz.underlying154
 a57 := Tryz.isAgg154
 z57 := Tryz.sizeOf154
 v57 := Tryz.zeroValue154
 t63 := Tryz.underlying165
 a63 := Tryz.isAgg165
 z63 := Tryz.sizeOf165
 v63 := Tryz.zeroValue165
 t64 := Tryz.underlying166
 a64 := Tryz.isAgg166
 z64 := Tryz.sizeOf166
 v64 := Tryz.zeroValue166 }
end Go.Proofs
namespace Go.Proofs.YthagenodiofgnaaGreatDoor.SeqI
open Go.RowKit Go.Sort Go.Shelf Go.Proofs.YthagenodiofgnaaGreatDoor Go.Proofs.YthagenodiofgnaaGreatDoor.Base Go.Proofs.YthagenodiofgnaaGreatDoor.Mem
set_option linter.unusedVariables false
set_option maxRecDepth 100000 in
set_option maxHeartbeats 2000000 in
theorem append_vals (m bx : Nat) (A : Option Addr) (c : Nat) (xs : List Int) (w : World) (hbox : w.cell? ⟨bx, 0, none⟩ = some (.slice A xs.length c)) (hbx : bx < w.heap.size) (hx : RdI w w.heap.size A xs) (hm : xs.length ≤ 1000) :
  CallsIn Fence.wide (m + 3) Tryz.prog 91 #[.slice none 0 0, .func (.func 64) #[] #[.pointer (some ⟨bx, 0, none⟩)]] w
   fun e w' => ∃ v, e = .returned v ∧ w'.ownsRow w.heap.size 2 1 v xs.length (ints xs) ∧ Below w.heap.size w w' := by
 have L := YthagenodiofgnaaGreatDoor.laysq
 have hne : (32 : Nat) ≠ 2 := by decide
 refine callsIn_of_wp_marks Tryz.func91 rfl trivial ?_ rfl
 simp only [Tryz.ntmps91, List.size_toArray, List.length_cons, List.length_nil, Nat.reduceAdd, Nat.reduceSub, Array.replicate_succ, Array.replicate_zero, List.push_toArray, List.append_toArray, List.nil_append, List.cons_append]
 gi_wp2
 refine wpIn_rangeFunc ?_
 intro fn hfn
 rw [show Fence.wide.round = none from rfl]
 generalize hsv : Value.func (.func 64) #[] #[.pointer (some ⟨bx, 0, none⟩)] = sv at *
 generalize hW0 : w.alloc (.cells #[.slice none 0 0] 32) = W0
 have hs0 : W0.heap.size = w.heap.size + 1 := by rw [← hW0]; simp
 have b0 : Below w.heap.size w W0 := by rw [← hW0]; exact (Below.refl _ w).alloc (Nat.le_refl _) _
 have v0 : W0.heap[w.heap.size]? = some (.cells #[.slice none 0 0] 32 (0, 0)) := by rw [← hW0]; exact World.alloc_heap_new w _
 generalize hW1 : (W0.alloc (.deferred (some []))).alloc (.loop (AnyZI.apRec YthagenodiofgnaaGreatDoor.laysq_ren fn sv w.heap.size W0.heap.size .ready none)) = W1
 have k0 : ∀ k, k < W0.heap.size → W1.heap[k]? = W0.heap[k]? := fun k hk => by
  rw [← hW1]; exact (Below.heap_alloc _ _ k (by simp; omega)).trans (Below.heap_alloc _ _ k hk)
 have b1 : Below w.heap.size w W1 := by rw [← hW1]; exact (b0.alloc b0.size _).alloc (by have := b0.size; simp; omega) _
 have L1 : W1.heap[W0.heap.size + 1]? = some (.loop (AnyZI.apRec YthagenodiofgnaaGreatDoor.laysq_ren fn sv w.heap.size W0.heap.size .ready none)) := by
  rw [← hW1]; have := World.alloc_heap_new (W0.alloc (.deferred (some []))) (.loop (AnyZI.apRec YthagenodiofgnaaGreatDoor.laysq_ren fn sv w.heap.size W0.heap.size .ready none)); rwa [World.size_alloc] at this
 have K1 : W1.heap[W0.heap.size]? = some (.deferred (some [])) := by rw [← hW1]; exact (Below.heap_alloc _ _ _ (by simp)).trans (World.alloc_heap_new W0 _)
 have M0 : AnyZI.ApAt YthagenodiofgnaaGreatDoor.laysq_ren w fn sv w.heap.size (W0.heap.size + 1) W0.heap.size [] W1 :=
  ⟨⟨_, (k0 w.heap.size (by omega)).trans v0, ⟨rfl, .inl ⟨rfl, rfl⟩⟩, by simp⟩, L1, K1, b1⟩
 refine ⟨W0.heap.size + 1, [{ target := .collected W0.heap.size, args := #[] }], W1, { target := .fn (.func 64) #[.pointer (some ⟨bx, 0, none⟩)], args := #[.func (.yield (W0.heap.size + 1)) #[] #[]] }, W1, 64,
  #[.func (.yield (W0.heap.size + 1)) #[] #[]] ++ #[.pointer (some ⟨bx, 0, none⟩)], W1, ?_, ?_, ?_, ?_, fun _ => by omega, ?_⟩
 ·rw [← hW1]; exact run_enterLoop_outer _ _ _ _ _
 ·simp [resolve, go_sem, ← hsv]
 ·intro f' hf'; trivial
 ·simp [invoke, go_sem]
 ·refine (vals_in (m + 1) (W0.heap.size + 1) bx A c xs w hbox hbx hx hm (AnyZI.ApAt YthagenodiofgnaaGreatDoor.laysq_ren w fn sv w.heap.size (W0.heap.size + 1) W0.heap.size) (fun s W h => h.below)
   (fun pre x W hJ hl => AnyZI.apYield L Fence.wide (m + 1) w fn hfn sv w.heap.size (W0.heap.size + 1) W0.heap.size (by omega) (by omega) (by omega) (Nat.le_refl _) (by omega) xs.length (by simp only [maxLen]; omega) (by omega) pre x W hJ hl) W1 M0).mono ?_
  rintro e W2 ⟨⟨v0', rfl⟩, h2⟩
  obtain ⟨v, hv, hrow, _⟩ := h2.box
  have hend := run_endLoop (P := Tryz.prog) h2.L (by simp [AnyZI.apRec])
  generalize hW3 : W2.putObj (W0.heap.size + 1) (.loop { AnyZI.apRec YthagenodiofgnaaGreatDoor.laysq_ren fn sv w.heap.size W0.heap.size .ready none with state := .exhausted }) = W3 at hend
  have g3 : W2.grownBy W3 (some (W0.heap.size + 1)) := by rw [← hW3]; exact grownBy_putObj_a _ _ _
  have v3 : W3.heap[w.heap.size]? = some (.cells #[v] 32 (0, 0)) := by rw [← hW3]; exact (World.putObj_heap_other (by omega)).trans hv
  have K3 : W3.heap[W0.heap.size]? = some (.deferred (some [])) := by rw [← hW3]; exact (World.putObj_heap_other (by omega)).trans h2.K
  have r3 := hrow.kept g3 (ownsRow_ne_a hrow h2.L (fun cur e => by first | cases e | exact hne (Obj.cells.inj e).2.1))
  have b3 : Below w.heap.size w W3 := h2.below.grown g3 h2.below.size (fun k e => by cases e; omega)
  obtain ⟨hc3, hf3⟩ := cell_of_box_a v3
  clear hW3
  refine ⟨none, W3, hend, ?_⟩
  gi_wp2
  rw [← hs0]
  refine ⟨by simp, .inl ⟨_, _, rfl, run_takeDeferred K3, ?_⟩⟩
  exact ⟨_, results_tmp rfl _ _ _, v, rfl, r3.kept (grownBy_putObj_a _ _ _) (ownsRow_ne_a r3 K3 (fun cur e => by first | cases e | exact hne (Obj.cells.inj e).2.1)), b3.grown (grownBy_putObj_a _ _ _) b3.size (fun k e => by cases e; omega)⟩
end Go.Proofs.YthagenodiofgnaaGreatDoor.SeqI
namespace Go.Proofs.YthagenodiofgnaaGreatDoor.ChM
def swapQ (l : List Int) (i c : Nat) : List Int := (l.set i (l.getD c 0)).set c (l.getD i 0)
theorem swapQ_perm {l : List Int} {i c : Nat} (hi : i < l.length) (hc : c < l.length) : (swapQ l i c).Perm l := by
 have := List.set_set_perm hi hc
 unfold swapQ
 rw [List.getD_eq_getElem?_getD, List.getD_eq_getElem?_getD, List.getElem?_eq_getElem hi, List.getElem?_eq_getElem hc]
 exact this
theorem swapQ_at {l : List Int} {i c : Nat} (hi : i < l.length) : (swapQ l i c).getD i 0 = l.getD c 0 := by
 unfold swapQ
 simp only [List.getD_eq_getElem?_getD, List.getElem?_set, List.length_set]
 by_cases h : c = i
 ·subst h; simp [hi]
 ·simp [h, hi]
theorem swapQ_off {l : List Int} {i c k : Nat} (h1 : k ≠ i) (h2 : k ≠ c) : (swapQ l i c).getD k 0 = l.getD k 0 := by
 unfold swapQ
 simp only [List.getD_eq_getElem?_getD, List.getElem?_set]
 rw [if_neg (Ne.symm h2), if_neg (Ne.symm h1)]
theorem first_of {l : List Int} {c : Nat} (hn : l.Nodup) (hc : c < l.length) (k : Nat) (hk : k < c) : l.getD k 0 ≠ l.getD c 0 := by
 intro h
 have hk' : k < l.length := by omega
 simp only [List.getD_eq_getElem?_getD, List.getElem?_eq_getElem hk', List.getElem?_eq_getElem hc, Option.getD_some] at h
 exact (List.pairwise_iff_getElem.1 hn) k c hk' hc hk h
theorem incr_of {l : List Int} (hs : l.Pairwise (· ≤ ·)) (hn : l.Nodup) (k : Nat) (hk : k + 1 < l.length) : l.getD k 0 < l.getD (k + 1) 0 := by
 have hk' : k < l.length := by omega
 simp only [List.getD_eq_getElem?_getD, List.getElem?_eq_getElem hk', List.getElem?_eq_getElem hk, Option.getD_some]
 have h1 := (List.pairwise_iff_getElem.1 hs) k (k + 1) hk' hk (by omega)
 have h2 : l[k] ≠ l[k + 1] := fun h => (List.pairwise_iff_getElem.1 hn) k (k + 1) hk' hk (by omega) h
 omega
def ascQ (n : Nat) : List Int := (List.range n).map fun (i : Nat) => ((i : Nat) : Int)
theorem ascQ_len (n : Nat) : (ascQ n).length = n := by simp [ascQ]
theorem ascQ_nodup (n : Nat) : (ascQ n).Nodup := by
 unfold ascQ List.Nodup
 rw [List.pairwise_map]
 exact (List.nodup_range (n := n)).imp fun h e => h (Int.ofNat_inj.1 e)
theorem ascQ_mem {n : Nat} {z : Int} (h : z ∈ ascQ n) : 0 ≤ z ∧ z < n := by
 simp only [ascQ, List.mem_map, List.mem_range] at h
 obtain ⟨i, hi, rfl⟩ := h
 omega
def shufQ (n : Nat) (ch : List Int) : Nat → List Int
 | 0 => ascQ n
 | j + 1 => swapQ (shufQ n ch j) (n - 1 - j) (ch.getD j 0).toNat
theorem swapQ_len (l : List Int) (i c : Nat) : (swapQ l i c).length = l.length := by simp [swapQ]
theorem shufQ_len (n : Nat) (ch : List Int) : ∀ j, (shufQ n ch j).length = n
 | 0 => ascQ_len n
 | j + 1 => by rw [shufQ, swapQ_len, shufQ_len n ch j]
def okQ (n : Nat) (L : List Int) : Prop := ∀ j, j < L.length → 0 ≤ L.getD j 0 ∧ L.getD j 0 ≤ ((n - 1 - j : Nat) : Int)
theorem shufQ_perm {n : Nat} {ch : List Int} (hn : ch.length + 1 = n) (hok : okQ n ch) : ∀ j, j ≤ ch.length → (shufQ n ch j).Perm (ascQ n)
 | 0, _ => .refl _
 | j + 1, h => by
  have h1 := hok j (by omega)
  rw [shufQ]
  refine (swapQ_perm ?_ ?_).trans (shufQ_perm hn hok j (by omega))
  ·rw [shufQ_len]; omega
  ·rw [shufQ_len]; omega
theorem shufQ_nodup {n : Nat} {ch : List Int} (hn : ch.length + 1 = n) (hok : okQ n ch) (j : Nat) (h : j ≤ ch.length) : (shufQ n ch j).Nodup :=
 (shufQ_perm hn hok j h).nodup_iff.2 (ascQ_nodup n)
theorem shufQ_mem {n : Nat} {ch : List Int} (hn : ch.length + 1 = n) (hok : okQ n ch) (j : Nat) (h : j ≤ ch.length) {z : Int} (hz : z ∈ shufQ n ch j) : 0 ≤ z ∧ z < n :=
 ascQ_mem ((shufQ_perm hn hok j h).mem_iff.1 hz)
theorem shufQ_at {n : Nat} {ch : List Int} (hn : ch.length + 1 = n) (hok : okQ n ch) (j : Nat) (hj : j < ch.length) : ∀ m, j < m → m ≤ ch.length → (shufQ n ch m).getD (n - 1 - j) 0 = (shufQ n ch j).getD (ch.getD j 0).toNat 0
 | 0, h, _ => absurd h (Nat.not_lt_zero _)
 | m + 1, h1, h2 => by
  have b := hok m (by omega)
  rw [shufQ]
  by_cases e : j = m
  ·subst e
   exact swapQ_at (by rw [shufQ_len]; omega)
  ·rw [swapQ_off (by omega) (by omega)]
   exact shufQ_at hn hok j hj m (by omega) (by omega)
end Go.Proofs.YthagenodiofgnaaGreatDoor.ChM
namespace Go.Proofs.YthagenodiofgnaaGreatDoor.Drawn
open Go.RowKit Go.Proofs.YthagenodiofgnaaGreatDoor Go.Proofs.YthagenodiofgnaaGreatDoor.Base Go.Proofs.YthagenodiofgnaaGreatDoor.Mem Go.Proofs.YthagenodiofgnaaGreatDoor.Shuf Go.Proofs.YthagenodiofgnaaGreatDoor.Dice Go.Proofs.YthagenodiofgnaaGreatDoor.Face Go.Proofs.YthagenodiofgnaaGreatDoor.Str Go.Proofs.YthagenodiofgnaaGreatDoor.Take
set_option linter.unusedVariables false
theorem shuf_eq (n : Nat) (L : List Int) : ∀ j, shufTo n L j = ChM.shufQ n L j
 | 0 => rfl
 | j + 1 => by rw [shufTo, ChM.shufQ, shuf_eq n L j]; rfl
theorem getD_snoc {L : List Int} {x : Int} {i : Nat} (hi : i < L.length) : (L ++ [x]).getD i 0 = L.getD i 0 := by
 rw [List.getD_eq_getElem?_getD, List.getD_eq_getElem?_getD, List.getElem?_append_left hi]
theorem getD_snoc_last (L : List Int) (x : Int) : (L ++ [x]).getD L.length 0 = x := by
 rw [List.getD_eq_getElem?_getD, List.getElem?_append_right (Nat.le_refl _), Nat.sub_self]; rfl
theorem faces_pre {K W T m f a : Int} {n : Nat} {hn : 0 < n} {L' : List Int} {s' : Int} : ∀ (k : Nat) (s : Int) (L : List Int), facesA K W T m f a n hn k s L = some (L', s') → ∀ i, i < L.length → L'.getD i 0 = L.getD i 0
 | 0, s, L, h, i, hi => by
  rw [facesA] at h
  injection h with h
  injection h with h1 h2
  rw [h1]
 | k + 1, s, L, h, i, hi => by
  cases hf : faceR K W T m f a s n hn with
  | none => rw [facesA_none hf] at h; cases h
  | some p =>
   obtain ⟨c, u⟩ := p
   rw [facesA_some hf] at h
   rw [faces_pre k _ _ h i (by rw [List.length_append]; simp; omega), getD_snoc hi]
theorem ord_pre {K W T m f a : Int} {L' : List Int} {s' : Int} : ∀ (k : Nat) (s : Int) (L : List Int), ordA K W T m f a k s L = some (L', s') → ∀ i, i < L.length → L'.getD i 0 = L.getD i 0
 | 0, s, L, h, i, hi => by
  rw [ordA] at h
  injection h with h
  injection h with h1 h2
  rw [h1]
 | k + 1, s, L, h, i, hi => by
  cases hf : faceR K W T m f a s (k + 2) (by omega) with
  | none => rw [ordA_none hf] at h; cases h
  | some p =>
   obtain ⟨c, u⟩ := p
   rw [ordA_some hf] at h
   rw [ord_pre k _ _ h i (by rw [List.length_append]; simp; omega), getD_snoc hi]
theorem ord_ok {K W T m f a : Int} {n : Nat} (hn : n ≤ 12) {L' : List Int} {s' : Int} : ∀ (k : Nat) (s : Int) (L : List Int), okTo n L → L.length + k + 1 = n → ordA K W T m f a k s L = some (L', s') → okTo n L' ∧ L'.length + 1 = n
 | 0, s, L, ho, hl, h => by
  rw [ordA] at h
  injection h with h
  injection h with h1 h2
  subst h1
  exact ⟨ho, by omega⟩
 | k + 1, s, L, ho, hl, h => by
  cases hf : faceR K W T m f a s (k + 2) (by omega) with
  | none => rw [ordA_none hf] at h; cases h
  | some p =>
   obtain ⟨c, u⟩ := p
   rw [ordA_some hf] at h
   have hc := (faceR_bd (show k + 2 ≤ 1000000 by omega) hf).1
   exact ord_ok hn k _ _ (okTo_snoc ho (by omega)) (by rw [List.length_append]; simp; omega) h
theorem faces_step {K W T m f a : Int} {n : Nat} {hn : 0 < n} {k : Nat} {s : Int} {L L' : List Int} {s' : Int} (hn2 : n ≤ 1000000) (h : facesA K W T m f a n hn (k + 1) s L = some (L', s')) :
  ∃ c u, faceR K W T m f a s n hn = some (c, u) ∧ facesA K W T m f a n hn k (takeX K W T m f a s (u : Int)) (L ++ [(c : Int)]) = some (L', s') ∧ L'.getD L.length 0 = (c : Int) ∧ c < n ∧ u ≤ 400 := by
 cases hf : faceR K W T m f a s n hn with
 | none => rw [facesA_none hf] at h; cases h
 | some p =>
  obtain ⟨c, u⟩ := p
  rw [facesA_some hf] at h
  obtain ⟨h1, h2⟩ := faceR_bd hn2 hf
  refine ⟨c, u, rfl, h, ?_, h1, h2⟩
  rw [faces_pre k _ _ h L.length (by rw [List.length_append]; simp), getD_snoc_last]
theorem ord_step {K W T m f a : Int} {k : Nat} {s : Int} {L L' : List Int} {s' : Int} (hk : k ≤ 100) (h : ordA K W T m f a (k + 1) s L = some (L', s')) :
  ∃ c u, faceR K W T m f a s (k + 2) (by omega) = some (c, u) ∧ ordA K W T m f a k (takeX K W T m f a s (u : Int)) (L ++ [(c : Int)]) = some (L', s') ∧ L'.getD L.length 0 = (c : Int) := by
 cases hf : faceR K W T m f a s (k + 2) (by omega) with
 | none => rw [ordA_none hf] at h; cases h
 | some p =>
  obtain ⟨c, u⟩ := p
  rw [ordA_some hf] at h
  refine ⟨c, u, rfl, h, ?_⟩
  rw [ord_pre k _ _ h L.length (by rw [List.length_append]; simp), getD_snoc_last]
theorem one_face {K W T m f a s : Int} {n c u : Nat} {hn : 0 < n} (h : faceR K W T m f a s n hn = some (c, u)) : facesA K W T m f a n hn 1 s [] = some ([(c : Int)], takeX K W T m f a s (u : Int)) := by
 rw [facesA_some h, facesA]; rfl
end Go.Proofs.YthagenodiofgnaaGreatDoor.Drawn

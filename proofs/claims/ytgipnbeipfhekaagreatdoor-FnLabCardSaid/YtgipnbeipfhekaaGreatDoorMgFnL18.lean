/- slices.Insert ahead of an element of a row of the call's own: cells, and texts. -/
import Derived.Test.YtgipnbeipfhekaaGreatDoorMgFnL14
import Derived.Test.YtgipnbeipfhekaaGreatDoorMgFnL10
import Derived.Shelf.Spec.SlicesInsertGrow
import Derived.Test.YtgipnbeipfhekaaGreatDoorMgFnL00
set_option linter.unusedVariables false
set_option linter.unusedSimpArgs false
set_option maxRecDepth 100000
set_option maxHeartbeats 4000000
namespace Go.Proofs
open Go.Shelf
def YtgipnbeipfhekaaGreatDoor.lcI22_ren : Go.Shelf.Ren := ⟨fun | 22 => 185 | 29 => 221 | 30 => 222 | 36 => 238 | 17 => 253 | n => n, fun | 24 => 50 | 9 => 9 | 3 => 3 | 4 => 4 | 0 => 0 | n => n, fun | n => n⟩
theorem YtgipnbeipfhekaaGreatDoor.lcI22 : Go.Proofs.Lays2.n22 Tryz.prog YtgipnbeipfhekaaGreatDoor.lcI22_ren := {
 mixed := by kernel_rfl
 f17 := Tryz.func253.trans (congrArg some (by kernel_rfl))
 f22 := Tryz.func185.trans (congrArg some (by kernel_rfl))
 f29 := Tryz.func221.trans (congrArg some (by kernel_rfl))
 f30 := Tryz.func222.trans (congrArg some (by kernel_rfl))
 f36 := Tryz.func238.trans (congrArg some (by kernel_rfl))
 t0 := Tryz.underlying0
 a0 := Tryz.isAgg0
 z0 := Tryz.sizeOf0
 v0 := Tryz.zeroValue0
 t3 := Tryz.underlying3
 a3 := Tryz.isAgg3
 z3 := Tryz.sizeOf3
 v3 := Tryz.zeroValue3
 t4 := Tryz.underlying4
 a4 := Tryz.isAgg4
 z4 := Tryz.sizeOf4
 v4 := Tryz.zeroValue4
 t9 := Tryz.underlying9
 a9 := Tryz.isAgg9
 z9 := Tryz.sizeOf9
 v9 := Tryz.zeroValue9
 t24 := Tryz.underlying50
 a24 := Tryz.isAgg50
 z24 := Tryz.sizeOf50
 v24 := Tryz.zeroValue50
 i9 := by kernel_rfl }
end Go.Proofs
namespace Go.Proofs.YtgipnbeipfhekaaGreatDoor
namespace LcM
open Go.RowKit Base Mem MemS LabM LabV StM CarM LcA
def spl (l : List Value) (o : Nat) (vs : List Value) : List Value := l.take o ++ vs ++ l.drop (o + vs.length)
theorem spl_len {l vs : List Value} {o : Nat} (h : o + vs.length ≤ l.length) : (spl l o vs).length = l.length := by
 unfold spl; simp; omega
theorem spl_nil (l : List Value) (o : Nat) : spl l o [] = l := by unfold spl; simp
theorem spl_cons {l r : List Value} {o : Nat} {v : Value} (h : o < l.length) : spl (l.set o v) (o + 1) r = spl l o (v :: r) := by
 unfold spl
 rw [List.drop_set_of_lt (by omega), show o + 1 + r.length = o + (v :: r).length by simp; omega, List.take_set]
 have e : (l.take (o + 1)).set o v = l.take o ++ [v] := by
  rw [List.take_succ_eq_append_getElem h, List.set_append_right _ _ (by simp; omega)]
  simp [Nat.min_eq_left (Nat.le_of_lt h)]
 rw [e]; simp
theorem heap_setCells (g : Nat) (e : TypeId) : ∀ (vs : List Value) (o : Nat) (w : World) (cs : Array Value), w.heap[g]? = some (.cells cs e (0, 0)) → o + vs.length ≤ cs.size → (w.setCells g o vs).heap[g]? = some (.cells (spl cs.toList o vs).toArray e (0, 0))
 | [], o, w, cs, h, _ => by rw [World.setCells, spl_nil]; exact h
 | v :: r, o, w, cs, h, hs => by
  rw [List.length_cons] at hs
  have ih := heap_setCells g e r (o + 1) (w.setCell ⟨g, o, none⟩ v) (cs.setIfInBounds o v) (heap_setCell_same w g o cs e v h) (by rw [Array.size_setIfInBounds]; omega)
  rw [Array.toList_setIfInBounds, spl_cons (by simp; omega)] at ih
  exact ih
theorem grown_setCells (g : Nat) : ∀ (vs : List Value) (o : Nat) (w : World), w.grownBy (w.setCells g o vs) (some g)
 | [], _, w => ⟨rfl, rfl, rfl, Nat.le_refl _, fun _ _ _ => rfl⟩
 | v :: r, o, w => grown_trans (Src.grown_setCell w ⟨g, o, none⟩ v) (grown_setCells g r (o + 1) _)
theorem spl_two {l xs news : List Value} {N a s : Nat} (hx : l.take N = xs) (ha : a ≤ N) (hs : news.length = s) (hl : N + s ≤ l.length) : (spl (spl l (a + s) (xs.drop a)) a news).take (N + s) = xs.take a ++ news ++ xs.drop a := by
 have hxl : xs.length = N := by rw [← hx, List.length_take]; omega
 have e1 : l.take a = xs.take a := by rw [← hx, List.take_take, Nat.min_eq_left ha]
 have hdl : (xs.drop a).length = N - a := by rw [List.length_drop, hxl]
 have hta : (l.take (a + s)).length = a + s := by rw [List.length_take]; omega
 obtain ⟨D, hD⟩ : ∃ D, D = xs.drop a := ⟨_, rfl⟩
 rw [← hD] at hdl ⊢
 have e2 : (spl l (a + s) D).take a = xs.take a := by
  unfold spl
  rw [List.append_assoc, List.take_append_of_le_length (by omega), List.take_take, Nat.min_eq_left (by omega), e1]
 have e3 : (spl l (a + s) D).drop (a + s) = D ++ l.drop (N + s) := by
  unfold spl
  rw [List.append_assoc, List.drop_append_of_le_length (by omega), List.drop_of_length_le (by omega), List.nil_append, hdl, show a + s + (N - a) = N + s by omega]
 rw [spl, e2, hs, e3]
 have hk : (xs.take a).length = a := by rw [List.length_take]; omega
 rw [show xs.take a ++ news ++ (D ++ l.drop (N + s)) = (xs.take a ++ news ++ D) ++ l.drop (N + s) by simp, List.take_append_of_le_length (by simp; omega), List.take_of_length_le (by simp; omega)]
theorem spl_grow {l xs news : List Value} {N a s : Nat} (hx : l.take a = xs.take a) (hxl : xs.length = N) (ha : a ≤ N) (hs : news.length = s) (hl : N + s ≤ l.length) : (spl (spl l a news) (a + s) (xs.drop a)).take (N + s) = xs.take a ++ news ++ xs.drop a := by
 have hdl : (xs.drop a).length = N - a := by rw [List.length_drop, hxl]
 obtain ⟨D, hD⟩ : ∃ D, D = xs.drop a := ⟨_, rfl⟩
 rw [← hD] at hdl ⊢
 have hk : (xs.take a).length = a := by rw [List.length_take]; omega
 have e2 : (spl l a news).take (a + s) = xs.take a ++ news := by
  unfold spl
  rw [hx, List.take_append_of_le_length (by simp; omega), List.take_of_length_le (by simp; omega)]
 rw [spl, e2, List.take_append_of_le_length (by simp; omega), List.take_of_length_le (by simp; omega)]
theorem drew_heap (w : World) : w.drew.heap = w.heap := rfl
theorem own_shift {w : World} {B g n c p sz : Nat} {e : TypeId} {xs news : List Value} (hO : w.ownsRow B e sz (.slice (some ⟨g, 0, none⟩) n c) n xs) (hp : p ≤ n) (hc : n + 1 ≤ c) (hs : news.length = sz) :
  ((w.drew.setCells g (p * sz + sz) (xs.drop (p * sz))).setCells g (p * sz) news).ownsRow B e sz (.slice (some ⟨g, 0, none⟩) (n + 1) c) (n + 1) (xs.take (p * sz) ++ news ++ xs.drop (p * sz)) ∧
  w.grownBy ((w.drew.setCells g (p * sz + sz) (xs.drop (p * sz))).setCells g (p * sz) news) (some g) := by
 have hlx := hO.1
 rcases hO.2 with ⟨h', _⟩ | ⟨g', cap, cur, h', hb, hg, hnc, hcm, hcs, htake⟩
 ·simp at h'
 ·simp only [Value.slice.injEq, Option.some.injEq, Addr.mk.injEq, and_true, true_and] at h'
  obtain ⟨rfl, rfl⟩ := h'
  have hpn : p * sz ≤ n * sz := Nat.mul_le_mul_right _ hp
  have hcn : n * sz + sz ≤ c * sz := by rw [← Nat.succ_mul]; exact Nat.mul_le_mul_right _ hc
  have hdl : (xs.drop (p * sz)).length = n * sz - p * sz := by rw [List.length_drop, hlx]
  have h1 := heap_setCells g e (xs.drop (p * sz)) (p * sz + sz) w.drew cur hg (by omega)
  have hl1 : (spl cur.toList (p * sz + sz) (xs.drop (p * sz))).length = c * sz := by rw [spl_len (by simp; omega)]; simpa using hcs
  have h2 := heap_setCells g e news (p * sz) _ _ h1 (by simp [hl1]; omega)
  refine ⟨⟨by rw [List.length_append, List.length_append, List.length_take, hdl, Nat.succ_mul]; omega, .inr ⟨g, c, _, rfl, hb, h2, hc, hcm, by simp; rw [spl_len (by rw [hl1]; omega), hl1], ?_⟩⟩, ?_⟩
  ·rw [Nat.succ_mul]
   exact spl_two htake hpn hs (by simp; omega)
  ·exact grown_trans (grown_trans (show w.grownBy w.drew (some g) from ⟨rfl, rfl, rfl, Nat.le_refl _, fun _ _ _ => rfl⟩) (grown_setCells g _ _ w.drew)) (grown_setCells g _ _ _)
theorem own_grow {w : World} {B n p sz G : Nat} {e : TypeId} {xs news : List Value} {R : Array Value} {row : Option Nat} (hB : B ≤ w.heap.size) (hlx : xs.length = n * sz) (hp : p ≤ n) (hs : news.length = sz) (hR : R.size = G * sz) (hRt : R.toList.take (p * sz) = xs.take (p * sz)) (hG : n + 1 ≤ G) (hGm : G ≤ maxLen) (hrow : ∀ q, row = some q → q < w.heap.size) :
  ((((w.alloc (.cells R e)).drew.setCells w.heap.size (p * sz) news).drew).setCells w.heap.size (p * sz + sz) (xs.drop (p * sz))).ownsRow B e sz (.slice (some ⟨w.heap.size, 0, none⟩) (n + 1) G) (n + 1) (xs.take (p * sz) ++ news ++ xs.drop (p * sz)) ∧
  w.grownBy ((((w.alloc (.cells R e)).drew.setCells w.heap.size (p * sz) news).drew).setCells w.heap.size (p * sz + sz) (xs.drop (p * sz))) row := by
 have hpn : p * sz ≤ n * sz := Nat.mul_le_mul_right _ hp
 have hcn : n * sz + sz ≤ G * sz := by rw [← Nat.succ_mul]; exact Nat.mul_le_mul_right _ hG
 have hdl : (xs.drop (p * sz)).length = n * sz - p * sz := by rw [List.length_drop, hlx]
 have h0 : (w.alloc (.cells R e)).drew.heap[w.heap.size]? = some (.cells R e (0, 0)) := by rw [drew_heap]; exact Blk.Blk.new w e R
 have h1 := heap_setCells w.heap.size e news (p * sz) _ R h0 (by omega)
 have hl1 : (spl R.toList (p * sz) news).length = G * sz := by rw [spl_len (by simp; omega)]; simpa using hR
 have h2 := heap_setCells w.heap.size e (xs.drop (p * sz)) (p * sz + sz) (((w.alloc (.cells R e)).drew.setCells w.heap.size (p * sz) news).drew) _ h1 (by simp [hl1]; omega)
 refine ⟨⟨by rw [List.length_append, List.length_append, List.length_take, hdl, Nat.succ_mul]; omega, .inr ⟨w.heap.size, G, _, rfl, hB, h2, hG, hGm, by simp; rw [spl_len (by rw [hl1]; omega), hl1], ?_⟩⟩, ?_⟩
 ·rw [Nat.succ_mul]
  exact spl_grow hRt hlx hpn hs (by simp; omega)
 ·have k1 := grown_setCells w.heap.size news (p * sz) (w.alloc (.cells R e)).drew
  have k2 := grown_setCells w.heap.size (xs.drop (p * sz)) (p * sz + sz) (((w.alloc (.cells R e)).drew.setCells w.heap.size (p * sz) news).drew)
  have k3 : w.grownBy (w.alloc (.cells R e)) (some w.heap.size) := ⟨rfl, rfl, rfl, by simp, fun k hk _ => ((Below.refl w.heap.size w).alloc (Nat.le_refl _) (.cells R e)).block k hk⟩
  have k4 := grown_trans (grown_trans (grown_trans k3 (show (w.alloc (.cells R e)).grownBy (w.alloc (.cells R e)).drew (some w.heap.size) from ⟨rfl, rfl, rfl, Nat.le_refl _, fun _ _ _ => rfl⟩)) k1) (grown_trans (show ((w.alloc (.cells R e)).drew.setCells w.heap.size (p * sz) news).grownBy ((w.alloc (.cells R e)).drew.setCells w.heap.size (p * sz) news).drew (some w.heap.size) from ⟨rfl, rfl, rfl, Nat.le_refl _, fun _ _ _ => rfl⟩) k2)
  exact ⟨k4.os, k4.tape, k4.output, k4.size, fun k hk _ => k4.block k hk (fun e2 => by injection e2 with e2; omega)⟩
theorem blk_shape {w : World} {b : Nat} {t : TypeId} {cs : Array Value} (h : Blk.Blk w b t cs) : w.shape? b = some (t, cs.size) := by
 unfold World.shape?
 rw [show w.heap[b]? = some (.cells cs t (0, 0)) from h]
theorem own_shape {w : World} {B g n c sz : Nat} {e : TypeId} {xs : List Value} (hO : w.ownsRow B e sz (.slice (some ⟨g, 0, none⟩) n c) n xs) : w.shape? g = some (e, c * sz) := by
 rcases hO.2 with ⟨h', _⟩ | ⟨g', cap, cur, h', hb, hg, hnc, hcm, hcs, htake⟩
 ·simp at h'
 ·simp only [Value.slice.injEq, Option.some.injEq, Addr.mk.injEq, and_true, true_and] at h'
  obtain ⟨rfl, rfl⟩ := h'
  unfold World.shape?
  rw [hg]
  show some (e, cur.size) = _
  rw [hcs]
theorem own_cells {w : World} {B g n c sz : Nat} {e : TypeId} {xs : List Value} (hO : w.ownsRow B e sz (.slice (some ⟨g, 0, none⟩) n c) n xs) :
  (∀ j v, xs[j]? = some v → w.cell? ⟨g, j, none⟩ = some v) ∧ (∀ j, j < c * sz → (w.cell? ⟨g, j, none⟩).isSome = true) ∧ (∀ j, w.frozen? ⟨g, j, none⟩ = false) ∧ n ≤ c ∧ c ≤ maxLen := by
 rcases hO.2 with ⟨h', _⟩ | ⟨g', cap, cur, h', hb, hg, hnc, hcm, hcs, htake⟩
 ·simp at h'
 ·simp only [Value.slice.injEq, Option.some.injEq, Addr.mk.injEq, and_true, true_and] at h'
  obtain ⟨rfl, rfl⟩ := h'
  refine ⟨fun j v hj => ?_, fun j hj => ?_, fun j => Lib.frozen_of_heap hg j, hnc, hcm⟩
  ·rw [← htake, List.getElem?_take] at hj
   split at hj
   ·simp only [World.cell?, hg]
    simpa using hj
   ·cases hj
  ·simp only [World.cell?, hg]
   rw [Array.getElem?_eq_getElem (by omega)]; rfl
theorem insT_mid (g n c B vb p : Nat) (xs : List Value) (x : Value) (w : World) (hO : w.ownsRow B 9 1 (.slice (some ⟨g, 0, none⟩) n c) n xs) (hB : B ≤ w.heap.size) (hn : n ≤ 1000) (hp : p < n) (hx : x.oneCell' = true) (h1 : ∀ u ∈ xs, u.oneCell' = true)
  (hv : Blk.Blk w vb 9 #[x]) (hne : vb ≠ g) :
  Calls Tryz.prog 185 #[.slice (some ⟨g, 0, none⟩) n c, .int .i64 (p : Int), .slice (some ⟨vb, 0, none⟩) 1 1] w fun e w' => ∃ A' c', e = .returned (.slice A' (n + 1) c') ∧ w'.ownsRow B 9 1 (.slice A' (n + 1) c') (n + 1) (xs.take p ++ [x] ++ xs.drop p) ∧ w.grownBy w' (some g) := by
 obtain ⟨k1, k2, k3, k4, k5⟩ := own_cells hO
 have hxl : xs.length = n := by simpa using hO.1
 have hm5 : maxLen = 9223372036854775807 := by unfold maxLen; omega
 have hvs : ∀ j v, [x][j]? = some v → w.cell? ⟨vb, 0 + j, none⟩ = some v := fun j v hj => by
  cases j with
  | zero => rw [Nat.zero_add]; exact hv.at 0 hj
  | succ j => simp at hj
 by_cases hc : n + 1 ≤ c
 ·refine (Any2.slices_Insert_string_shift YtgipnbeipfhekaaGreatDoor.lcI22 g 0 n c p vb 0 1 1 xs [x] w hp (by omega) hc (by omega) hne hxl rfl (fun j v hj => by rw [Nat.zero_add]; exact k1 j v hj) (fun j hj => by rw [Nat.zero_add]; exact k2 j (by omega)) (fun j _ => k3 _) hvs h1 (by simpa using hx) 9 9 1 c (blk_shape hv) (by simpa using own_shape hO) (by omega) (Lib.frozen_of_heap hv _) (Lib.frozen_of_heap hv _)).mono ?_
  rintro e w' ⟨rfl, rfl⟩
  have h := own_shift (news := [x]) hO (Nat.le_of_lt hp) hc rfl
  simp only [Nat.mul_one] at h
  refine ⟨_, _, rfl, ?_, ?_⟩
  ·simpa using h.1
  ·simpa using h.2
 ·refine (Any2.slices_Insert_string_grow YtgipnbeipfhekaaGreatDoor.lcI22 g 0 n c p vb 0 1 1 xs [x] w hp (by omega) k4 (by omega) (by omega) hxl rfl (fun j v hj => by rw [Nat.zero_add]; exact k1 j v hj) hvs h1 (by simpa using hx)).mono ?_
  rintro e w' ⟨rfl, rfl⟩
  obtain ⟨G, hG⟩ : ∃ G, G = grownCap w (n + 1) c 9 := ⟨_, rfl⟩
  have hG1 : n + 1 ≤ G := by rw [hG]; exact grownCap_ge w _ _ _
  have hG2 : G ≤ maxLen := by rw [hG]; exact grownCap_le_maxLen w (n + 1) c 9 (by omega)
  have hG' : grownCap w (n + 1) c ((YtgipnbeipfhekaaGreatDoor.lcI22_ren).t 9) = G := hG.symm
  rw [hG']
  have h := own_grow (w := w) (B := B) (n := n) (p := p) (sz := 1) (G := G) (e := 9) (xs := xs) (news := [x]) (R := (xs.take p).toArray ++ Builtin.zeroCells (Value.string ⟨#[]⟩).cells (n + 1 - p) ++ Builtin.zeroCells (Value.string ⟨#[]⟩).cells (G - (n + 1))) (row := some g) hB (by omega) (Nat.le_of_lt hp) rfl (by simp [Builtin.zeroCells, Value.cells]; omega) (by simp [Nat.min_eq_left, hxl, Nat.le_of_lt hp]) hG1 hG2 (fun q e => by injection e with e; subst e; obtain ⟨cur, h2, _, h3⟩ := ownsRow_block hO (g := g) rfl; exact h3)
  simp only [Nat.mul_one] at h
  exact ⟨_, _, rfl, h.1, h.2⟩
end LcM
namespace LcM
open Go.RowKit Base Mem MemS LabM LabV StM CarM LcA
open CopyR (run_copy_wide)
theorem hsz7 : (Tryz.prog.info? 29).map (·.size) = some 7 := by kernel_rfl
theorem szS7 : ∀ w, (Go.sizeOf 29).run Tryz.prog w = .ok 7 w := fun w => by
 obtain ⟨i0, hi, hz0, hz1, hz2⟩ := info_parts infoSt7
 simp [Go.sizeOf, typeInfo, hi, hz1]
theorem insS_shift (g n c B vb p : Nat) (xs news : List Value) (w : World) (hO : w.ownsRow B 29 7 (.slice (some ⟨g, 0, none⟩) n c) n xs) (hB : B ≤ w.heap.size) (hn : n ≤ 1000) (hp : p < n) (hl : news.length = 7) (hx : ∀ u ∈ news, u.oneCell' = true) (h1 : ∀ u ∈ xs, u.oneCell' = true)
  (hv : Blk.Blk w vb 29 news.toArray) (hne : vb ≠ g) (hc : n + 1 ≤ c) :
  Calls Tryz.prog 186 #[.slice (some ⟨g, 0, none⟩) n c, .int .i64 (p : Int), .slice (some ⟨vb, 0, none⟩) 1 1] w fun e w' => e = .returned (.slice (some ⟨g, 0, none⟩) (n + 1) c) ∧ w' = (w.drew.setCells g (p * 7 + 7) (xs.drop (p * 7))).setCells g (p * 7) news := by
 obtain ⟨k1, k2, k3, k4, k5⟩ := own_cells hO
 have hxl : xs.length = n * 7 := hO.1
 have hm5 : maxLen = 9223372036854775807 := by unfold maxLen; omega
 have hdl : (xs.drop (p * 7)).length = (n - p) * 7 := by rw [List.length_drop, hxl]; omega
 have hov : ∀ o lb cb, (callFunc 223 #[.slice (some ⟨vb, 0, none⟩) 1 1, .slice (some ⟨g, o, none⟩) lb cb]).run Tryz.prog w = .ok (.value (.bool false)) w := fun o lb cb => by
  rw [run_callFunc_extern Tryz.func223 (by kernel_rfl) (by kernel_rfl) (by kernel_rfl) (e := Extern.SlicesOverlaps.overlaps #[51, 51] #[4]) (by kernel_rfl),
   Lib.run_overlaps_apart w 51 4 29 Tryz.underlying51 7 szS7 ⟨vb, 0, none⟩ ⟨g, o, none⟩ 1 1 lb cb hne 29 29 news.toArray.size (c * 7) (blk_shape hv) (own_shape hO) (by omega) (Lib.frozen_of_heap hv _) (Lib.frozen_of_heap hv _)]
  rfl
 have hcp1 : ∀ ty dc sc, (Builtin.copy_ #[51, 51] ty #[.slice (some ⟨g, (p + 1) * 7, none⟩) (n - p) dc, .slice (some ⟨g, p * 7, none⟩) (n + 1 - p) sc]).run Tryz.prog w.drew = .ok (goInt (n - p : Nat)) (w.drew.setCells g ((p + 1) * 7) (xs.drop (p * 7))) := fun ty dc sc =>
  run_copy_wide w.drew _ _ ty 29 7 (n - p) g ((p + 1) * 7) (n - p) dc ⟨g, p * 7, none⟩ (n + 1 - p) sc (xs.drop (p * 7)) Tryz.underlying51 hsz7 (by simp only [Nat.min_def]; split <;> omega) hdl
   (fun j v hj => by rw [Addr.add_lit]; exact k1 (p * 7 + j) v (by rwa [List.getElem?_drop] at hj))
   (fun j hj => k2 _ (by omega)) (fun j hj => k3 _) (fun v hv => h1 v (List.mem_of_mem_drop hv))
 obtain ⟨W1, hW1⟩ : ∃ W1, W1 = w.drew.setCells g ((p + 1) * 7) (xs.drop (p * 7)) := ⟨_, rfl⟩
 have hsp1 : ∀ k, k < c * 7 → (W1.cell? ⟨g, k, none⟩).isSome = true := fun k hk => by
  rw [hW1]
  exact Go.Proofs.isSome_setCells g (xs.drop (p * 7)) ((p + 1) * 7) w.drew (fun j hj => k2 _ (by omega)) k (k2 k hk)
 have hcp2 : ∀ (W : World), (∀ x, W.cell? x = W1.cell? x) → (∀ x, W.frozen? x = W1.frozen? x) → ∀ ty dc, (Builtin.copy_ #[51, 51] ty #[.slice (some ⟨g, p * 7, none⟩) (n + 1 - p) dc, .slice (some ⟨vb, 0, none⟩) 1 1]).run Tryz.prog W = .ok (goInt (1 : Nat)) (W.setCells g (p * 7) news) := fun W hWc hWf ty dc =>
  run_copy_wide W _ _ ty 29 7 1 g (p * 7) (n + 1 - p) dc ⟨vb, 0, none⟩ 1 1 news Tryz.underlying51 hsz7 (by simp only [Nat.min_def]; split <;> omega) (by omega)
   (fun j v hj => by
    rw [Addr.add_lit, hWc, hW1, World.cell?_setCells_out g _ _ _ _ (fun h _ => absurd h hne)]
    rw [Nat.zero_add]
    exact hv.at j (by simpa using hj))
   (fun j hj => by rw [hWc]; exact hsp1 _ (by omega)) (fun j hj => by rw [hWf, hW1, World.frozen?_setCells]; exact k3 _) hx
 rw [show p * 7 + 7 = (p + 1) * 7 by omega, ← hW1]
 rw [← hW1] at hcp1
 have mixed : Tryz.prog.follows .mixedOrders = true := by kernel_rfl
 have hz2 : ¬ ((p : Int) = (n : Int)) := by omega
 have hple : p ≤ n := by omega
 have hw1 : IntKind.i64.wrap ((p : Int) + 1) = (p : Int) + 1 := by rw [IntKind.wrap_i64]; omega
 have hb1 : (0 : Int) ≤ (p : Int) + 1 := by omega
 have htn : ((p : Int) + 1).toNat = p + 1 := by omega
 have hb2 : ¬ (c = p + 1) := by omega
 have hb3 : (p : Int) ≤ (n : Int) + 1 := by omega
 have hb4 : ¬ (c = p) := by omega
 have hc63 : c ≤ 9223372036854775807 := by omega
 have HS := J (And.intro hO (And.intro hsp1 (And.intro k1 (And.intro k2 k3))))
 clear hO hsp1 k1 k2 k3 hxl hdl hW1 h1 hx hv
 go_enter Tryz.func186, Tryz.ntmps186
 go_wp2_with (simp only [hov])
 go_region_law_o (refine Go.Proofs.step_copy_runI rfl _ _ 51 51 rfl _ _ (by simp [Act.eval, Act.put]) (by simp [Act.eval, Act.put]) (hcp1 _ _ _) ?_)
 go_wp2_with (at_builtin; refine Go.Proofs.wpList_copy_runI _ rfl _ _ 51 51 rfl _ _ rfl rfl (hcp2 _ (fun _ => rfl) (fun _ => rfl) _ _) ?_)
 go_ret
 exact ⟨rfl, rfl⟩
abbrev zS7 : Value := .agg #[.int .i64 0, .int .i64 0, .int .i64 0, .int .i64 0, .int .i64 0, .int .i64 0, .int .i64 0]
theorem insS_grow (g n c B vb p : Nat) (xs news : List Value) (w : World) (hO : w.ownsRow B 29 7 (.slice (some ⟨g, 0, none⟩) n c) n xs) (hB : B ≤ w.heap.size) (hn : n ≤ 1000) (hp : p < n) (hl : news.length = 7) (hx : ∀ u ∈ news, u.oneCell' = true) (h1 : ∀ u ∈ xs, u.oneCell' = true)
  (hv : Blk.Blk w vb 29 news.toArray) (hc : ¬ n + 1 ≤ c) (G : Nat) (R : Array Value) (hG : G = grownCap w (n + 1) c 29) (hR : R = (xs.take (p * 7)).toArray ++ Builtin.zeroCells zS7.cells (n + 1 - p) ++ Builtin.zeroCells zS7.cells (G - (n + 1))) :
  Calls Tryz.prog 186 #[.slice (some ⟨g, 0, none⟩) n c, .int .i64 (p : Int), .slice (some ⟨vb, 0, none⟩) 1 1] w fun e w' => e = .returned (.slice (some ⟨w.heap.size, 0, none⟩) (n + 1) G) ∧ w' = (((w.alloc (.cells R 29)).drew.setCells w.heap.size (p * 7) news).drew).setCells w.heap.size (p * 7 + 7) (xs.drop (p * 7)) := by
 obtain ⟨k1, k2, k3, k4, k5⟩ := own_cells hO
 obtain ⟨i0, hi0, hz0, hzs, hzb⟩ := info_parts infoSt7
 have hgw : g < w.heap.size := (ownsRow_block hO (g := g) rfl).choose_spec.2.2
 have hxl : xs.length = n * 7 := hO.1
 have hm5 : maxLen = 9223372036854775807 := by unfold maxLen; omega
 have hdl : (xs.drop (p * 7)).length = (n - p) * 7 := by rw [List.length_drop, hxl]; omega
 have hvw : vb < w.heap.size := LcA.heap_lt hv
 have hik : p + (n + 1 - p) = n + 1 := by omega
 have hold : (Builtin.firstCells i0.size p (.slice (some ⟨g, 0, none⟩) p c)).run Tryz.prog w.drew = .ok (xs.take (p * 7)).toArray w.drew := by
  rw [hzs]
  exact run_firstCells_some w.drew 7 p ⟨g, 0, none⟩ p c (xs.take (p * 7)) (by rw [List.length_take]; omega) (fun j v hj => by
   rw [Addr.add_lit, Nat.zero_add]
   rw [List.getElem?_take] at hj
   split at hj
   ·exact k1 j v hj
   ·cases hj)
 have hrz : ∀ ty, (Builtin.append_ #[51, 3] ty #[.slice (some ⟨g, 0, none⟩) p c, .int .i64 ((n : Int) + 1 - (p : Int))]).run Tryz.prog w = .ok (.slice (some ⟨w.heap.size, 0, none⟩) (n + 1) G) (w.drew.alloc (.cells R 29)) := fun ty => by
  have h := Lib.run_append_grow_zeros w 51 3 ty 29 i0 _ .i64 .i64 Tryz.underlying51 Tryz.underlying3 hi0 hz0 (some ⟨g, 0, none⟩) p c (xs.take (p * 7)) hold (n + 1 - p) (by omega) (by omega) (by omega) (by omega) (by rw [hzb]; omega) (by rw [hzb, hik]; exact growslice_fits (by omega) (by omega))
  rw [hik, ← hG, show (n + 1 - p : Nat) = (n + 1 - p : Nat) from rfl] at h
  rw [show ((n : Int) + 1 - (p : Int)) = ((n + 1 - p : Nat) : Int) by omega, h, hR]
 have hGn : n + 1 ≤ G := by rw [hG]; exact grownCap_ge w _ _ _
 have hG63 : G ≤ 9223372036854775807 := by
  have := grownCap_le_maxLen w (n + 1) c 29 (by unfold maxLen; omega)
  rw [← hG] at this
  omega
 have hRl : (n + 1) * 7 ≤ R.size := by
  rw [hR]
  simp [Builtin.zeroCells, Value.cells]
  omega
 obtain ⟨W1, hW1⟩ : ∃ W1, W1 = w.drew.alloc (.cells R 29) := ⟨_, rfl⟩
 rw [← hW1] at hrz
 have hN : ∀ j, j < (n + 1) * 7 → (W1.cell? ⟨w.heap.size, j, none⟩).isSome = true := fun j hj => by
  rw [hW1, World.cell?_alloc_at (w := w.drew) R _ w.heap.size j rfl, Array.getElem?_eq_getElem (by omega)]; rfl
 have hNf : ∀ j, W1.frozen? ⟨w.heap.size, j, none⟩ = false := fun j => by rw [hW1]; exact World.frozen?_alloc_at (w := w.drew) R _ w.heap.size j rfl
 have hOb : ∀ j v, w.cell? ⟨g, j, none⟩ = some v → W1.cell? ⟨g, j, none⟩ = some v := fun j v h => by rw [hW1, World.cell?_alloc_past (w := w.drew) _ g j hgw]; exact h
 have hOv : ∀ j v, w.cell? ⟨vb, j, none⟩ = some v → W1.cell? ⟨vb, j, none⟩ = some v := fun j v h => by rw [hW1, World.cell?_alloc_past (w := w.drew) _ vb j hvw]; exact h
 have hcpA : ∀ (W : World), (∀ x, W.cell? x = W1.cell? x) → (∀ x, W.frozen? x = W1.frozen? x) → ∀ ty dc, (Builtin.copy_ #[51, 51] ty #[.slice (some ⟨w.heap.size, p * 7, none⟩) (n + 1 - p) dc, .slice (some ⟨vb, 0, none⟩) 1 1]).run Tryz.prog W = .ok (goInt (1 : Nat)) (W.setCells w.heap.size (p * 7) news) := fun W hWc hWf ty dc =>
  run_copy_wide W _ _ ty 29 7 1 w.heap.size (p * 7) (n + 1 - p) dc ⟨vb, 0, none⟩ 1 1 news Tryz.underlying51 hsz7 (by simp only [Nat.min_def]; split <;> omega) (by omega)
   (fun j v hj => by rw [Addr.add_lit, hWc, Nat.zero_add]; exact hOv _ v (hv.at j (by simpa using hj)))
   (fun j hj => by rw [hWc]; exact hN _ (by omega)) (fun j hj => by rw [hWf]; exact hNf _) hx
 have hcpB : ∀ (W : World), (∀ x, W.cell? x = (W1.setCells w.heap.size (p * 7) news).cell? x) → (∀ x, W.frozen? x = (W1.setCells w.heap.size (p * 7) news).frozen? x) → ∀ ty dc sc, (Builtin.copy_ #[51, 51] ty #[.slice (some ⟨w.heap.size, (p + 1) * 7, none⟩) (n - p) dc, .slice (some ⟨g, p * 7, none⟩) (n - p) sc]).run Tryz.prog W = .ok (goInt (n - p : Nat)) (W.setCells w.heap.size ((p + 1) * 7) (xs.drop (p * 7))) := fun W hWc hWf ty dc sc =>
  run_copy_wide W _ _ ty 29 7 (n - p) w.heap.size ((p + 1) * 7) (n - p) dc ⟨g, p * 7, none⟩ (n - p) sc (xs.drop (p * 7)) Tryz.underlying51 hsz7 (by simp only [Nat.min_def]; split <;> omega) hdl
   (fun j v hj => by
    rw [Addr.add_lit, hWc, World.cell?_setCells_out _ _ _ _ _ (fun h _ => absurd h (by show ¬ g = w.heap.size; omega))]
    exact hOb _ v (k1 (p * 7 + j) v (by rwa [List.getElem?_drop] at hj)))
   (fun j hj => by rw [hWc]; exact Go.Proofs.isSome_setCells _ _ _ _ (fun t ht => hN _ (by omega)) _ (hN _ (by omega)))
   (fun j hj => by rw [hWf, World.frozen?_setCells]; exact hNf _) (fun v hv => h1 v (List.mem_of_mem_drop hv))
 rw [show p * 7 + 7 = (p + 1) * 7 by omega]
 have mixed : Tryz.prog.follows .mixedOrders = true := by kernel_rfl
 have hz2 : ¬ ((p : Int) = (n : Int)) := by omega
 have hz3 : (c : Int) < (n : Int) + 1 := by omega
 have hple : p ≤ n := by omega
 have hp1 : p ≤ n + 1 := by omega
 have hGi : ¬ (G = p) := by omega
 have hGim : ¬ (G = p + 1) := by omega
 have hci : ¬ (c = p) := by omega
 have hw1 : IntKind.i64.wrap ((p : Int) + 1) = (p : Int) + 1 := by rw [IntKind.wrap_i64]; omega
 have hb1 : (0 : Int) ≤ (p : Int) + 1 := by omega
 have htn : ((p : Int) + 1).toNat = p + 1 := by omega
 have hb3 : (p : Int) ≤ (n : Int) := by omega
 subst hW1
 have hE1 : ∀ x, ((w.alloc (.cells R 29)).drew).cell? x = (w.drew.alloc (.cells R 29)).cell? x := fun x => rfl
 have hE2 : ∀ x, ((w.alloc (.cells R 29)).drew).frozen? x = (w.drew.alloc (.cells R 29)).frozen? x := fun x => rfl
 have hF1 : ∀ x, (((w.alloc (.cells R 29)).drew.setCells w.heap.size (p * 7) news).drew).cell? x = ((w.drew.alloc (.cells R 29)).setCells w.heap.size (p * 7) news).cell? x := fun x => rfl
 have hF2 : ∀ x, (((w.alloc (.cells R 29)).drew.setCells w.heap.size (p * 7) news).drew).frozen? x = ((w.drew.alloc (.cells R 29)).setCells w.heap.size (p * 7) news).frozen? x := fun x => rfl
 clear hold hG hR hRl hik hO hN hNf hOb hOv hv k1 k2 k3 hxl hdl hi0 hz0 hzs hzb h1 hx
 go_enter Tryz.func186, Tryz.ntmps186
 go_wp2_with (first
  | (at_builtin; refine Lib.wpList_append_run _ rfl _ _ _ _ rfl _ _ rfl rfl _ _ (hrz _) ?_)
  | (at_builtin; refine Go.Proofs.wpList_copy_runI _ rfl _ _ 51 51 rfl _ _ rfl rfl (hcpA _ hE1 hE2 _ _) ?_)
  | (at_builtin; refine Go.Proofs.wpList_copy_runI _ rfl _ _ 51 51 rfl _ _ rfl rfl (hcpB _ (fun _ => rfl) (fun _ => rfl) _ _ _) ?_))
 go_region_law_o (refine Go.Proofs.step_copy_runI rfl _ _ 51 51 rfl (.slice (some ⟨w.heap.size, (p + 1) * 7, none⟩) (n - p) (G - (p + 1))) (.slice (some ⟨g, p * 7, none⟩) (n - p) (c - p)) (by simp [Act.eval, Act.put]) (by simp [Act.eval, Act.put]) (hcpB _ hF1 hF2 3 (G - (p + 1)) (c - p)) ?_)
 go_wp2
 go_ret
 exact ⟨rfl, rfl⟩
theorem insS_mid (g n c B vb p : Nat) (xs news : List Value) (w : World) (hO : w.ownsRow B 29 7 (.slice (some ⟨g, 0, none⟩) n c) n xs) (hB : B ≤ w.heap.size) (hn : n ≤ 1000) (hp : p < n) (hl : news.length = 7) (hx : ∀ u ∈ news, u.oneCell' = true) (h1 : ∀ u ∈ xs, u.oneCell' = true)
  (hv : Blk.Blk w vb 29 news.toArray) (hne : vb ≠ g) :
  Calls Tryz.prog 186 #[.slice (some ⟨g, 0, none⟩) n c, .int .i64 (p : Int), .slice (some ⟨vb, 0, none⟩) 1 1] w fun e w' => ∃ A' c', e = .returned (.slice A' (n + 1) c') ∧ w'.ownsRow B 29 7 (.slice A' (n + 1) c') (n + 1) (xs.take (p * 7) ++ news ++ xs.drop (p * 7)) ∧ w.grownBy w' (some g) := by
 by_cases hc : n + 1 ≤ c
 ·refine (insS_shift g n c B vb p xs news w hO hB hn hp hl hx h1 hv hne hc).mono ?_
  rintro e w' ⟨rfl, rfl⟩
  have h := own_shift hO (Nat.le_of_lt hp) hc hl
  exact ⟨_, _, rfl, h.1, h.2⟩
 ·obtain ⟨G, hG⟩ : ∃ G, G = grownCap w (n + 1) c 29 := ⟨_, rfl⟩
  obtain ⟨R, hR⟩ : ∃ R, R = (xs.take (p * 7)).toArray ++ Builtin.zeroCells zS7.cells (n + 1 - p) ++ Builtin.zeroCells zS7.cells (G - (n + 1)) := ⟨_, rfl⟩
  have hxl : xs.length = n * 7 := hO.1
  have hm5 : maxLen = 9223372036854775807 := by unfold maxLen; omega
  refine (insS_grow g n c B vb p xs news w hO hB hn hp hl hx h1 hv hc G R hG hR).mono ?_
  rintro e w' ⟨rfl, rfl⟩
  have hG1 : n + 1 ≤ G := by rw [hG]; exact grownCap_ge w _ _ _
  have hG2 : G ≤ maxLen := by rw [hG]; exact grownCap_le_maxLen w (n + 1) c 29 (by omega)
  have h := own_grow (w := w) (B := B) (n := n) (p := p) (sz := 7) (G := G) (e := 29) (xs := xs) (news := news) (R := R) (row := some g) hB hxl (Nat.le_of_lt hp) hl (by rw [hR]; simp [Builtin.zeroCells, Value.cells]; omega) (by rw [hR]; simp; rw [List.take_append_of_le_length (by simp; omega), List.take_take, Nat.min_self]) hG1 hG2 (fun q e => by injection e with e; subst e; obtain ⟨cur, h2, _, h3⟩ := ownsRow_block hO (g := g) rfl; exact h3)
  exact ⟨_, _, rfl, h.1, h.2⟩
end LcM
namespace LcW
open Go.RowKit Base Mem MemS LabM LabV StM CarM LcA LcC LcI LcM
open Take (SBox)
theorem bsGo_le (less : Nat → Bool) : ∀ (f lo hi : Nat), lo ≤ hi → Lib.bsGo less f lo hi ≤ hi
 | 0, lo, hi, h => h
 | f + 1, lo, hi, h => by
  unfold Lib.bsGo
  split
  ·split
   ·exact bsGo_le less f _ _ (by omega)
   ·exact Nat.le_trans (bsGo_le less f _ _ (by omega)) (by omega)
  ·exact h
theorem pos_le (ss : List ByteArray) (x : ByteArray) : posS ss x ≤ ss.length := bsGo_le _ _ _ _ (Nat.zero_le _)
theorem one_texts (ss : List ByteArray) : ∀ u ∈ texts ss, u.oneCell' = true := fun u hu => by
 obtain ⟨s, _, rfl⟩ := List.mem_map.1 hu
 rfl
theorem one_ints (xs : List Int) : ∀ u ∈ ints xs, u.oneCell' = true := fun u hu => by
 obtain ⟨s, _, rfl⟩ := List.mem_map.1 hu
 rfl
theorem own_none {w : World} {B n c sz : Nat} {e : TypeId} {A : Option Addr} {xs : List Value} (hO : w.ownsRow B e sz (.slice A n c) n xs) : (A = none ∧ n = 0) ∨ ∃ g, A = some ⟨g, 0, none⟩ := by
 rcases hO.2 with ⟨hv, h0⟩ | ⟨g, cap, cur, hv, _⟩
 ·injection hv with e1; exact .inl ⟨e1, h0⟩
 ·injection hv with e1; exact .inr ⟨g, e1⟩
theorem insT_any (A : Option Addr) (n c B vb p : Nat) (xs : List Value) (x : Value) (w : World) (hO : w.ownsRow B 9 1 (.slice A n c) n xs) (hB : B ≤ w.heap.size) (hn : n ≤ 1000) (hp : p ≤ n) (hx : x.oneCell' = true) (h1 : ∀ u ∈ xs, u.oneCell' = true)
  (hv : Blk.Blk w vb 9 #[x]) (hne : ∀ g, A = some ⟨g, 0, none⟩ → vb ≠ g) :
  Calls Tryz.prog 185 #[.slice A n c, .int .i64 (p : Int), .slice (some ⟨vb, 0, none⟩) 1 1] w fun e w' => ∃ A' c', e = .returned (.slice A' (n + 1) c') ∧ w'.ownsRow B 9 1 (.slice A' (n + 1) c') (n + 1) (xs.take p ++ [x] ++ xs.drop p) ∧ w.grownBy w' (Value.slice A n c).ownBlock := by
 have hxl : xs.length = n := by simpa using hO.1
 by_cases h : p = n
 ·subst h
  rw [List.take_of_length_le (by omega), List.drop_of_length_le (by omega), List.append_nil]
  exact insT_end A p c B vb xs [x] w hO hB hn rfl (by simpa using hx) (blkNews hv)
 ·rcases own_none hO with ⟨rfl, h0⟩ | ⟨g, rfl⟩
  ·omega
  ·exact insT_mid g n c B vb p xs x w hO hB hn (by omega) hx h1 hv (hne g rfl)
theorem insS_any (A : Option Addr) (n c B vb p : Nat) (xs news : List Value) (w : World) (hO : w.ownsRow B 29 7 (.slice A n c) n xs) (hB : B ≤ w.heap.size) (hn : n ≤ 1000) (hp : p ≤ n) (hl : news.length = 7) (hx : ∀ u ∈ news, u.oneCell' = true) (h1 : ∀ u ∈ xs, u.oneCell' = true)
  (hv : Blk.Blk w vb 29 news.toArray) (hne : ∀ g, A = some ⟨g, 0, none⟩ → vb ≠ g) :
  Calls Tryz.prog 186 #[.slice A n c, .int .i64 (p : Int), .slice (some ⟨vb, 0, none⟩) 1 1] w fun e w' => ∃ A' c', e = .returned (.slice A' (n + 1) c') ∧ w'.ownsRow B 29 7 (.slice A' (n + 1) c') (n + 1) (xs.take (p * 7) ++ news ++ xs.drop (p * 7)) ∧ w.grownBy w' (Value.slice A n c).ownBlock := by
 have hxl : xs.length = n * 7 := hO.1
 by_cases h : p = n
 ·subst h
  rw [List.take_of_length_le (by omega), List.drop_of_length_le (by omega), List.append_nil]
  exact insS_end A p c B vb xs news w hO hB hn hl hx (by have := blkNews hv; simpa using this)
 ·rcases own_none hO with ⟨rfl, h0⟩ | ⟨g, rfl⟩
  ·omega
  ·exact insS_mid g n c B vb p xs news w hO hB hn (by omega) hl hx h1 hv (hne g rfl)
theorem with_ins (L : Lb) (v : Value) (x : ByteArray) (r : St) (w : World) (h : LabAt w v L) (hl : L.1.length = L.2.length) (hn : L.1.length ≤ 6) (hh : hasS L.1 x = false) (hsz : ∀ i, i < L.1.length → (L.1.getD i ByteArray.empty).size ≤ 9223372036854775807) (hsx : x.size ≤ 9223372036854775807) :
  Calls Tryz.prog 139 #[v, .string x, r.val] w fun e w' => ∃ v', e = .returned (.tuple #[v', .bool (labR (withR L x r))]) ∧ LabOwn w.heap.size w' v' (withR L x r) ∧ Below w.heap.size w w' := by
 obtain ⟨p, hpv⟩ : ∃ p, p = posS L.1 x := ⟨_, rfl⟩
 have hp1 : p ≤ L.1.length := by rw [hpv]; exact pos_le _ _
 have HR : Hid (withR L x r = (L.1.take p ++ x :: L.1.drop p, L.2.take p ++ r :: L.2.drop p)) := J (by unfold withR; rw [hh, hpv]; rfl)
 rw [HR.out]
 obtain ⟨nl, hnl⟩ : ∃ nl, nl = L.2.take p ++ r :: L.2.drop p := ⟨_, rfl⟩
 obtain ⟨ns, hns⟩ : ∃ ns, ns = L.1.take p ++ x :: L.1.drop p := ⟨_, rfl⟩
 have hfl : ints (flat nl) = (ints (flat L.2)).take (p * 7) ++ [.int .i64 r.K, .int .i64 r.W, .int .i64 r.T, .int .i64 r.m, .int .i64 r.f, .int .i64 r.a, .int .i64 r.s] ++ (ints (flat L.2)).drop (p * 7) := by rw [hnl, flat_ins, Nat.mul_comm p 7]; simp [ints, St.l, List.map_take, List.map_drop]
 have htx : texts ns = (texts L.1).take p ++ [.string x] ++ (texts L.1).drop p := by rw [hns]; simp [texts, List.map_take, List.map_drop]
 have hll2 : nl.length = L.2.length + 1 := by rw [hnl]; simp; omega
 have hll1 : ns.length = L.1.length + 1 := by rw [hns]; simp; omega
 have hsn : ∀ i, i < ns.length → (ns.getD i ByteArray.empty).size ≤ 9223372036854775807 := fun i hi => by
  have hm : ∀ t ∈ ns, t.size ≤ 9223372036854775807 := fun t ht => by
   have hL : ∀ u ∈ L.1, u.size ≤ 9223372036854775807 := fun u hu => by
    obtain ⟨j, hj, e⟩ := List.getElem_of_mem hu
    have := hsz j hj
    rw [List.getD_eq_getElem?_getD, List.getElem?_eq_getElem hj, e] at this
    exact this
   rw [hns] at ht
   rcases List.mem_append.1 ht with h | h
   ·exact hL _ (List.mem_of_mem_take h)
   ·rcases List.mem_cons.1 h with h | h
    ·rw [h]; exact hsx
    ·exact hL _ (List.mem_of_mem_drop h)
  rw [List.getD_eq_getElem?_getD, List.getElem?_eq_getElem hi]
  exact hm _ (List.getElem_mem hi)
 rw [← hnl, ← hns]
 obtain ⟨ok, hok⟩ : ∃ ok, ok = labR (ns, nl) := ⟨_, rfl⟩
 rw [← hok]
 have hv0 := h
 obtain ⟨A, c, A', c', rfl, hx, hy, _⟩ := h
 obtain ⟨W3, hW3⟩ : ∃ W3, W3 = ((w.alloc (.cells #[.slice A L.1.length c, .slice A' L.2.length c'] 53)).alloc (.cells #[.int .i64 r.K, .int .i64 r.W, .int .i64 r.T, .int .i64 r.m, .int .i64 r.f, .int .i64 r.a, .int .i64 r.s] 29)).alloc (.cells #[.slice none 0 0, .slice none 0 0] 53) := ⟨_, rfl⟩
 have b3 : Below w.heap.size w W3 := by rw [hW3]; exact (((Below.refl _ _).alloc (Nat.le_refl _) _).alloc (by simp) _).alloc (by simp; omega) _
 have hz3 : W3.heap.size = w.heap.size + 3 := by rw [hW3]; simp
 have KS : SBox W3 (w.heap.size + 1) r.K r.W r.T r.m r.f r.a r.s := by
  have := SBox.new (w.alloc (.cells #[.slice A L.1.length c, .slice A' L.2.length c'] 53)) r.K r.W r.T r.m r.f r.a r.s
  rw [World.size_alloc] at this
  rw [hW3]; exact this.below ((Below.refl _ _).alloc (Nat.le_refl _) _) (by simp)
 have KR : Blk.Blk W3 (w.heap.size + 2) 53 #[.slice none 0 0, .slice none 0 0] := by rw [hW3]; exact Blk.Blk.newAt _ _ (by simp)
 have HCl := J (labClone_any L (.agg #[.slice A L.1.length c, .slice A' L.2.length c']) W3 (hv0.below b3) (by omega) (by omega))
 have HW := J hW3
 have HLL := J hl
 clear hW3 hx hy hl hv0
 obtain ⟨K, W, T, m, f, a, s⟩ := r
 unfold St.val
 dsimp only at KS HW ⊢
 go_enter Tryz.func139, Tryz.ntmps139
 go_wp2_with fail
 rw [← HW.out]
 refine HCl.out.mono ?_
 rintro e w1 ⟨v1, rfl, ⟨A1, c1, A2, c2, rfl, o1, o2⟩, b1⟩
 obtain ⟨W4, hW4⟩ : ∃ W4, W4 = w1.alloc (.cells #[.slice A1 L.1.length c1, .slice A2 L.2.length c2] 53) := ⟨_, rfl⟩
 have b4 : Below w1.heap.size w1 W4 := by rw [hW4]; exact (Below.refl _ _).alloc (Nat.le_refl _) _
 have KT : Blk.Blk W4 w1.heap.size 53 #[.slice A1 L.1.length c1, .slice A2 L.2.length c2] := by rw [hW4]; exact Blk.Blk.new _ _ _
 have b34 := Base.Below.nextA b1 b4
 have hz4 : W4.heap.size = w1.heap.size + 1 := by rw [hW4]; simp
 have p1 := ownsRow_below o1 b4
 have p2 := ownsRow_below o2 b4
 have HSr := J (search_any A1 c1 W4.heap.size L.1 x W4 (OwnT.rd p1) (by omega))
 rw [hh, ← hpv] at HSr
 have HW4 := J hW4
 have KS4 := KS.below b34 KS.lt
 have KR4 := KR.belowS b34
 have B4 := Base.Below.nextA b3 b34
 have hz1 := b1.size
 clear hW4 b4 b34 b1 o1 o2 KS KR b3 HCl HW
 go_wp2_with fail
 rw [← HW4.out]
 refine HSr.out.mono ?_
 rintro e w2 ⟨rfl, hb2⟩
 have KS5 := KS4.below hb2 KS4.lt
 have KR := J (KR4.belowS hb2)
 have KT := J (KT.belowS hb2)
 have HB := J (Base.Below.nextA B4 hb2)
 have q1 := ownsRow_below p1 hb2
 have q2 := ownsRow_below p2 hb2
 have hz2 := hb2.size
 clear KS4 KR4 B4 p1 p2 hb2 HSr HW4
 have Q1 := J q1
 have Q2 := J q2
 have KS : Hid (Blk.Blk w2 (w.heap.size + 1) 29 #[.int .i64 K, .int .i64 W, .int .i64 T, .int .i64 m, .int .i64 f, .int .i64 a, .int .i64 s]) := J KS5
 have HZ3 : Hid (W3.heap.size ≤ w2.heap.size) := J (by omega)
 have HW3 : Hid (w.heap.size ≤ W3.heap.size) := J (by omega)
 have HZW : Hid (w.heap.size ≤ w2.heap.size) := J (by omega)
 have HNE : Hid (¬ W3.heap.size ≤ w.heap.size + 1) := J (by omega)
 have HN1 : Hid (L.1.length ≤ 1000) := J (by omega)
 have HN2 : Hid (L.2.length ≤ 1000) := J (by have := HLL.out; omega)
 have HP1 : Hid (p ≤ L.1.length) := J hp1
 have HP2 : Hid (p ≤ L.2.length) := J (by have := HLL.out; omega)
 have HG1 : Hid (∀ g, A1 = some ⟨g, 0, none⟩ → g < w2.heap.size) := J (fun g e => (ownsRow_block Q1.out (g := g) (by rw [e]; rfl)).choose_spec.2.2)
 have HG2 : Hid (∀ g, A2 = some ⟨g, 0, none⟩ → g < w2.heap.size) := J (fun g e => (ownsRow_block Q2.out (g := g) (by rw [e]; rfl)).choose_spec.2.2)
 have HFL := J hfl
 have HTX := J htx
 have HL2 := J hll2
 have HL1 := J hll1
 have HSN := J hsn
 have HOK := J hok
 have H13 : Hid (w1.heap.size ≠ w.heap.size + 2) := J (by omega)
 have H14 : Hid (w.heap.size ≤ w1.heap.size) := J (by omega)
 clear q1 q2 KS5 hnl hns hfl htx hll1 hll2 hsn hsz hsx hok hh hpv hp1 HR hz1 hz2 hz3
 go_wp2_with fail
 obtain ⟨S, hSE⟩ : ∃ S : World → Prop, S = fun w' => w'.cell? ⟨w1.heap.size, 0, none⟩ = some (.slice A1 L.1.length c1) ∧ w'.cell? ⟨w1.heap.size, 1, none⟩ = some (.slice A2 L.2.length c2) ∧ w'.cell? ⟨w.heap.size + 1, 0, none⟩ = some (.int .i64 K) ∧ w'.cell? ⟨w.heap.size + 1, 1, none⟩ = some (.int .i64 W) ∧ w'.cell? ⟨w.heap.size + 1, 2, none⟩ = some (.int .i64 T) ∧ w'.cell? ⟨w.heap.size + 1, 3, none⟩ = some (.int .i64 m) ∧ w'.cell? ⟨w.heap.size + 1, 4, none⟩ = some (.int .i64 f) ∧ w'.cell? ⟨w.heap.size + 1, 5, none⟩ = some (.int .i64 a) ∧ w'.cell? ⟨w.heap.size + 1, 6, none⟩ = some (.int .i64 s) := ⟨_, rfl⟩
 have HSE := J hSE
 have HSA : Hid (∀ V, Blk.Blk V w1.heap.size 53 #[.slice A1 L.1.length c1, .slice A2 L.2.length c2] → Blk.Blk V (w.heap.size + 1) 29 #[.int .i64 K, .int .i64 W, .int .i64 T, .int .i64 m, .int .i64 f, .int .i64 a, .int .i64 s] → S V) := J (fun V h1 h2 => by rw [hSE]; exact ⟨h1.at 0 rfl, h1.at 1 rfl, h2.at 0 rfl, h2.at 1 rfl, h2.at 2 rfl, h2.at 3 rfl, h2.at 4 rfl, h2.at 5 rfl, h2.at 6 rfl⟩)
 clear hSE
 refine Late.start S [13, 14, 15] 16 (by kernel_rfl) (HSA.out _ KT.out KS.out) rfl (fun hS => ?_)
 refine Late.take (i := 0) (v := ?_) (by rfl) (by kernel_rfl) (by kernel_rfl) (by kernel_rfl) (by intro _ _ _ h; exact h) (by kernel_rfl) (by kernel_rfl) (Or.inl ⟨by rfl, ?_⟩) hS ?_
 rotate_left
 ·(intro W' hW'; rw [HSE.out] at hW'; obtain ⟨q0, q1, y0, y1, y2, y3, y4, y5, y6⟩ := hW'; go_simp; (try with_reducible rfl))
 try simp only [Act.put, List.setIfInBounds_toArray, List.set_cons_zero, List.set_cons_succ]
 refine Late.take (i := 1) (v := ?_) (by rfl) (by kernel_rfl) (by kernel_rfl) (by kernel_rfl) (by intro _ _ _ h; exact h) (by kernel_rfl) (by kernel_rfl) (Or.inl ⟨by rfl, ?_⟩) hS ?_
 rotate_left
 ·(intro W' hW'; rw [HSE.out] at hW'; obtain ⟨q0, q1, y0, y1, y2, y3, y4, y5, y6⟩ := hW'; go_simp; (try with_reducible rfl))
 try simp only [Act.put, List.setIfInBounds_toArray, List.set_cons_zero, List.set_cons_succ]
 refine Late.take (i := 2) (v := ?_) (by rfl) (by kernel_rfl) (by kernel_rfl) (by kernel_rfl) (by intro _ _ _ h; exact h) (by kernel_rfl) (by kernel_rfl) (Or.inl ⟨by rfl, ?_⟩) hS ?_
 rotate_left
 ·(intro W' hW'; rw [HSE.out] at hW'; obtain ⟨q0, q1, y0, y1, y2, y3, y4, y5, y6⟩ := hW'; go_simp; (try with_reducible rfl))
 try simp only [Act.put, List.setIfInBounds_toArray, List.set_cons_zero, List.set_cons_succ]
 refine Late.take (i := 3) (v := ?_) (by rfl) (by kernel_rfl) (by kernel_rfl) (by kernel_rfl) (by intro _ _ _ h; exact h) (by kernel_rfl) (by kernel_rfl) (Or.inl ⟨by rfl, ?_⟩) hS ?_
 rotate_left
 ·(intro W' hW'; rw [HSE.out] at hW'; obtain ⟨q0, q1, y0, y1, y2, y3, y4, y5, y6⟩ := hW'; go_simp; (try with_reducible rfl))
 try simp only [Act.put, List.setIfInBounds_toArray, List.set_cons_zero, List.set_cons_succ]
 refine Late.take (i := 6) (v := ?_) (by rfl) (by kernel_rfl) (by kernel_rfl) (by kernel_rfl) (by intro _ _ _ h; exact h) (by kernel_rfl) (by kernel_rfl) (Or.inl ⟨by rfl, ?_⟩) hS ?_
 rotate_left
 ·(intro W' hW'; rw [HSE.out] at hW'; obtain ⟨q0, q1, y0, y1, y2, y3, y4, y5, y6⟩ := hW'; go_simp; (try with_reducible rfl))
 try simp only [Act.put, List.setIfInBounds_toArray, List.set_cons_zero, List.set_cons_succ]
 refine Late.take (i := 7) (v := ?_) (by rfl) (by kernel_rfl) (by kernel_rfl) (by kernel_rfl) (by intro _ _ _ h; exact h) (by kernel_rfl) (by kernel_rfl) (Or.inl ⟨by rfl, ?_⟩) hS ?_
 rotate_left
 ·(intro W' hW'; rw [HSE.out] at hW'; obtain ⟨q0, q1, y0, y1, y2, y3, y4, y5, y6⟩ := hW'; go_simp; (try with_reducible rfl))
 try simp only [Act.put, List.setIfInBounds_toArray, List.set_cons_zero, List.set_cons_succ]
 refine Late.take (i := 8) (v := ?_) (by rfl) (by kernel_rfl) (by kernel_rfl) (by kernel_rfl) (by intro _ _ _ h; exact h) (by kernel_rfl) (by kernel_rfl) (Or.inl ⟨by rfl, ?_⟩) hS ?_
 rotate_left
 ·(intro W' hW'; rw [HSE.out] at hW'; obtain ⟨q0, q1, y0, y1, y2, y3, y4, y5, y6⟩ := hW'; go_simp; (try with_reducible rfl))
 try simp only [Act.put, List.setIfInBounds_toArray, List.set_cons_zero, List.set_cons_succ]
 refine Late.take (i := 9) (v := ?_) (by rfl) (by kernel_rfl) (by kernel_rfl) (by kernel_rfl) (by intro _ _ _ h; exact h) (by kernel_rfl) (by kernel_rfl) (Or.inl ⟨by rfl, ?_⟩) hS ?_
 rotate_left
 ·(intro W' hW'; rw [HSE.out] at hW'; obtain ⟨q0, q1, y0, y1, y2, y3, y4, y5, y6⟩ := hW'; go_simp; (try with_reducible rfl))
 try simp only [Act.put, List.setIfInBounds_toArray, List.set_cons_zero, List.set_cons_succ]
 refine Late.two (i := 4) (i' := 10) (by kernel_rfl) (by rfl) (by rfl) (fun K' hK => ?_) (fun K' hK => ?_)
 go_simp
 refine hK.out _ _ (fun _ => HSA.out _ (KT.out.alloc _) (KS.out.alloc _)) (fun hS' => ?_)
 have hS := hS' (by decide)
 clear hS' hK
 clear K'
 try simp only [Act.put, List.setIfInBounds_toArray, List.set_cons_zero, List.set_cons_succ]
 refine Late.two (i := 5) (i' := 10) (by kernel_rfl) (by rfl) (by rfl) (fun K' hK => ?_) (fun K' hK => ?_)
 go_simp
 have QX := J (show Below w2.heap.size w2 ((w2.alloc (.cells #[.string x] 9)).drew) from ((Below.refl _ _).alloc (Nat.le_refl _) _).drew)
 have QZ := J (QX.out.size)
 refine (insT_any A1 L.1.length c1 W3.heap.size (w2.heap.size) p (texts L.1) (.string x) ((w2.alloc (.cells #[.string x] 9)).drew) (ownsRow_below Q1.out QX.out) (Nat.le_trans HZ3.out QZ.out) HN1.out HP1.out rfl (one_texts _) (Blk.Blk.new w2 _ _) (fun g e => by have := HG1.out g e; omega)).mono ?_
 rintro e w5 ⟨A5, c5, rfl, o5, g5⟩
 have PA := ownsRow_below Q1.out QX.out
 have KT5 := J (blkFar (KT.out.belowS QX.out) PA g5)
 have KR5 := J (blkFar (KR.out.belowS QX.out) PA g5)
 have KS5 := J (blkFar (KS.out.belowS QX.out) PA g5)
 have Q2' := J (LvT.rowKept (ownsRow_below Q2.out QX.out) PA (by decide) g5)
 have O5 := J o5
 have HB5 := J (HB.out.trans ((QX.out.mono HZW.out).trans (grown_below g5 (fun q e => Nat.le_trans HW3.out (ownsRow_block PA e).choose_spec.2.1) (Nat.le_trans HZW.out QZ.out))))
 have hz5 : w2.heap.size ≤ w5.heap.size := Nat.le_trans QZ.out g5.size
 skip
 clear o5 g5 PA
 clear QX QZ
 go_simp
 refine hK.out _ _ (fun _ => HSA.out _ (KT5.out) (KS5.out)) (fun hS' => ?_)
 have hS := hS' (by decide)
 clear hS' hK
 clear K'
 try simp only [Act.put, List.setIfInBounds_toArray, List.set_cons_zero, List.set_cons_succ]
 refine Late.take (i := 12) (v := ?_) (by rfl) (by kernel_rfl) (by kernel_rfl) (by kernel_rfl) (by intro _ _ _ h; exact h) (by kernel_rfl) (by kernel_rfl) (Or.inl ⟨by rfl, ?_⟩) hS ?_
 rotate_left
 ·(intro W' hW'; rw [HSE.out] at hW'; obtain ⟨q0, q1, y0, y1, y2, y3, y4, y5, y6⟩ := hW'; go_simp; (try with_reducible rfl))
 try simp only [Act.put, List.setIfInBounds_toArray, List.set_cons_zero, List.set_cons_succ]
 refine Late.one (i := 10) (by kernel_rfl) (by rfl) (fun K' hK => ?_)
 go_simp
 refine hK.out _ _ (fun _ => HSA.out _ (KT5.out.alloc _) (KS5.out.alloc _)) (fun hS' => ?_)
 have hS := hS' (by decide)
 clear hS' hK
 clear K'
 try simp only [Act.put, List.setIfInBounds_toArray, List.set_cons_zero, List.set_cons_succ]
 refine Late.one (i := 11) (by kernel_rfl) (by rfl) (fun K' hK => ?_)
 go_simp
 have QY := J (show Below w5.heap.size w5 (w5.alloc (.cells #[.int .i64 K, .int .i64 W, .int .i64 T, .int .i64 m, .int .i64 f, .int .i64 a, .int .i64 s] 29)) from ((Below.refl _ _).alloc (Nat.le_refl _) _))
 have QZ := J (QY.out.size)
 refine (insS_any A2 L.2.length c2 W3.heap.size (w5.heap.size) p (ints (flat L.2)) [.int .i64 K, .int .i64 W, .int .i64 T, .int .i64 m, .int .i64 f, .int .i64 a, .int .i64 s] (w5.alloc (.cells #[.int .i64 K, .int .i64 W, .int .i64 T, .int .i64 m, .int .i64 f, .int .i64 a, .int .i64 s] 29)) (ownsRow_below Q2'.out QY.out) (Nat.le_trans HZ3.out (Nat.le_trans hz5 QZ.out)) HN2.out HP2.out rfl (by simp [Value.oneCell']) (one_ints _) (Blk.Blk.new w5 _ _) (fun g e => by have := HG2.out g e; omega)).mono ?_
 rintro e w6 ⟨A6, c6, rfl, o6, g6⟩
 have PB := ownsRow_below Q2'.out QY.out
 have KT6 := J (blkFar (KT5.out.belowS QY.out) PB g6)
 have KR6 := J (blkFar (KR5.out.belowS QY.out) PB g6)
 have KS6 := J ((KS5.out.belowS QY.out).kept g6 (fun e => HNE.out (ownsRow_block PB e).choose_spec.2.1))
 have O1 := J (LvT.rowKept (ownsRow_below O5.out QY.out) PB (by decide) g6)
 have O2 := J o6
 have HB6 := J (HB5.out.trans ((QY.out.mono HB5.out.size).trans (grown_below g6 (fun q e => Nat.le_trans HW3.out (ownsRow_block PB e).choose_spec.2.1) (Nat.le_trans HB5.out.size QZ.out))))
 clear o6 g6 PB
 clear QY QZ
 go_simp
 refine hK.out _ _ (fun _ => HSA.out _ (KT6.out) (KS6.out)) (fun hS' => ?_)
 have hS := hS' (by decide)
 clear hS' hK
 clear K'
 try simp only [Act.put, List.setIfInBounds_toArray, List.set_cons_zero, List.set_cons_succ]
 have s0 := KT6.out.at 0 (v := .slice A1 L.1.length c1) rfl
 have s1 := KT6.out.at 1 (v := .slice A2 L.2.length c2) rfl
 have s2 := KT6.out.frz 0
 have s3 := KT6.out.frz 1
 refine Late.one (i := 13) (by kernel_rfl) (by rfl) (fun K' hK => ?_)
 go_simp
 refine hK.out _ _ (fun h => absurd h (by decide)) (fun _ => ?_)
 clear hK
 clear K'
 try simp only [Act.put, List.setIfInBounds_toArray, List.set_cons_zero, List.set_cons_succ]
 refine Late.one (i := 14) (by kernel_rfl) (by rfl) (fun K' hK => ?_)
 go_simp
 refine hK.out _ _ (fun h => absurd h (by decide)) (fun _ => ?_)
 clear hK
 clear K'
 try simp only [Act.put, List.setIfInBounds_toArray, List.set_cons_zero, List.set_cons_succ]
 refine Late.one (i := 15) (by kernel_rfl) (by rfl) (fun K' hK => ?_)
 go_simp
 refine hK.out _ _ (fun h => absurd h (by decide)) (fun _ => ?_)
 clear hK
 clear K'
 try simp only [Act.put, List.setIfInBounds_toArray, List.set_cons_zero, List.set_cons_succ]
 refine Late.done (by kernel_rfl) ?_ _
 clear s0 s1 s2 s3 hS
 rotate_left
 go_simp
 refine hK.out _ _ (fun _ => HSA.out _ ((KT.out.alloc _).alloc _) ((KS.out.alloc _).alloc _)) (fun hS' => ?_)
 have hS := hS' (by decide)
 clear hS' hK
 clear K'
 try simp only [Act.put, List.setIfInBounds_toArray, List.set_cons_zero, List.set_cons_succ]
 refine Late.one (i := 5) (by kernel_rfl) (by rfl) (fun K' hK => ?_)
 go_simp
 have QX := J (show Below w2.heap.size w2 (((w2.alloc (.cells #[.string x] 9)).alloc (.cells #[.int .i64 K, .int .i64 W, .int .i64 T, .int .i64 m, .int .i64 f, .int .i64 a, .int .i64 s] 29)).drew) from (((Below.refl _ _).alloc (Nat.le_refl _) _).alloc (by simp) _).drew)
 have QZ := J (QX.out.size)
 refine (insT_any A1 L.1.length c1 W3.heap.size (w2.heap.size) p (texts L.1) (.string x) (((w2.alloc (.cells #[.string x] 9)).alloc (.cells #[.int .i64 K, .int .i64 W, .int .i64 T, .int .i64 m, .int .i64 f, .int .i64 a, .int .i64 s] 29)).drew) (ownsRow_below Q1.out QX.out) (Nat.le_trans HZ3.out QZ.out) HN1.out HP1.out rfl (one_texts _) ((Blk.Blk.new w2 _ _).alloc _) (fun g e => by have := HG1.out g e; omega)).mono ?_
 rintro e w5 ⟨A5, c5, rfl, o5, g5⟩
 have PA := ownsRow_below Q1.out QX.out
 have KT5 := J (blkFar (KT.out.belowS QX.out) PA g5)
 have KR5 := J (blkFar (KR.out.belowS QX.out) PA g5)
 have KS5 := J (blkFar (KS.out.belowS QX.out) PA g5)
 have Q2' := J (LvT.rowKept (ownsRow_below Q2.out QX.out) PA (by decide) g5)
 have O5 := J o5
 have HB5 := J (HB.out.trans ((QX.out.mono HZW.out).trans (grown_below g5 (fun q e => Nat.le_trans HW3.out (ownsRow_block PA e).choose_spec.2.1) (Nat.le_trans HZW.out QZ.out))))
 have hz5 : w2.heap.size ≤ w5.heap.size := Nat.le_trans QZ.out g5.size
 (have KN := J (blkFar (show Blk.Blk (((w2.alloc (.cells #[.string x] 9)).alloc (.cells #[.int .i64 K, .int .i64 W, .int .i64 T, .int .i64 m, .int .i64 f, .int .i64 a, .int .i64 s] 29)).drew) (w2.heap.size + 1) _ _ from Blk.Blk.newAt _ _ (by simp)) PA g5))
 clear o5 g5 PA
 clear QX QZ
 go_simp
 refine hK.out _ _ (fun _ => HSA.out _ (KT5.out) (KS5.out)) (fun hS' => ?_)
 have hS := hS' (by decide)
 clear hS' hK
 clear K'
 try simp only [Act.put, List.setIfInBounds_toArray, List.set_cons_zero, List.set_cons_succ]
 refine Late.take (i := 12) (v := ?_) (by rfl) (by kernel_rfl) (by kernel_rfl) (by kernel_rfl) (by intro _ _ _ h; exact h) (by kernel_rfl) (by kernel_rfl) (Or.inl ⟨by rfl, ?_⟩) hS ?_
 rotate_left
 ·(intro W' hW'; rw [HSE.out] at hW'; obtain ⟨q0, q1, y0, y1, y2, y3, y4, y5, y6⟩ := hW'; go_simp; (try with_reducible rfl))
 try simp only [Act.put, List.setIfInBounds_toArray, List.set_cons_zero, List.set_cons_succ]
 refine Late.one (i := 11) (by kernel_rfl) (by rfl) (fun K' hK => ?_)
 go_simp
 have QY := J (show Below w5.heap.size w5 (w5) from Below.refl _ _)
 have QZ := J (QY.out.size)
 refine (insS_any A2 L.2.length c2 W3.heap.size ((w2.heap.size + 1)) p (ints (flat L.2)) [.int .i64 K, .int .i64 W, .int .i64 T, .int .i64 m, .int .i64 f, .int .i64 a, .int .i64 s] (w5) (ownsRow_below Q2'.out QY.out) (Nat.le_trans HZ3.out (Nat.le_trans hz5 QZ.out)) HN2.out HP2.out rfl (by simp [Value.oneCell']) (one_ints _) KN.out (fun g e => by have := HG2.out g e; omega)).mono ?_
 rintro e w6 ⟨A6, c6, rfl, o6, g6⟩
 have PB := ownsRow_below Q2'.out QY.out
 have KT6 := J (blkFar (KT5.out.belowS QY.out) PB g6)
 have KR6 := J (blkFar (KR5.out.belowS QY.out) PB g6)
 have KS6 := J ((KS5.out.belowS QY.out).kept g6 (fun e => HNE.out (ownsRow_block PB e).choose_spec.2.1))
 have O1 := J (LvT.rowKept (ownsRow_below O5.out QY.out) PB (by decide) g6)
 have O2 := J o6
 have HB6 := J (HB5.out.trans ((QY.out.mono HB5.out.size).trans (grown_below g6 (fun q e => Nat.le_trans HW3.out (ownsRow_block PB e).choose_spec.2.1) (Nat.le_trans HB5.out.size QZ.out))))
 clear o6 g6 PB
 clear QY QZ
 go_simp
 refine hK.out _ _ (fun _ => HSA.out _ (KT6.out) (KS6.out)) (fun hS' => ?_)
 have hS := hS' (by decide)
 clear hS' hK
 clear K'
 try simp only [Act.put, List.setIfInBounds_toArray, List.set_cons_zero, List.set_cons_succ]
 have s0 := KT6.out.at 0 (v := .slice A1 L.1.length c1) rfl
 have s1 := KT6.out.at 1 (v := .slice A2 L.2.length c2) rfl
 have s2 := KT6.out.frz 0
 have s3 := KT6.out.frz 1
 refine Late.one (i := 13) (by kernel_rfl) (by rfl) (fun K' hK => ?_)
 go_simp
 refine hK.out _ _ (fun h => absurd h (by decide)) (fun _ => ?_)
 clear hK
 clear K'
 try simp only [Act.put, List.setIfInBounds_toArray, List.set_cons_zero, List.set_cons_succ]
 refine Late.one (i := 14) (by kernel_rfl) (by rfl) (fun K' hK => ?_)
 go_simp
 refine hK.out _ _ (fun h => absurd h (by decide)) (fun _ => ?_)
 clear hK
 clear K'
 try simp only [Act.put, List.setIfInBounds_toArray, List.set_cons_zero, List.set_cons_succ]
 refine Late.one (i := 15) (by kernel_rfl) (by rfl) (fun K' hK => ?_)
 go_simp
 refine hK.out _ _ (fun h => absurd h (by decide)) (fun _ => ?_)
 clear hK
 clear K'
 try simp only [Act.put, List.setIfInBounds_toArray, List.set_cons_zero, List.set_cons_succ]
 refine Late.done (by kernel_rfl) ?_ _
 clear s0 s1 s2 s3 hS
 rotate_left
 go_simp
 refine hK.out _ _ (fun _ => HSA.out _ (KT.out.alloc _) (KS.out.alloc _)) (fun hS' => ?_)
 have hS := hS' (by decide)
 clear hS' hK
 clear K'
 try simp only [Act.put, List.setIfInBounds_toArray, List.set_cons_zero, List.set_cons_succ]
 refine Late.one (i := 4) (by kernel_rfl) (by rfl) (fun K' hK => ?_)
 go_simp
 refine hK.out _ _ (fun _ => HSA.out _ ((KT.out.alloc _).alloc _) ((KS.out.alloc _).alloc _)) (fun hS' => ?_)
 have hS := hS' (by decide)
 clear hS' hK
 clear K'
 try simp only [Act.put, List.setIfInBounds_toArray, List.set_cons_zero, List.set_cons_succ]
 refine Late.one (i := 5) (by kernel_rfl) (by rfl) (fun K' hK => ?_)
 go_simp
 have QX := J (show Below w2.heap.size w2 (((w2.alloc (.cells #[.int .i64 K, .int .i64 W, .int .i64 T, .int .i64 m, .int .i64 f, .int .i64 a, .int .i64 s] 29)).alloc (.cells #[.string x] 9)).drew) from (((Below.refl _ _).alloc (Nat.le_refl _) _).alloc (by simp) _).drew)
 have QZ := J (QX.out.size)
 refine (insT_any A1 L.1.length c1 W3.heap.size ((w2.heap.size + 1)) p (texts L.1) (.string x) (((w2.alloc (.cells #[.int .i64 K, .int .i64 W, .int .i64 T, .int .i64 m, .int .i64 f, .int .i64 a, .int .i64 s] 29)).alloc (.cells #[.string x] 9)).drew) (ownsRow_below Q1.out QX.out) (Nat.le_trans HZ3.out QZ.out) HN1.out HP1.out rfl (one_texts _) (Blk.Blk.newAt _ _ (by simp)) (fun g e => by have := HG1.out g e; omega)).mono ?_
 rintro e w5 ⟨A5, c5, rfl, o5, g5⟩
 have PA := ownsRow_below Q1.out QX.out
 have KT5 := J (blkFar (KT.out.belowS QX.out) PA g5)
 have KR5 := J (blkFar (KR.out.belowS QX.out) PA g5)
 have KS5 := J (blkFar (KS.out.belowS QX.out) PA g5)
 have Q2' := J (LvT.rowKept (ownsRow_below Q2.out QX.out) PA (by decide) g5)
 have O5 := J o5
 have HB5 := J (HB.out.trans ((QX.out.mono HZW.out).trans (grown_below g5 (fun q e => Nat.le_trans HW3.out (ownsRow_block PA e).choose_spec.2.1) (Nat.le_trans HZW.out QZ.out))))
 have hz5 : w2.heap.size ≤ w5.heap.size := Nat.le_trans QZ.out g5.size
 (have KN := J (blkFar (show Blk.Blk (((w2.alloc (.cells #[.int .i64 K, .int .i64 W, .int .i64 T, .int .i64 m, .int .i64 f, .int .i64 a, .int .i64 s] 29)).alloc (.cells #[.string x] 9)).drew) w2.heap.size _ _ from (Blk.Blk.new w2 _ _).alloc _) PA g5))
 clear o5 g5 PA
 clear QX QZ
 go_simp
 refine hK.out _ _ (fun _ => HSA.out _ (KT5.out) (KS5.out)) (fun hS' => ?_)
 have hS := hS' (by decide)
 clear hS' hK
 clear K'
 try simp only [Act.put, List.setIfInBounds_toArray, List.set_cons_zero, List.set_cons_succ]
 refine Late.take (i := 12) (v := ?_) (by rfl) (by kernel_rfl) (by kernel_rfl) (by kernel_rfl) (by intro _ _ _ h; exact h) (by kernel_rfl) (by kernel_rfl) (Or.inl ⟨by rfl, ?_⟩) hS ?_
 rotate_left
 ·(intro W' hW'; rw [HSE.out] at hW'; obtain ⟨q0, q1, y0, y1, y2, y3, y4, y5, y6⟩ := hW'; go_simp; (try with_reducible rfl))
 try simp only [Act.put, List.setIfInBounds_toArray, List.set_cons_zero, List.set_cons_succ]
 refine Late.one (i := 11) (by kernel_rfl) (by rfl) (fun K' hK => ?_)
 go_simp
 have QY := J (show Below w5.heap.size w5 (w5) from Below.refl _ _)
 have QZ := J (QY.out.size)
 refine (insS_any A2 L.2.length c2 W3.heap.size (w2.heap.size) p (ints (flat L.2)) [.int .i64 K, .int .i64 W, .int .i64 T, .int .i64 m, .int .i64 f, .int .i64 a, .int .i64 s] (w5) (ownsRow_below Q2'.out QY.out) (Nat.le_trans HZ3.out (Nat.le_trans hz5 QZ.out)) HN2.out HP2.out rfl (by simp [Value.oneCell']) (one_ints _) KN.out (fun g e => by have := HG2.out g e; omega)).mono ?_
 rintro e w6 ⟨A6, c6, rfl, o6, g6⟩
 have PB := ownsRow_below Q2'.out QY.out
 have KT6 := J (blkFar (KT5.out.belowS QY.out) PB g6)
 have KR6 := J (blkFar (KR5.out.belowS QY.out) PB g6)
 have KS6 := J ((KS5.out.belowS QY.out).kept g6 (fun e => HNE.out (ownsRow_block PB e).choose_spec.2.1))
 have O1 := J (LvT.rowKept (ownsRow_below O5.out QY.out) PB (by decide) g6)
 have O2 := J o6
 have HB6 := J (HB5.out.trans ((QY.out.mono HB5.out.size).trans (grown_below g6 (fun q e => Nat.le_trans HW3.out (ownsRow_block PB e).choose_spec.2.1) (Nat.le_trans HB5.out.size QZ.out))))
 clear o6 g6 PB
 clear QY QZ
 go_simp
 refine hK.out _ _ (fun _ => HSA.out _ (KT6.out) (KS6.out)) (fun hS' => ?_)
 have hS := hS' (by decide)
 clear hS' hK
 clear K'
 try simp only [Act.put, List.setIfInBounds_toArray, List.set_cons_zero, List.set_cons_succ]
 have s0 := KT6.out.at 0 (v := .slice A1 L.1.length c1) rfl
 have s1 := KT6.out.at 1 (v := .slice A2 L.2.length c2) rfl
 have s2 := KT6.out.frz 0
 have s3 := KT6.out.frz 1
 refine Late.one (i := 13) (by kernel_rfl) (by rfl) (fun K' hK => ?_)
 go_simp
 refine hK.out _ _ (fun h => absurd h (by decide)) (fun _ => ?_)
 clear hK
 clear K'
 try simp only [Act.put, List.setIfInBounds_toArray, List.set_cons_zero, List.set_cons_succ]
 refine Late.one (i := 14) (by kernel_rfl) (by rfl) (fun K' hK => ?_)
 go_simp
 refine hK.out _ _ (fun h => absurd h (by decide)) (fun _ => ?_)
 clear hK
 clear K'
 try simp only [Act.put, List.setIfInBounds_toArray, List.set_cons_zero, List.set_cons_succ]
 refine Late.one (i := 15) (by kernel_rfl) (by rfl) (fun K' hK => ?_)
 go_simp
 refine hK.out _ _ (fun h => absurd h (by decide)) (fun _ => ?_)
 clear hK
 clear K'
 try simp only [Act.put, List.setIfInBounds_toArray, List.set_cons_zero, List.set_cons_succ]
 refine Late.done (by kernel_rfl) ?_ _
 clear s0 s1 s2 s3 hS
 rotate_left
 all_goals
  obtain ⟨W7, hW7⟩ : ∃ W7, W7 = (w6.setCell ⟨w1.heap.size, 0, none⟩ (.slice A5 (L.1.length + 1) c5)).setCell ⟨w1.heap.size, 1, none⟩ (.slice A6 (L.2.length + 1) c6) := ⟨_, rfl⟩
  have HW7 := J hW7
  clear KT KR HB KS Q1 Q2 HSA HSE KT5 KR5 KS5 Q2' O5 HB5
  have KT : Hid (Blk.Blk W7 w1.heap.size 53 #[.slice A5 (L.1.length + 1) c5, .slice A6 (L.2.length + 1) c6]) := J (by rw [hW7]; exact (KT6.out.setTo 0 (.slice A5 (L.1.length + 1) c5) rfl).setTo 1 (.slice A6 (L.2.length + 1) c6) rfl)
  have KR : Hid (Blk.Blk W7 (w.heap.size + 2) 53 #[.slice none 0 0, .slice none 0 0]) := J (by rw [hW7]; exact (KR6.out.other _ H13.out).other _ H13.out)
  have HB : Hid (Below w.heap.size w W7) := J (by rw [hW7]; exact (HB6.out.setCell (p := ⟨w1.heap.size, 0, none⟩) H14.out _).setCell (p := ⟨w1.heap.size, 1, none⟩) H14.out _)
  have P1 : W7.ownsRow W3.heap.size 9 1 (.slice A5 (L.1.length + 1) c5) (L.1.length + 1) ((texts L.1).take p ++ [.string x] ++ (texts L.1).drop p) := by rw [hW7]; exact ownsRow_setCell_below' O1.out KT6.out 0 (.slice A5 (L.1.length + 1) c5) 1 (.slice A6 (L.2.length + 1) c6)
  have P2 : W7.ownsRow W3.heap.size 29 7 (.slice A6 (L.2.length + 1) c6) (L.2.length + 1) ((ints (flat L.2)).take (p * 7) ++ [.int .i64 K, .int .i64 W, .int .i64 T, .int .i64 m, .int .i64 f, .int .i64 a, .int .i64 s] ++ (ints (flat L.2)).drop (p * 7)) := by rw [hW7]; exact ownsRow_setCell_below' O2.out KT6.out 0 (.slice A5 (L.1.length + 1) c5) 1 (.slice A6 (L.2.length + 1) c6)
  rw [← HTX.out] at P1
  rw [← HFL.out] at P2
  have O1 := J (ownsRow_base P1 HW3.out)
  have O2 := J (ownsRow_base P2 HW3.out)
  have HV : Hid (∀ W, Below W7.heap.size W7 W → Calls Tryz.prog 26 #[.agg #[.slice A5 (L.1.length + 1) c5, .slice A6 (L.2.length + 1) c6]] W fun e w' => e = .returned (.bool ok) ∧ Below W.heap.size W w') := J (fun W hW => by
   have k1 := ownsRow_below O1.out hW
   have k2 := ownsRow_below O2.out hW
   rw [← HL1.out] at k1
   rw [← HL2.out] at k2
   have k := implLab_any A5 A6 c5 c6 W.heap.size nl.length ns (flat nl) W (OwnT.rd k1) (OwnS.rd k2) (Nat.le_refl _) HSN.out (by have := HL1.out; have := HN1.out; omega) (by have := HL2.out; have := HN2.out; omega)
   rw [HL1.out, show labB ns nl.length (flat nl) = ok from HOK.out.symm, HL2.out] at k
   exact k)
  have HY : Hid (∀ (W : World), (W.ownsRow w.heap.size 9 1 (.slice A5 (L.1.length + 1) c5) (L.1.length + 1) (texts ns) ∧ W.ownsRow w.heap.size 29 7 (.slice A6 (L.2.length + 1) c6) (L.2.length + 1) (ints (flat nl)) ∧ Below w.heap.size w W) → ∃ v', Ending.returned (.tuple #[.agg #[.slice A5 (L.1.length + 1) c5, .slice A6 (L.2.length + 1) c6], .bool ok]) = .returned (.tuple #[v', .bool ok]) ∧ LabOwn w.heap.size W v' (ns, nl) ∧ Below w.heap.size w W) := J fun W hh2 => ⟨_, rfl, ⟨A5, c5, A6, c6, by rw [HL1.out, HL2.out], by rw [HL1.out]; exact hh2.1, by rw [HL2.out]; exact hh2.2.1⟩, hh2.2.2⟩
  clear P1 P2 hW7 KT6 KR6 KS6 HB6 hz5
  go_wp2_with fail
  rw [← HW7.out]
  refine Rel.wp_region_rel 3 (by kernel_rfl) (by kernel_rfl) (fun F hF => ?_)
  simp only [List.take_succ_cons, List.take_zero, List.drop_succ_cons, List.drop_zero, Rel.putL] at hF ⊢
  have HF := J hF
  clear hF
  have uv := @Rel.upon_value Tryz.prog
  have ue := @Rel.upon_enter Tryz.prog
  apply Rel.rel_pure
  apply Exists.intro
  refine ⟨fun vs wq hq hdp R hR => ?_, ?_⟩
  ·(rw [HF.out, Rel.stepAt_eq]; clear hdp; have x0 := (KT.out.belowS hq).at 0 (v := .slice A5 (L.1.length + 1) c5) rfl; have x1 := (KT.out.belowS hq).at 1 (v := .slice A6 (L.2.length + 1) c6) rfl; go_simp; exact hR)
  apply Rel.rel_pure
  apply Exists.intro
  refine ⟨fun vs wq hq hdp R hR => ?_, ?_⟩
  ·(rw [HF.out, Rel.stepAt_eq]; clear hdp; have x0 := (KT.out.belowS hq).at 0 (v := .slice A5 (L.1.length + 1) c5) rfl; have x1 := (KT.out.belowS hq).at 1 (v := .slice A6 (L.2.length + 1) c6) rfl; go_simp; exact hR)
  apply Rel.rel_same
  apply Exists.intro
  refine ⟨fun vs wq hq hdp => ?_, ?_⟩
  ·(rw [HF.out, Rel.stepAt_eq]; have qd1 : vs 1 = _ := Rel.dep hdp 1 (by kernel_rfl); clear hdp; skip; go_simp; refine (HV.out wq hq).mono ?_; rintro e w7 ⟨rfl, hb⟩; exact ⟨_, rfl, rfl, hb⟩)
  refine Rel.rel_end (fun vs wq hq hall => ?_)
  rw [HF.out]
  have qe0 : vs 0 = _ := Rel.fin hall 0 (by decide)
  have qe1 : vs 1 = _ := Rel.fin hall 1 (by decide)
  have qe2 : vs 2 = _ := Rel.fin hall 2 (by decide)
  clear hall HF uv ue
  have KR2 := KR.out.belowS hq
  have HB2 := Base.Below.nextA HB.out hq
  have r0 := KR2.at 0 (v := .slice none 0 0) rfl
  have r1 := KR2.at 1 (v := .slice none 0 0) rfl
  have f0 := KR2.frz 0
  have f1 := KR2.frz 1
  have KK := (KR2.setTo 0 (.slice A5 (L.1.length + 1) c5) rfl).setTo 1 (.slice A6 (L.2.length + 1) c6) rfl
  have k0 := KK.at 0 (v := .slice A5 (L.1.length + 1) c5) rfl
  have k1 := KK.at 1 (v := .slice A6 (L.2.length + 1) c6) rfl
  have HFIN := J (And.intro (ownsRow_setCell_below' (ownsRow_below O1.out hq) KR2 0 (.slice A5 (L.1.length + 1) c5) 1 (.slice A6 (L.2.length + 1) c6)) (And.intro (ownsRow_setCell_below' (ownsRow_below O2.out hq) KR2 0 (.slice A5 (L.1.length + 1) c5) 1 (.slice A6 (L.2.length + 1) c6)) ((HB2.setCell (p := ⟨w.heap.size + 2, 0, none⟩) (by simp) (.slice A5 (L.1.length + 1) c5)).setCell (p := ⟨w.heap.size + 2, 1, none⟩) (by simp) (.slice A6 (L.2.length + 1) c6))))
  clear KK KR2 HB2 hq qe1
  go_wp2
  refine bodyPost_ret (v := .tuple #[.agg #[.slice A5 (L.1.length + 1) c5, .slice A6 (L.2.length + 1) c6], .bool ok]) (by simp [results, Tryz.results139, go_sem, k0, k1]) rfl ?_
  exact HY.out _ ⟨HFIN.out.1, HFIN.out.2.1, HFIN.out.2.2⟩
end LcW
end Go.Proofs.YtgipnbeipfhekaaGreatDoor

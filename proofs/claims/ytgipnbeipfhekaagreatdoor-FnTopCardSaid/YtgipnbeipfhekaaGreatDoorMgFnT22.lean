/- A builder of texts: blocks of other types are left as they are. -/
import Derived.Test.YtgipnbeipfhekaaGreatDoorMgFnT04
import Derived.Test.YtgipnbeipfhekaaGreatDoorMgFnT21
import Derived.Test.YtgipnbeipfhekaaGreatDoorMgFnT18
import Derived.Shelf.Lay
import Derived.Shelf.Strings.Prefix
import Derived.Test.YtgipnbeipfhekaaGreatDoorMgFnT11
import Derived.Test.YtgipnbeipfhekaaGreatDoorMgFnT16
namespace Go.Proofs.YtgipnbeipfhekaaGreatDoor.Jour
open Go.RowKit Go.Proofs.YtgipnbeipfhekaaGreatDoor Go.Proofs.YtgipnbeipfhekaaGreatDoor.Base Go.Proofs.YtgipnbeipfhekaaGreatDoor.Mem Go.Proofs.YtgipnbeipfhekaaGreatDoor.Dec Go.Proofs.YtgipnbeipfhekaaGreatDoor.LabM Go.Proofs.YtgipnbeipfhekaaGreatDoor.Bld
set_option linter.unusedVariables false
def KeepB (b : Nat) (w w' : World) : Prop := w.heap.size ≤ w'.heap.size ∧ ∀ g cs t fr, g ≠ b → t ≠ 5 → w.heap[g]? = some (.cells cs t fr) → w'.heap[g]? = some (.cells cs t fr)
theorem KeepB.refl (b : Nat) (w : World) : KeepB b w w := ⟨Nat.le_refl _, fun _ _ _ _ _ _ h => h⟩
theorem KeepB.trans {b : Nat} {w w' w'' : World} (h : KeepB b w w') (k : KeepB b w' w'') : KeepB b w w'' := ⟨Nat.le_trans h.1 k.1, fun g cs t fr h1 h2 h3 => k.2 g cs t fr h1 h2 (h.2 g cs t fr h1 h2 h3)⟩
theorem KeepB.set (b i : Nat) (w : World) (v : Value) : KeepB b w (w.setCell ⟨b, i, none⟩ v) := by
 refine ⟨by simp, fun g cs t fr h1 h2 h3 => ?_⟩
 unfold World.setCell
 simp only [Array.getElem?_modify, if_neg (Ne.symm h1), h3]
theorem KeepB.grown {b B n : Nat} {w w' : World} {v : Value} {xs : List Value} (hg : w.grownBy w' v.ownBlock) (hO : w.ownsRow B 5 1 v n xs) : KeepB b w w' := by
 refine ⟨hg.size, fun g cs t fr h1 h2 h3 => ?_⟩
 have hlt : g < w.heap.size := by
  rcases Nat.lt_or_ge g w.heap.size with hlt | hge
  ·exact hlt
  ·rw [Array.getElem?_eq_none hge] at h3; cases h3
 rw [hg.block g hlt (fun e => by
  obtain ⟨cur, k, _⟩ := ownsRow_block hO e.symm
  rw [k] at h3
  injection h3 with h3
  injection h3 with _ h4
  exact h2 h4.symm)]
 exact h3
theorem keep_freeze {b g : Nat} {w : World} {cur : Array Value} {f0 : Nat × Nat} (hg : w.heap[g]? = some (.cells cur 5 f0)) (n : Nat) : KeepB b w (w.drew.freeze ⟨g, 0, none⟩ n) := by
 refine ⟨by unfold World.freeze; split <;> simp, fun g' cs t fr h1 h2 h3 => ?_⟩
 have hne : g ≠ g' := fun e => by
  subst e
  rw [hg] at h3
  injection h3 with h3
  injection h3 with _ h4
  exact h2 h4.symm
 unfold World.freeze
 split
 ·exact h3
 ·simp only [Array.getElem?_modify, if_neg hne]
  exact h3
theorem copyCheckK (B b : Nat) (bs : List Value) (w : World) (h : IsB B b bs w) :
  Calls Tryz.prog 90 #[.pointer (some ⟨b, 0, none⟩)] w fun e w' => e = .returned (.tuple #[]) ∧ Lib.BuilderAt 93 5 B b (.pointer (some ⟨b, 0, none⟩)) bs w' ∧ Below B w w' ∧ KeepB b w w' := by
 rcases h with h | h
 ·refine (copyCheck_fresh b w h.cell0 h.shape h.frozen0).mono ?_
  rintro e w' ⟨rfl, rfl⟩
  exact ⟨rfl, h.used _, (Below.refl B w).setCell (p := ⟨b, 0, none⟩) h.1 _, KeepB.set _ _ _ _⟩
 ·refine (copyCheck_used b w h.cell0).mono ?_
  rintro e w' ⟨rfl, rfl⟩
  exact ⟨rfl, h, Below.refl B _, KeepB.refl _ _⟩
set_option maxHeartbeats 2000000 in
set_option maxRecDepth 100000 in
theorem writeK_any (B b : Nat) (l : List UInt8) (s : ByteArray) (w : World) (h : IsJ B b l w) (hl : l.length + s.size ≤ 1099511627776) (hBw : B ≤ w.heap.size) :
  Calls Tryz.prog 46 #[.pointer (some ⟨b, 0, none⟩), .string s] w fun e w' => e = .returned (.tuple #[.int .i64 s.size, .nilIface]) ∧ IsJ B b (l ++ s.data.toList) w' ∧ Below B w w' ∧ KeepB b w w' := by
 obtain ⟨i0, hi, hz0, hz1, hz2⟩ := info_parts Dec.infoByte
 have hlb : (Lib.byteCells l).length = l.length := Lib.byteCells_length l
 go_enter Tryz.func46, Tryz.ntmps46
 go_wp2_with fail
 refine (copyCheckK B b (Lib.byteCells l) _ h).mono ?_
 rintro e w1 ⟨rfl, h1, hb1, hk1⟩
 obtain ⟨hB, v, hbk, hown, hne⟩ := h1
 have c0 : w1.cell? ⟨b, 0, none⟩ = some (.pointer (some ⟨b, 0, none⟩)) := by rw [Lib.cell_of_heap hbk]; rfl
 have c1 : w1.cell? ⟨b, 1, none⟩ = some v := by rw [Lib.cell_of_heap hbk]; rfl
 have HLB := Lib.hid hlb
 clear hlb
 go_wp2_with (at_builtin; refine Lib.wpList_append_own_string _ rfl _ _ 22 9 rfl B 5 i0 Tryz.underlying22 Tryz.underlying9 hi hz0 hz1 hz2 _ _ _ rfl hown s rfl ?c3 ?c4 ?c5 ?_)
 case c3 => have := HLB.out; unfold maxLen; omega
 case c4 => have := HLB.out; omega
 case c5 => have := hb1.size; omega
 intro v' w2 hown' hgrow _
 have hlt : b < w1.heap.size := by
  rcases Nat.lt_or_ge b w1.heap.size with h' | h'
  ·exact h'
  ·simp [Array.getElem?_eq_none h'] at hbk
 have hb2 : w2.heap[b]? = some (.cells #[.pointer (some ⟨b, 0, none⟩), v] 93 (0, 0)) := by
  rw [hgrow.block b hlt (fun e => hne e.symm)]
  exact hbk
 have d0 : w2.cell? ⟨b, 0, none⟩ = some (.pointer (some ⟨b, 0, none⟩)) := by rw [Lib.cell_of_heap hb2]; rfl
 have d1 : w2.cell? ⟨b, 1, none⟩ = some v := by rw [Lib.cell_of_heap hb2]; rfl
 have f1 : w2.frozen? ⟨b, 1, none⟩ = false := Lib.frozen_of_heap hb2 1
 obtain ⟨ao, n', cap, rfl⟩ : ∃ ao n' cap, v' = .slice ao n' cap := by
  rcases hown'.2 with ⟨hv, _⟩ | ⟨g, cap, cur, hv, _⟩
  ·exact ⟨_, _, _, hv⟩
  ·exact ⟨_, _, _, hv⟩
 go_wp2
 go_ret2
 refine ⟨rfl, .inr ?_, ?_, (hk1.trans (KeepB.grown hgrow hown)).trans (KeepB.set _ _ _ _)⟩
 ·rw [Lib.byteCells_append]
  exact Lib.BuilderAt.put (T := 93) (e := 5) hB hb2 (bs' := Lib.byteCells l ++ Lib.strCells s) (by simpa [Lib.strCells_length] using hown') (by decide)
 ·exact (hb1.grown hgrow (by have := hb1.size; omega) (fun k hk => (hown.lt k hk).1)).setCell (p := ⟨b, 1, none⟩) hB _
set_option maxHeartbeats 1000000 in
set_option maxRecDepth 100000 in
theorem stringK_some (B b : Nat) (l : List UInt8) (w : World) (h : IsJ B b l w) (h0 : l ≠ []) :
  Calls Tryz.prog 48 #[.pointer (some ⟨b, 0, none⟩)] w fun e w' => e = .returned (.string ⟨l.toArray⟩) ∧ Below B w w' ∧ KeepB b w w' := by
 obtain ⟨p, hB, v, hbk, hown, hne⟩ : ∃ p, Lib.BuilderAt 93 5 B b p (Lib.byteCells l) w := by
  rcases h with h | h
  ·exact ⟨_, h⟩
  ·exact ⟨_, h⟩
 have hl0 : l.length ≠ 0 := by simpa using h0
 rw [Lib.byteCells_length] at hown
 obtain ⟨g, cap, cur, rfl, hbg, hg, hnc, hcm, hcs, htake⟩ : ∃ g cap cur, v = .slice (some ⟨g, 0, none⟩) l.length cap ∧ B ≤ g ∧ w.heap[g]? = some (.cells cur 5 (0, 0)) ∧ l.length ≤ cap ∧ cap ≤ maxLen ∧ cur.size = cap * 1 ∧ cur.toList.take (l.length * 1) = Lib.byteCells l := by
  rcases hown.2 with ⟨_, hz⟩ | ⟨g, cap, cur, hv, r⟩
  ·exact absurd hz hl0
  ·exact ⟨g, cap, cur, hv, r⟩
 have c1 : w.drew.cell? ⟨b, 1, none⟩ = some (.slice (some ⟨g, 0, none⟩) l.length cap) := by
  have : w.drew.heap[b]? = some (.cells #[p, .slice (some ⟨g, 0, none⟩) l.length cap] 93 (0, 0)) := hbk
  rw [Lib.cell_of_heap this]; rfl
 have hSD : (Builtin.unsafeSliceData_ #[22] 141 #[.slice (some ⟨g, 0, none⟩) l.length cap]).run Tryz.prog w.drew = .ok (.pointer (some ⟨g, 0, none⟩)) w.drew :=
  Lib.run_unsafeSliceData_row _ _ _ _ _ _ (by omega)
 have hUS : (Builtin.unsafeString_ #[141, 3] 9 #[.pointer (some ⟨g, 0, none⟩), .int .i64 l.length]).run Tryz.prog w.drew = .ok (.string ⟨l.toArray⟩) (w.drew.freeze ⟨g, 0, none⟩ l.length) := by
  refine Lib.run_unsafeString_row w.drew 141 3 9 5 Tryz.underlying141 cellsByte g cur.size (by have hg' : w.drew.heap[g]? = some (.cells cur 5 (0, 0)) := hg; simp [World.shape?, hg']) l h0 (by omega) (by unfold maxLen at hcm; omega) ?_
  intro j x hx
  have := hown.cells (g := g) rfl j (.int .u8 x.toNat) (by simp [Lib.byteCells, hx])
  exact this
 have mixed : Tryz.prog.follows .mixedOrders = true := by kernel_rfl
 go_enter Tryz.func48, Tryz.ntmps48
 go_wp2
 go_region_o
 all_goals (go_wp2; go_ret; exact ⟨rfl, Lib.below_freeze (Below.drew (Below.refl B w)) (p := ⟨g, 0, none⟩) hbg _, keep_freeze hg _⟩)
end Go.Proofs.YtgipnbeipfhekaaGreatDoor.Jour
namespace Go.Proofs
open Go.Shelf
def YtgipnbeipfhekaaGreatDoor.lv100_ren : Go.Shelf.Ren := ⟨fun | 100 => 43 | 207 => 84 | n => n, fun | 9 => 9 | 4 => 4 | 3 => 3 | n => n, fun | n => n⟩
theorem YtgipnbeipfhekaaGreatDoor.lv100 : Go.Proofs.Lays.n100 Tryz.prog YtgipnbeipfhekaaGreatDoor.lv100_ren := {
 mixed := by kernel_rfl
 f100 := Tryz.func43.trans (congrArg some (by kernel_rfl))
 f207 := Tryz.func84.trans (congrArg some (by kernel_rfl))
 t3 := Tryz.underlying3
 a3 := Tryz.isAgg3
 z3 := Tryz.sizeOf3
 v3 := Tryz.zeroValue3
 t4 := Tryz.underlying4
 a4 := Tryz.isAgg4
 z4 := Tryz.sizeOf4
 v4 := Tryz.zeroValue4
 t9 := Tryz.underlying9
 a9 := Tryz.isAgg9
 z9 := Tryz.sizeOf9
 v9 := Tryz.zeroValue9 }
end Go.Proofs
namespace Go.Proofs.YtgipnbeipfhekaaGreatDoor.LcG
open Go.RowKit Go.Proofs.YtgipnbeipfhekaaGreatDoor Go.Proofs.YtgipnbeipfhekaaGreatDoor.Base Go.Proofs.YtgipnbeipfhekaaGreatDoor.Mem Go.Proofs.YtgipnbeipfhekaaGreatDoor.MemS Go.Proofs.YtgipnbeipfhekaaGreatDoor.LabM Go.Proofs.YtgipnbeipfhekaaGreatDoor.LabV Go.Proofs.YtgipnbeipfhekaaGreatDoor.StM Go.Proofs.YtgipnbeipfhekaaGreatDoor.StTx Go.Proofs.YtgipnbeipfhekaaGreatDoor.Dec Go.Proofs.YtgipnbeipfhekaaGreatDoor.Val Go.Proofs.YtgipnbeipfhekaaGreatDoor.Rd Go.Proofs.YtgipnbeipfhekaaGreatDoor.CutP Go.Proofs.YtgipnbeipfhekaaGreatDoor.RecJ Go.Proofs.YtgipnbeipfhekaaGreatDoor.CarM Go.Proofs.YtgipnbeipfhekaaGreatDoor.LcA Go.Proofs.YtgipnbeipfhekaaGreatDoor.LcC Go.Proofs.YtgipnbeipfhekaaGreatDoor.Jour
set_option linter.unusedVariables false
def CarC (L : Lb) (line : List UInt8) : Prop := ∀ v w, LabAt w v L → Tabs w → Calls Tryz.prog 45 #[v, .string (tx line)] w (CarRet (lineR L line).1 (tx (lineR L line).2) w)
def script (ls : List (List UInt8)) : List UInt8 := ls.flatMap (· ++ [10])
theorem cut_script : ∀ (ls : List (List UInt8)), (∀ x ∈ ls, ∀ c ∈ x, c ≠ 10) → cutR 10 (script ls) = ls ++ [[]]
 | [], _ => StrM.cut_end (fun x hx => by cases hx)
 | x :: r, h => by
  have e : script (x :: r) = x ++ 10 :: script r := by simp [script]
  rw [e, StrM.cut_at (h x List.mem_cons_self), cut_script r fun y hy => h y (List.mem_cons_of_mem _ hy)]
  rfl
theorem lines_snoc (x : List UInt8) : ∀ (ls : List (List UInt8)) (L : Lb), runR L (ls ++ [x]) = ((lineR (runR L ls).1 x).1, (runR L ls).2 ++ ((lineR (runR L ls).1 x).2 ++ [10]))
 | [], L => by simp [runR]
 | y :: r, L => by
  rw [List.cons_append, runR, runR, lines_snoc x r]
  simp
theorem suffix_script {ls : List (List UInt8)} (h : ls ≠ []) : Lib.hasSuffix (script ls) [10] = true := by
 obtain ⟨r, x, rfl⟩ : ∃ r x, ls = r ++ [x] := ⟨ls.dropLast, ls.getLast h, (List.dropLast_concat_getLast h).symm⟩
 unfold Lib.hasSuffix script
 rw [List.flatMap_append]
 exact List.isSuffixOf_iff_suffix.2 ⟨r.flatMap (· ++ [10]) ++ x, by simp⟩
theorem labKeep {w w' : World} {v : Value} {L : Lb} {b : Nat} {t : TypeId} {cs : Array Value} (h : LabAt w v L) (hk : KeepB b w w') (hb : Blk.Blk w b t cs) (h1 : t ≠ 9) (h2 : t ≠ 29) : LabAt w' v L := by
 obtain ⟨A, c, A', c', e, r1, r2, t1, t2⟩ := h
 have key : ∀ (q : Option Addr) (t' : TypeId), t ≠ t' → t' ≠ 5 → TyAt w q t' → ∀ b1 off sub, q = some ⟨b1, off, sub⟩ → w'.heap[b1]? = w.heap[b1]? := fun q t' hne hu ht b1 off sub e1 => by
  obtain ⟨cs1, fr1, k⟩ := ht b1 off sub e1
  rw [k]
  refine hk.2 b1 cs1 t' fr1 (fun e2 => ?_) hu k
  subst e2
  unfold Blk.Blk at hb
  rw [hb] at k
  injection k with k
  injection k with _ k2
  exact hne k2
 refine ⟨A, c, A', c', e, fun h0 => ?_, fun h0 => ?_, fun b1 off sub e1 => ?_, fun b1 off sub e1 => ?_⟩
 ·obtain ⟨b1, off, e1, hlt, hc⟩ := r1 h0
  have k := key A _ h1 (by decide) t1 b1 off none e1
  exact ⟨b1, off, e1, Nat.lt_of_lt_of_le hlt hk.1, fun i hi => (World.cell?_of_block (a := ⟨b1, off + i, none⟩) k).trans (hc i hi)⟩
 ·obtain ⟨b1, off, e1, hlt, hc⟩ := r2 h0
  have k := key A' _ h2 (by decide) t2 b1 off none e1
  exact ⟨b1, off, e1, Nat.lt_of_lt_of_le hlt hk.1, fun i hi => (World.cell?_of_block (a := ⟨b1, off + i, none⟩) k).trans (hc i hi)⟩
 ·obtain ⟨cs1, fr1, k⟩ := t1 b1 off sub e1
  exact ⟨cs1, fr1, (key A _ h1 (by decide) t1 b1 off sub e1).trans k⟩
 ·obtain ⟨cs1, fr1, k⟩ := t2 b1 off sub e1
  exact ⟨cs1, fr1, (key A' _ h2 (by decide) t2 b1 off sub e1).trans k⟩
theorem isJ_blk {B b : Nat} {l : List UInt8} {w : World} (h : IsJ B b l w) : B ≤ b ∧ ∃ cs, Blk.Blk w b 93 cs := by
 rcases h with ⟨h1, v, h2, _⟩ | ⟨h1, v, h2, _⟩
 ·exact ⟨h1, _, h2⟩
 ·exact ⟨h1, _, h2⟩
theorem isJ_put {B b b' : Nat} {l : List UInt8} {w : World} {cs : Array Value} (h : IsJ B b l w) (hK : Blk.Blk w b' 53 cs) (hne : b' ≠ b) (x y : Value) : IsJ B b l ((w.setCell ⟨b', 0, none⟩ x).setCell ⟨b', 1, none⟩ y) := by
 have key : ∀ {p : Value}, Lib.BuilderAt 93 5 B b p (Lib.byteCells l) w → Lib.BuilderAt 93 5 B b p (Lib.byteCells l) ((w.setCell ⟨b', 0, none⟩ x).setCell ⟨b', 1, none⟩ y) := fun {p} ⟨h1, v, h2, h3, h4⟩ => by
  refine ⟨h1, v, ?_, ownsRow_setCell_below' h3 hK 0 x 1 y, h4⟩
  unfold World.setCell
  simp only [Array.getElem?_modify, if_neg hne]
  exact h2
 rcases h with h | h
 ·exact .inl (key h)
 ·exact .inr (key h)
end Go.Proofs.YtgipnbeipfhekaaGreatDoor.LcG
namespace Go.Proofs.YtgipnbeipfhekaaGreatDoor.LcG
open Go.RowKit Go.Proofs.YtgipnbeipfhekaaGreatDoor Go.Proofs.YtgipnbeipfhekaaGreatDoor.Base Go.Proofs.YtgipnbeipfhekaaGreatDoor.Mem Go.Proofs.YtgipnbeipfhekaaGreatDoor.MemS Go.Proofs.YtgipnbeipfhekaaGreatDoor.LabM Go.Proofs.YtgipnbeipfhekaaGreatDoor.LabV Go.Proofs.YtgipnbeipfhekaaGreatDoor.StM Go.Proofs.YtgipnbeipfhekaaGreatDoor.StTx Go.Proofs.YtgipnbeipfhekaaGreatDoor.Dec Go.Proofs.YtgipnbeipfhekaaGreatDoor.Val Go.Proofs.YtgipnbeipfhekaaGreatDoor.Rd Go.Proofs.YtgipnbeipfhekaaGreatDoor.CutP Go.Proofs.YtgipnbeipfhekaaGreatDoor.RecJ Go.Proofs.YtgipnbeipfhekaaGreatDoor.CarM Go.Proofs.YtgipnbeipfhekaaGreatDoor.LcA Go.Proofs.YtgipnbeipfhekaaGreatDoor.LcC Go.Proofs.YtgipnbeipfhekaaGreatDoor.Jour
set_option linter.unusedVariables false
theorem script_len : ∀ ls : List (List UInt8), ls.length ≤ (script ls).length
 | [] => Nat.zero_le _
 | x :: r => by
  have := script_len r
  simp only [script, List.flatMap_cons, List.length_append, List.length_cons] at this ⊢
  omega
noncomputable def LkAt (L : Lb) (ls : List (List UInt8)) (k : Nat) : Lb × List UInt8 := runR L (ls.take k)
theorem lk_zero (L : Lb) (ls : List (List UInt8)) : LkAt L ls 0 = (L, []) := rfl
theorem lk_succ (L : Lb) {ls : List (List UInt8)} {k : Nat} {x : List UInt8} (h : ls[k]? = some x) : LkAt L ls (k + 1) = ((lineR (LkAt L ls k).1 x).1, (LkAt L ls k).2 ++ ((lineR (LkAt L ls k).1 x).2 ++ [10])) := by
 unfold LkAt
 rw [List.take_add_one, h]
 exact lines_snoc x _ L
theorem lk_ne (L : Lb) {ls : List (List UInt8)} (h : ls ≠ []) : (LkAt L ls ls.length).2 ≠ [] := by
 obtain ⟨r, x, rfl⟩ : ∃ r x, ls = r ++ [x] := ⟨ls.dropLast, ls.getLast h, (List.dropLast_concat_getLast h).symm⟩
 rw [List.length_append, List.length_singleton, lk_succ L (x := x) (by simp)]
 simp
def RlRel (L : Lb) (ls : List (List UInt8)) (g bt : Nat) (w : World) (k : Nat) (wr : World) : Prop :=
 (∃ A c A' c', Blk.Blk wr w.heap.size 53 #[.slice A (LkAt L ls k).1.1.length c, .slice A' (LkAt L ls k).1.2.length c'] ∧ LabAt wr (.agg #[.slice A (LkAt L ls k).1.1.length c, .slice A' (LkAt L ls k).1.2.length c']) (LkAt L ls k).1) ∧
 IsJ bt bt (LkAt L ls k).2 wr ∧ Blk.Blk wr (w.heap.size + 1) 53 #[.slice none 0 0, .slice none 0 0] ∧ (∀ i x, ls[i]? = some x → wr.cell? ⟨g, i, none⟩ = some (.string (tx x))) ∧ Below w.heap.size w wr ∧ g < bt ∧ bt < wr.heap.size ∧ w.heap.size + 1 < g
set_option maxHeartbeats 4000000 in
set_option maxRecDepth 100000 in
theorem runLab_yes {L : Lb} {ls : List (List UInt8)} (hne : ls ≠ []) (h10 : ∀ x ∈ ls, ∀ c ∈ x, c ≠ 10) (hL : labR L = true) (hsz : (script ls).length ≤ 4000) (hn1 : L.1.length ≤ 6) (hn2 : L.2.length ≤ 6) (hnm : ∀ i, i < L.1.length → (L.1.getD i ByteArray.empty).size ≤ 9223372036854775807)
  (hC : ∀ k x, ls[k]? = some x → CarC (LkAt L ls k).1 x) (hout : (LkAt L ls ls.length).2.length ≤ 100000000) (hlo : ∀ k x, ls[k]? = some x → (LkAt L ls k).2.length + (lineR (LkAt L ls k).1 x).2.length + 1 ≤ 100000000) (hend : (LkAt L ls ls.length).1.1.length ≤ 1000 ∧ (LkAt L ls ls.length).1.2.length ≤ 1000) (v : Value) (w : World) (h : LabAt w v L) (ht : Tabs w) :
  Calls Tryz.prog 17 #[v, .string (tx (script ls))] w fun e w' => ∃ v', e = .returned (.tuple #[v', .string (tx (LkAt L ls ls.length).2), .bool true]) ∧ LabAt w' v' (LkAt L ls ls.length).1 ∧ Below w.heap.size w w' := by
 have hv0 := h
 obtain ⟨A, c, A', c', rfl, hx, hy, _⟩ := h
 obtain ⟨W2, hW2⟩ : ∃ W2, W2 = (w.alloc (.cells #[.slice A L.1.length c, .slice A' L.2.length c'] 53)).alloc (.cells #[.slice none 0 0, .slice none 0 0] 53) := ⟨_, rfl⟩
 have b2 : Below w.heap.size w W2 := by rw [hW2]; exact ((Below.refl _ _).alloc (Nat.le_refl _) _).alloc (by simp) _
 have KL : Hid (Blk.Blk W2 w.heap.size 53 #[.slice A L.1.length c, .slice A' L.2.length c']) := Lib.hid (by rw [hW2]; exact (Blk.Blk.new w _ _).alloc _)
 have KR : Hid (Blk.Blk W2 (w.heap.size + 1) 53 #[.slice none 0 0, .slice none 0 0]) := Lib.hid (by rw [hW2]; exact Blk.Blk.newAt _ _ (by simp))
 have hVL := implLab_any A A' c c' W2.heap.size L.2.length L.1 (flat L.2) W2 ((hx.below b2 (Nat.le_refl _)).more b2.size) ((hy.below b2 (Nat.le_refl _)).more b2.size) (Nat.le_refl _) hnm (by omega) (by omega)
 rw [show labB L.1 L.2.length (flat L.2) = true from hL] at hVL
 have HVL := Lib.hid hVL
 have HSf := Lib.hid (fun W => Any.strings_HasSuffix YtgipnbeipfhekaaGreatDoor.lv100 (tx (script ls)) ⟨#[10]⟩ W (by rw [size_tx]; omega))
 rw [list_tx, suffix_script hne] at HSf
 have HSp := Lib.hid (fun (W : World) (hb : Below w.heap.size w W) => (ht.on hb).2.2)
 have hcut := cut_script ls h10
 have hln : (tx (script ls)).size ≤ 4000 := by rw [size_tx]; exact hsz
 have htl : ¬ (tx (script ls)).toList = [] := fun e => by
  rw [Lib.toList_data, list_tx] at e
  cases ls with
  | nil => exact hne rfl
  | cons x r => simp [script] at e
 have htl2 : ((tx (script ls)).toList == []) = false := beq_eq_false_iff_ne.2 htl
 have HSP2 := Lib.hid (fun (W : World) (m : Int) hm => split_to (tx (script ls)) 10 (by omega) m W hm)
 rw [list_tx, hcut] at HSP2
 have HV := Lib.hid hv0
 have HTB := Lib.hid ht
 have HCC := Lib.hid hC
 have HB := Lib.hid b2
 have HW := Lib.hid hW2
 have HLO := Lib.hid hlo
 have HEN := Lib.hid hend
 clear hv0 hx hy hW2 b2 ht hC hVL hlo hend hcut hL hnm h10
 generalize tx (script ls) = ln at *
 go_enter Tryz.func17, Tryz.ntmps17
 go_wp2_with fail
 rw [← HW.out]
 refine HVL.out.mono ?_
 rintro e w1 ⟨rfl, b1⟩
 have KL1 := Lib.hid (KL.out.belowS b1)
 have KR1 := Lib.hid (KR.out.belowS b1)
 have HB1 := Lib.hid (Base.Below.nextA HB.out b1)
 clear b1 KL KR HB HVL HW
 go_wp2_with fail
 refine (HSf.out w1).mono ?_
 rintro e w1b ⟨rfl, rfl⟩
 obtain ⟨m, _, hm⟩ := HSp.out _ HB1.out
 go_wp2_with fail
 refine (HSP2.out _ m hm).mono ?_
 rintro e w2 ⟨rfl, hcc, hgl, b2⟩
 have hll : (ls ++ [[]]).length = ls.length + 1 := by simp
 obtain ⟨n, hn⟩ : ∃ n, n = ls.length := ⟨_, rfl⟩
 have hwords : ∀ i x, ls[i]? = some x → w2.cell? ⟨w1b.heap.size, i, none⟩ = some (.string (tx x)) := fun i x hx => by
  have hi : i < ls.length := (List.getElem?_eq_some_iff.1 hx).1
  have k := hcc i (by rw [txs_len, hll]; omega)
  rw [txs_get _ _ (by rw [hll]; omega), List.getD_eq_getElem?_getD, List.getElem?_append_left hi, hx] at k
  exact k
 obtain ⟨w3, hw3⟩ : ∃ w3, w3 = w2.alloc (.cells #[.pointer none, .slice none 0 0] 93) := ⟨_, rfl⟩
 have b3 : Below w2.heap.size w2 w3 := by rw [hw3]; exact (Below.refl _ _).alloc (Nat.le_refl _) _
 have b13 := Base.Below.nextA b2 b3
 have hk1 := KR1.out.lt
 have H0 : Hid (RlRel L ls w1b.heap.size w2.heap.size w 0 w3) := Lib.hid ⟨⟨A, c, A', c', KL1.out.belowS b13, HV.out.below (Base.Below.nextA HB1.out b13)⟩, .inl ⟨Nat.le_refl _, .slice none 0 0, by rw [hw3]; exact Blk.Blk.new w2 _ _, World.ownsRow_nil _ _ _ _, by simp [Value.ownBlock]⟩, KR1.out.belowS b13, fun i x hx => (b3.cell (p := ⟨w1b.heap.size, i, none⟩) hgl).trans (hwords i x hx), Base.Below.nextA HB1.out b13, hgl, by rw [hw3]; simp, hk1⟩
 have HW3 := Lib.hid hw3
 rw [hll, ← hn]
 have hn4 : n ≤ 4000 := by rw [hn]; exact Nat.le_trans (script_len ls) hsz
 have hnn : IntKind.i64.wrap (((n + 1 : Nat) : Int) - 1) = (n : Int) := by rw [show ((n + 1 : Nat) : Int) - 1 = (n : Int) from by omega, IntKind.wrap_i64]; omega
 have hln2 : ¬ (4000 : Int) < (ln.size : Int) := by omega
 have HNN := Lib.hid hn
 clear hcc hwords b3 b13 hw3 b2 hll hm HSp HSP2 HSf hn
 go_wp2_with fail
 go_loopw [39] (fun iv wr => ∃ k : Nat, k ≤ n ∧ iv = .int .i64 (k : Int) ∧ Hid (RlRel L ls w1b.heap.size w2.heap.size w k wr)) (fun iv _ => n - (intOf iv).toNat)
 case atStart => exact ⟨0, Nat.zero_le _, rfl, by rw [← HW3.out]; exact H0⟩
 case round =>
  obtain ⟨k, hk, rfl, HP⟩ := hrel
  obtain ⟨wo, rfl⟩ : ∃ x, x = wr := ⟨_, rfl⟩
  by_cases hlt : k < n
  ·obtain ⟨x, hx⟩ : ∃ x, ls[k]? = some x := ⟨ls[k]'(by rw [← HNN.out]; exact hlt), by simp [show k < ls.length from by rw [← HNN.out]; exact hlt]⟩
   obtain ⟨⟨A1, c1, A1', c1', hK1, hL1⟩, hJ, hKR, hwd, hbw, hg1, hg2, hg3⟩ := HP.out
   have gx := hwd k x hx
   have d0 := hK1.at 0 (v := .slice A1 (LkAt L ls k).1.1.length c1) rfl
   have d1 := hK1.at 1 (v := .slice A1' (LkAt L ls k).1.2.length c1') rfl
   have HX := Lib.hid hx
   have HF := Lib.hid (And.intro hK1 (And.intro hL1 (And.intro hJ (And.intro hKR (And.intro hwd (And.intro hbw (And.intro hg1 (And.intro hg2 hg3))))))))
   clear hx hK1 hL1 hJ hKR hwd hbw HP
   go_wp2_with fail
   refine (HCC.out k x HX.out (.agg #[.slice A1 (LkAt L ls k).1.1.length c1, .slice A1' (LkAt L ls k).1.2.length c1']) wo HF.out.2.1 (HTB.out.on HF.out.2.2.2.2.2.1)).mono ?_
   rintro e w5 ⟨v5, rfl, hv5, b5⟩
   have hv6 := hv5
   obtain ⟨A7, c7, A8, c8, rfl, _, _⟩ := hv5
   obtain ⟨l7, hl7⟩ : ∃ l, l = (lineR (LkAt L ls k).1 x).1.1.length := ⟨_, rfl⟩
   obtain ⟨l8, hl8⟩ : ∃ l, l = (lineR (LkAt L ls k).1 x).1.2.length := ⟨_, rfl⟩
   rw [← hl7, ← hl8] at hv6 ⊢
   obtain ⟨W5, hW5⟩ : ∃ W5, W5 = w5.alloc (.cells #[.slice A7 l7 c7, .slice A8 l8 c8] 53) := ⟨_, rfl⟩
   have b5a : Below w5.heap.size w5 W5 := by rw [hW5]; exact (Below.refl _ _).alloc (Nat.le_refl _) _
   have bb := Base.Below.nextA b5 b5a
   have HV6 := Lib.hid (hv6.below b5a)
   have HL := Lib.hid (And.intro hl7 hl8)
   have HBB := Lib.hid bb
   have HW5 := Lib.hid hW5
   have KK := Lib.hid (HF.out.1.belowS bb)
   obtain ⟨t1, ht1⟩ : ∃ t1, t1 = tx (lineR (LkAt L ls k).1 x).2 := ⟨_, rfl⟩
   obtain ⟨t2, ht2⟩ : ∃ t2, t2 = tx ((lineR (LkAt L ls k).1 x).2 ++ [10]) := ⟨_, rfl⟩
   have hlo := HLO.out k x HX.out
   have ha : ∀ W : World, (Op.stringOp .add t1 ⟨#[10]⟩).run Tryz.prog W = .ok (.string t2) W := fun W => by rw [ht1, ht2]; exact addTx _ [10] (by simp; omega) W
   have HT2 := Lib.hid ht2
   rw [← ht1]
   have e0 : (w5.alloc (.cells #[.slice A7 l7 c7, .slice A8 l8 c8] 53)).cell? ⟨w.heap.size, 0, none⟩ = some (.slice A1 (LkAt L ls k).1.1.length c1) := by rw [← hW5]; exact KK.out.at 0 rfl
   have e1 : (w5.alloc (.cells #[.slice A7 l7 c7, .slice A8 l8 c8] 53)).cell? ⟨w.heap.size, 1, none⟩ = some (.slice A1' (LkAt L ls k).1.2.length c1') := by rw [← hW5]; exact KK.out.at 1 rfl
   have e2 : (w5.alloc (.cells #[.slice A7 l7 c7, .slice A8 l8 c8] 53)).frozen? ⟨w.heap.size, 0, none⟩ = false := by rw [← hW5]; exact KK.out.frz 0
   have e3 : (w5.alloc (.cells #[.slice A7 l7 c7, .slice A8 l8 c8] 53)).frozen? ⟨w.heap.size, 1, none⟩ = false := by rw [← hW5]; exact KK.out.frz 1
   obtain ⟨W6, hW6⟩ : ∃ W6, W6 = (W5.setCell ⟨w.heap.size, 0, none⟩ (.slice A7 l7 c7)).setCell ⟨w.heap.size, 1, none⟩ (.slice A8 l8 c8) := ⟨_, rfl⟩
   have hf := HF.out
   have g1 := hf.2.2.2.2.2.2.1
   have g2 := hf.2.2.2.2.2.2.2.1
   have g3 := hf.2.2.2.2.2.2.2.2
   have B6 : Below w.heap.size w W6 := by rw [hW6]; exact ((Base.Below.nextA hf.2.2.2.2.2.1 HBB.out).setCell (p := ⟨w.heap.size, 0, none⟩) (Nat.le_refl _) _).setCell (p := ⟨w.heap.size, 1, none⟩) (Nat.le_refl _) _
   have K6 : Blk.Blk W6 w.heap.size 53 #[.slice A7 l7 c7, .slice A8 l8 c8] := by rw [hW6]; exact (KK.out.setTo 0 (.slice A7 l7 c7) rfl).setTo 1 (.slice A8 l8 c8) rfl
   have V6 : LabAt W6 (.agg #[.slice A7 l7 c7, .slice A8 l8 c8]) (lineR (LkAt L ls k).1 x).1 := by rw [hW6]; exact labPut2 HV6.out KK.out _ _
   have J6 : IsJ w2.heap.size w2.heap.size (LkAt L ls k).2 W6 := by rw [hW6]; exact isJ_put (hf.2.2.1.below HBB.out) KK.out (by omega) _ _
   have R6 : Blk.Blk W6 (w.heap.size + 1) 53 #[.slice none 0 0, .slice none 0 0] := by rw [hW6]; exact ((hf.2.2.2.1.belowS HBB.out).other _ (by simp)).other _ (by simp)
   have D6 : ∀ i y, ls[i]? = some y → W6.cell? ⟨w1b.heap.size, i, none⟩ = some (.string (tx y)) := fun i y hy => by
    rw [hW6, World.cell?_setCell_other _ _ _ _ (fun e => by injection e with e9; omega), World.cell?_setCell_other _ _ _ _ (fun e => by injection e with e9; omega)]
    exact (HBB.out.cell (p := ⟨w1b.heap.size, i, none⟩) (by show w1b.heap.size < wo.heap.size; omega)).trans (hf.2.2.2.2.1 i y hy)
   have s6 : w2.heap.size < W6.heap.size := by rw [hW6]; have := HBB.out.size; simp; omega
   have HW := Lib.hid (writeK_any w2.heap.size w2.heap.size (LkAt L ls k).2 t2 W6 J6 (by rw [ht2, size_tx]; simp; omega) (Nat.le_of_lt s6))
   have HG := Lib.hid (And.intro B6 (And.intro K6 (And.intro V6 (And.intro R6 (And.intro D6 s6)))))
   have HJ6 := Lib.hid J6
   rw [hW5] at hW6
   have HW6 := Lib.hid hW6
   clear b5 b5a bb hW5 hv6 ht1 d0 d1 gx hl7 hl8 ht2 hf B6 K6 V6 R6 D6 J6 hW6 hlo
   go_wp2_with fail
   rw [← HW6.out]
   refine HW.out.mono ?_
   rintro e w7 ⟨rfl, hJ7, hb7, hk7⟩
   have HN : Hid (RlRel L ls w1b.heap.size w2.heap.size w (k + 1) w7) := Lib.hid (by
    obtain ⟨B6, K6, V6, R6, D6, s6⟩ := HG.out
    unfold RlRel
    rw [lk_succ L HX.out]
    refine ⟨⟨A7, c7, A8, c8, ?_, ?_⟩, ?_, ?_, fun i y hy => (hb7.cell (p := ⟨w1b.heap.size, i, none⟩) g1).trans (D6 i y hy), B6.trans (hb7.mono (by omega)), g1, Nat.lt_of_lt_of_le s6 hb7.size, g3⟩
    ·rw [← HL.out.1, ← HL.out.2]; exact hk7.2 _ _ _ _ (by omega) (by decide) K6
    ·rw [← HL.out.1, ← HL.out.2]
     obtain ⟨_, cs, hcs⟩ := isJ_blk HJ6.out
     exact labKeep V6 hk7 hcs (by decide) (by decide)
    ·rw [HT2.out, list_tx] at hJ7; exact hJ7
    ·exact hk7.2 _ _ _ _ (by omega) (by decide) R6)
   clear hJ7 hb7 hk7
   go_wp2
   go_roundw
   case rel => exact ⟨k + 1, by omega, by simp, HN⟩
   case measure => simp only [intOf]; omega
  ·have hkn : k = ls.length := by rw [← HNN.out]; omega
   obtain ⟨⟨A1, c1, A1', c1', hK1, hL1⟩, hJ, hKR, hwd, hbw, hg1, hg2, hg3⟩ := HP.out
   rw [hkn] at hK1 hL1 hJ
   have d0 := hK1.at 0 (v := .slice A1 (LkAt L ls ls.length).1.1.length c1) rfl
   have d1 := hK1.at 1 (v := .slice A1' (LkAt L ls ls.length).1.2.length c1') rfl
   have HL := Lib.hid (labClone_any _ _ wo hL1 HEN.out.1 HEN.out.2)
   have HF := Lib.hid (And.intro hJ (And.intro hKR (And.intro hbw (And.intro hg2 hg3))))
   clear hK1 hL1 hJ hKR hbw HP hwd
   go_wp2_with fail
   refine HL.out.mono ?_
   rintro e w5 ⟨v5, rfl, hv5, b5⟩
   have hv6 := hv5
   obtain ⟨A7, c7, A8, c8, rfl, _, _⟩ := hv5
   have HO := HF.out
   have J5 := HO.1.below b5
   have R5 := HO.2.1.belowS b5
   have B5 := Base.Below.nextA HO.2.2.1 b5
   have HSt := Lib.hid (stringK_some w2.heap.size w2.heap.size _ w5 J5 (lk_ne L hne))
   have HG := Lib.hid (And.intro J5 (And.intro R5 (And.intro B5 (And.intro hv6.at (And.intro HO.2.2.2.1 HO.2.2.2.2)))))
   obtain ⟨l7, hl7⟩ : ∃ l, l = (LkAt L ls ls.length).1.1.length := ⟨_, rfl⟩
   obtain ⟨l8, hl8⟩ : ∃ l, l = (LkAt L ls ls.length).1.2.length := ⟨_, rfl⟩
   rw [← hl7, ← hl8] at HG ⊢
   obtain ⟨t9, ht9⟩ : ∃ t, t = tx (LkAt L ls ls.length).2 := ⟨_, rfl⟩
   rw [show (⟨(LkAt L ls ls.length).2.toArray⟩ : ByteArray) = tx (LkAt L ls ls.length).2 from rfl, ← ht9] at HSt
   have HT9 := Lib.hid ht9
   clear HO J5 R5 B5 b5 hv6 HF hl7 hl8 ht9 d0 d1
   go_wp2_with fail
   refine HSt.out.mono ?_
   rintro e w6 ⟨rfl, b6, k6⟩
   obtain ⟨J5, R5, B5, V5, g2, g3⟩ := HG.out
   have R6 := k6.2 _ _ _ _ (by omega) (by decide) R5
   have V6 : LabAt w6 (.agg #[.slice A7 l7 c7, .slice A8 l8 c8]) (LkAt L ls ls.length).1 := by
    obtain ⟨_, cs, hcs⟩ := isJ_blk J5
    exact labKeep V5 k6 hcs (by decide) (by decide)
   have R6' : Blk.Blk w6 (w.heap.size + 1) 53 #[.slice none 0 0, .slice none 0 0] := R6
   have r0 := R6'.at 0 (v := .slice none 0 0) rfl
   have r1 := R6'.at 1 (v := .slice none 0 0) rfl
   have f0 := R6'.frz 0
   have f1 := R6'.frz 1
   have KK := (R6'.setTo 0 (.slice A7 l7 c7) rfl).setTo 1 (.slice A8 l8 c8) rfl
   have k0 := KK.at 0 (v := .slice A7 l7 c7) rfl
   have k1 := KK.at 1 (v := .slice A8 l8 c8) rfl
   have B6 := B5.trans (b6.mono (by omega))
   have hb7 := (B6.setCell (p := ⟨w.heap.size + 1, 0, none⟩) (Nat.le_succ _) (.slice A7 l7 c7)).setCell (p := ⟨w.heap.size + 1, 1, none⟩) (Nat.le_succ _) (.slice A8 l8 c8)
   have HFIN := Lib.hid (And.intro (labPut2 V6 R6' (.slice A7 l7 c7) (.slice A8 l8 c8)) hb7)
   clear J5 R5 B5 V5 R6 V6 KK B6 hb7 b6 k6 HG HSt
   go_wp2
   refine bodyPost_ret (v := .tuple #[.agg #[.slice A7 l7 c7, .slice A8 l8 c8], .string t9, .bool true]) (by simp [results, Tryz.results17, go_sem, k0, k1]) rfl ?_
   exact ⟨_, by rw [HT9.out], HFIN.out.1, HFIN.out.2⟩
end Go.Proofs.YtgipnbeipfhekaaGreatDoor.LcG
namespace Go.Proofs.YtgipnbeipfhekaaGreatDoor.TopM
open Go.Proofs.YtgipnbeipfhekaaGreatDoor Go.Proofs.YtgipnbeipfhekaaGreatDoor.Dec Go.Proofs.YtgipnbeipfhekaaGreatDoor.LabV Go.Proofs.YtgipnbeipfhekaaGreatDoor.Str Go.Proofs.YtgipnbeipfhekaaGreatDoor.StM Go.Proofs.YtgipnbeipfhekaaGreatDoor.StTx Go.Proofs.YtgipnbeipfhekaaGreatDoor.Rd Go.Proofs.YtgipnbeipfhekaaGreatDoor.Skip Go.Proofs.YtgipnbeipfhekaaGreatDoor.Take Go.Proofs.YtgipnbeipfhekaaGreatDoor.Face Go.Proofs.YtgipnbeipfhekaaGreatDoor.Val Go.Proofs.YtgipnbeipfhekaaGreatDoor.CutP Go.Proofs.YtgipnbeipfhekaaGreatDoor.CarM Go.Proofs.YtgipnbeipfhekaaGreatDoor.StrM
set_option linter.unusedVariables false
theorem cut3 {a b c : Tx} (ha : ∀ x ∈ a, x ≠ 32) (hb : ∀ x ∈ b, x ≠ 32) (hc : ∀ x ∈ c, x ≠ 32) : cutR 32 (a ++ 32 :: (b ++ 32 :: c)) = [a, b, c] := by rw [cut_at ha, cut_at hb, cut_end hc]
theorem cut2 {a b : Tx} (ha : ∀ x ∈ a, x ≠ 32) (hb : ∀ x ∈ b, x ≠ 32) : cutR 32 (a ++ 32 :: b) = [a, b] := by rw [cut_at ha, cut_end hb]
theorem dec32 (u : Nat) : ∀ x ∈ Lib.decDigits u, x ≠ (32 : UInt8) := fun x hx e => by
 have := (digs_dec u).1 x hx
 rw [e] at this
 exact absurd this.1 (by decide)
def nX : Tx := [120]
def L1 (r : St) : Lb := ([tx nX], [r])
theorem no_nX : ∀ x ∈ nX, x ≠ (32 : UInt8) := by decide
theorem has0 (x : ByteArray) : hasS [] x = false := rfl
theorem has1 : hasS [tx nX] (tx nX) = true := by decide +kernel
theorem pos1 : posS [tx nX] (tx nX) = 0 := by decide +kernel
theorem find1 (r : St) : findR (L1 r) (tx nX) = some r := by unfold findR L1; rw [has1, pos1]; rfl
theorem with1 (r q : St) : withR (L1 r) (tx nX) q = L1 q := by unfold withR L1; rw [has1, pos1]; rfl
theorem with0 (r : St) : withR ([], []) (tx nX) r = L1 r := by unfold withR; rw [has0]; rfl
theorem lab1 {r : St} (h : r.ok = true) : labR (L1 r) = true := by
 have h1 : strB (flat [r]) 0 = true := h
 have h2 : nameB (tx nX) = true := by decide +kernel
 unfold labR labB L1
 simp [labTo, entB, h1, h2]
theorem line_set {r : St} (h : r.ok = true) (ht : ∀ x ∈ textS r.K r.W r.T r.m r.f r.a r.s, x ≠ 32) : lineR ([], []) (wSet ++ 32 :: (nX ++ 32 :: textS r.K r.W r.T r.m r.f r.a r.s)) = (L1 r, tOk) := by
 unfold lineR
 rw [cut3 (by decide) no_nX ht]
 have hg : giveR ([], []) wSet nX (textS r.K r.W r.T r.m r.f r.a r.s) = some (L1 r) := by
  unfold giveR
  rw [if_pos rfl, read_text h]
  show (if labR (withR ([], []) (tx nX) r) = true then some (withR ([], []) (tx nX) r) else none) = _
  rw [with0, lab1 h]; rfl
 rw [if_pos (show wordsR ([wSet, nX, textS r.K r.W r.T r.m r.f r.a r.s].getD 0 []) = [wSet, nX, textS r.K r.W r.T r.m r.f r.a r.s].length from (by decide : wordsR wSet = 3))]
 show (doR ([], []) wSet nX (textS r.K r.W r.T r.m r.f r.a r.s)).getD _ = _
 unfold doR
 rw [if_pos (Or.inl rfl), hg]
 rfl
theorem line_cycle (r : St) : lineR (L1 r) (wCycle ++ 32 :: nX) = (L1 r, decI (preS r.K r.W r.T r.m r.f r.a r.s) ++ 32 :: decI (perS r.K r.W r.T r.m r.f r.a r.s)) := by
 unfold lineR
 rw [cut2 (by decide) no_nX, if_pos (show wordsR ([wCycle, nX].getD 0 []) = [wCycle, nX].length by decide)]
 show (doR (L1 r) wCycle nX []).getD _ = _
 unfold doR useR
 rw [if_neg (by decide), if_pos (by decide), find1]
 show (if wCycle = wDrop then _ else if wCycle = wShow then _ else _ : Option (Lb × Tx)).getD _ = _
 rw [if_neg (by decide), if_neg (by decide)]
 rfl
theorem line_draw (r : St) (c : Tx) (n : Nat) (hn : n ≤ 1000000) (hc : ∀ x ∈ c, x ≠ 32) (hw : wordsR c = 3) (h1 : ¬ (c = wSet ∨ c = wCopy)) (h2 : ¬ (c = wDrop ∨ c = wShow ∨ c = wCycle)) :
  lineR (L1 r) (c ++ 32 :: (nX ++ 32 :: Lib.decDigits n)) = ((drawT c r (n : Int)).map fun q => (L1 q.1, q.2)).getD (L1 r, tNo) := by
 unfold lineR
 rw [cut3 hc no_nX (dec32 n), if_pos (show wordsR ([c, nX, Lib.decDigits n].getD 0 []) = [c, nX, Lib.decDigits n].length from hw)]
 show (doR (L1 r) c nX (Lib.decDigits n)).getD _ = _
 unfold doR
 rw [if_neg h1, if_neg h2]
 unfold drawR
 rw [find1, valO_dec (by omega)]
 show ((drawT c r (n : Int)).map fun q => (withR (L1 r) (tx nX) q.1, q.2)).getD _ = _
 congr 2
 funext q
 rw [with1]
end Go.Proofs.YtgipnbeipfhekaaGreatDoor.TopM
namespace Go.Proofs.YtgipnbeipfhekaaGreatDoor.TopC
open Go.RowKit Go.Proofs.YtgipnbeipfhekaaGreatDoor Go.Proofs.YtgipnbeipfhekaaGreatDoor.Base Go.Proofs.YtgipnbeipfhekaaGreatDoor.Mem Go.Proofs.YtgipnbeipfhekaaGreatDoor.MemS Go.Proofs.YtgipnbeipfhekaaGreatDoor.LabM Go.Proofs.YtgipnbeipfhekaaGreatDoor.LabV Go.Proofs.YtgipnbeipfhekaaGreatDoor.StM Go.Proofs.YtgipnbeipfhekaaGreatDoor.Str Go.Proofs.YtgipnbeipfhekaaGreatDoor.StTx Go.Proofs.YtgipnbeipfhekaaGreatDoor.Dec Go.Proofs.YtgipnbeipfhekaaGreatDoor.Val Go.Proofs.YtgipnbeipfhekaaGreatDoor.Rd Go.Proofs.YtgipnbeipfhekaaGreatDoor.Skip Go.Proofs.YtgipnbeipfhekaaGreatDoor.Take Go.Proofs.YtgipnbeipfhekaaGreatDoor.Face Go.Proofs.YtgipnbeipfhekaaGreatDoor.CutP Go.Proofs.YtgipnbeipfhekaaGreatDoor.RecJ Go.Proofs.YtgipnbeipfhekaaGreatDoor.CarM Go.Proofs.YtgipnbeipfhekaaGreatDoor.LcA Go.Proofs.YtgipnbeipfhekaaGreatDoor.LcC Go.Proofs.YtgipnbeipfhekaaGreatDoor.LcG Go.Proofs.YtgipnbeipfhekaaGreatDoor.TopM Go.Proofs.YtgipnbeipfhekaaGreatDoor.StrM
set_option linter.unusedVariables false
theorem dec_byte (u : Nat) : ∀ x ∈ Lib.decDigits u, 48 ≤ x.toNat ∧ x.toNat ≤ 57 := fun x hx => (digs_dec u).1 x hx
theorem join_byte {l : List UInt8} {xs : List Int} (hl : ∀ x ∈ l, 48 ≤ x.toNat) : ∀ i, ∀ x ∈ joinTo l xs i, 48 ≤ x.toNat
 | 0, x, hx => hl x hx
 | i + 1, x, hx => by
  rw [joinTo] at hx
  rcases List.mem_append.1 hx with h | h
  ·exact join_byte hl i x h
  ·rcases List.mem_append.1 h with h | h
   ·rw [List.mem_singleton.1 h]; decide
   ·exact (dec_byte _ x h).1
theorem text_byte (K W T m f a s : Int) : ∀ x ∈ textS K W T m f a s, 48 ≤ x.toNat := fun x hx => by
 unfold textS at hx
 split at hx
 ·exact join_byte (fun x hx => by rw [List.mem_singleton.1 hx]; decide) _ x hx
 ·exact join_byte (fun x hx => by rw [List.mem_singleton.1 hx]; decide) _ x hx
theorem ne32 {x : UInt8} (h : 48 ≤ x.toNat) : x ≠ 32 := fun e => by rw [e] at h; exact absurd h (by decide)
theorem ne10 {x : UInt8} (h : 48 ≤ x.toNat) : x ≠ 10 := fun e => by rw [e] at h; exact absurd h (by decide)
def tS (x : St) : Tx := textS x.K x.W x.T x.m x.f x.a x.s
def l1 (x : St) : Tx := wSet ++ 32 :: (nX ++ 32 :: tS x)
def l2 : Tx := wCycle ++ 32 :: nX
def lN (c : Tx) (n : Nat) : Tx := c ++ 32 :: (nX ++ 32 :: Lib.decDigits n)
def topL (x : St) (n f : Nat) : List Tx := [l1 x, l2, lN wBits n, lN wLevels n, lN wRoll f]
theorem L1_len (r : St) : (L1 r).1.length = (L1 r).2.length := rfl
theorem L1_six (r : St) : (L1 r).1.length ≤ 6 := by show 1 ≤ 6; decide
theorem withC1 (r q : St) : WithC (L1 r) (tx nX) q := withC_at q (L1_len r) (L1_six r) has1 fun i hi => by
 have : i = 0 := by have : i < 1 := hi; omega
 subst this
 show (tx nX).size ≤ _
 decide +kernel
theorem withC0 (q : St) : WithC ([], []) (tx nX) q := withC_end q rfl (by decide) (has0 _) rfl (fun i hi => absurd hi (Nat.not_lt_zero i)) (by decide +kernel)
theorem car_set {x : St} (hx : x.ok = true) : CarC ([], []) (l1 x) := fun v w h ht => by
 have hl := text_small hx
 unfold l1 tS
 rw [line_set hx fun y hy => ne32 (text_byte _ _ _ _ _ _ _ y hy)]
 refine carry_set (cut3 (by decide) no_nX fun y hy => ne32 (text_byte _ _ _ _ _ _ _ y hy)) (by simp [nX]; omega) (fun v w h ht => ?_) v w h ht
 have hg := give_set (L := ([], [])) (nm := tx nX) (wd := tx (textS x.K x.W x.T x.m x.f x.a x.s)) (r := x) (by rw [list_tx]; exact read_text hx) (withC0 x) (by rw [with0]; exact lab1 hx) rfl (by decide) (by rw [size_tx]; omega) v w h ht
 rw [with0] at hg
 exact hg
theorem car_cycle {x : St} (hx : x.ok = true) : CarC (L1 x) l2 := fun v w h ht => by
 unfold l2
 rw [line_cycle]
 refine carry_cycle (cut2 (by decide) no_nX) (by decide) (fun v w h ht => ?_) v w h ht
 refine (use_cycle (find1 x) hx (L1_len x) (L1_six x) v w h ht).mono fun e w' hr => ?_
 exact ⟨v, hr.1, h.below hr.2, hr.2⟩
theorem lineN (r : St) (c : Tx) (n : Nat) (hn : n ≤ 1000000) (hc : ∀ x ∈ c, x ≠ 32) (hw : wordsR c = 3) (h1 : ¬ (c = wSet ∨ c = wCopy)) (h2 : ¬ (c = wDrop ∨ c = wShow ∨ c = wCycle)) {q : St} {t : Tx} (hd : drawT c r (n : Int) = some (q, t)) : lineR (L1 r) (lN c n) = (L1 q, t) := by
 unfold lN
 rw [line_draw r c n hn hc hw h1 h2, hd]; rfl
theorem bits_line {x : St} (hx : x.ok = true) {n : Nat} (h1 : 1 ≤ n) (hn : n ≤ 30) : lineR (L1 x) (lN wBits n) = (L1 (x.to (takeX x.K x.W x.T x.m x.f x.a x.s n)), takeL x.K x.W x.T x.m x.f x.a x.s n) := by
 have hne : ¬ takeL x.K x.W x.T x.m x.f x.a x.s (n : Int) = [] := fun e => by
  have := takeL_len x.K x.W x.T x.m x.f x.a x.s n
  rw [e] at this
  simp at this; omega
 refine lineN x wBits n (by omega) (by decide) (by decide) (by decide) (by decide) ?_
 unfold drawT
 rw [if_pos rfl, if_pos (by rw [okB, show streamB x.K x.W x.T x.m x.f x.a x.s = true from hx, inR_yes (by omega)]; rfl), if_neg hne]
theorem car_bits {x : St} (hx : x.ok = true) {n : Nat} (h1 : 1 ≤ n) (hn : n ≤ 30) : CarC (L1 x) (lN wBits n) := fun v w h ht => by
 rw [bits_line hx h1 hn]
 have hd := dec_len (u := n) (by omega)
 unfold lN
 refine carry_bits (cut3 (by decide) no_nX (dec32 n)) (by simp [nX]; omega) (fun v w h ht => ?_) v w h ht
 have hg := draw_bits (find1 x) hx h1 (by omega) (L1_len x) (L1_six x) (withC1 x) v w h ht
 rw [with1] at hg
 exact hg
theorem levels_line {x : St} {n : Nat} (hn : n ≤ 30) (hok : LvN.okL x.K x.W x.T x.m x.f x.a x.s n = true) : lineR (L1 x) (lN wLevels n) = (L1 x, joinR [32] (fracsR (LvN.resL x.K x.W x.T x.m x.f x.a x.s n) 3)) := by
 refine lineN x wLevels n (by omega) (by decide) (by decide) (by decide) (by decide) ?_
 unfold drawT
 rw [if_neg (by decide), if_neg (by decide), if_neg (by decide), if_neg (by decide), if_pos hok]
theorem car_levels {x : St} {n : Nat} (hn : n ≤ 30) (hok : LvN.okL x.K x.W x.T x.m x.f x.a x.s n = true) (hRl : (LvN.resL x.K x.W x.T x.m x.f x.a x.s n).length = 6) (hR2 : ∀ i, 0 ≤ (LvN.resL x.K x.W x.T x.m x.f x.a x.s n).getD i 0 ∧ (LvN.resL x.K x.W x.T x.m x.f x.a x.s n).getD i 0 ≤ 1000000000000000000) (hR3 : (Lib.join (fracsR (LvN.resL x.K x.W x.T x.m x.f x.a x.s n) 3) [32]).length ≤ 100000) : CarC (L1 x) (lN wLevels n) := fun v w h ht => by
 rw [levels_line hn hok]
 have hd := dec_len (u := n) (by omega)
 unfold lN
 refine carry_levels (cut3 (by decide) no_nX (dec32 n)) (by simp [nX]; omega) (fun v w h ht => ?_) v w h ht
 have hg := draw_levels (find1 x) (by omega) hok rfl hRl hR2 hR3 (L1_len x) (L1_six x) (withC1 x) v w h ht
 rw [with1] at hg
 exact hg
theorem join_one (a s : Tx) : Lib.join [a] s = a := by simp [Lib.join]
theorem list_one (c : Nat) : listR [(c : Int)] = Lib.decDigits c := by
 unfold listR joinR
 rw [if_neg (by simp), List.map_singleton, join_one]
 unfold decI
 rw [Int.toNat_natCast]
theorem roll_line {x : St} {f c : Nat} {y : Int} (hf : f ≤ 16) (hR : facesR x.K x.W x.T x.m x.f x.a x.s f 1 = some ([(c : Int)], y)) : lineR (L1 x) (lN wRoll f) = (L1 (x.to y), Lib.decDigits c) := by
 refine lineN x wRoll f (by omega) (by decide) (by decide) (by decide) (by decide) ?_
 unfold drawT
 rw [if_neg (by decide), if_neg (by decide), if_pos rfl, hR]
 show some (x.to y, listR [(c : Int)]) = _
 rw [list_one]
theorem roll_no_line {x : St} {f : Nat} (hf : f ≤ 16) (hR : facesR x.K x.W x.T x.m x.f x.a x.s f 1 = none) : lineR (L1 x) (lN wRoll f) = (L1 x, tNo) := by
 unfold lN
 rw [line_draw x wRoll f (by omega) (by decide) (by decide) (by decide) (by decide)]
 unfold drawT
 rw [if_neg (by decide), if_neg (by decide), if_pos rfl, hR]
 rfl
theorem car_roll {x : St} {f c : Nat} {y : Int} (hf : f ≤ 16) (hc : c ≤ 16) (hR : facesR x.K x.W x.T x.m x.f x.a x.s f 1 = some ([(c : Int)], y)) : CarC (L1 x) (lN wRoll f) := fun v w h ht => by
 rw [roll_line hf hR]
 have hd := dec_len (u := f) (by omega)
 have hd2 := dec_len (u := c) (by omega)
 unfold lN
 refine carry_roll (cut3 (by decide) no_nX (dec32 f)) (by simp [nX]; omega) (fun v w h ht => ?_) v w h ht
 have hg := draw_roll (find1 x) (by omega) hR (by simp) (fun z hz => by rw [List.mem_singleton.1 hz]; omega) (by rw [List.map_singleton, join_one]; unfold decI; rw [Int.toNat_natCast]; omega) (L1_len x) (L1_six x) (withC1 x) v w h ht
 rw [with1, list_one] at hg
 exact hg
theorem car_roll_no {x : St} {f : Nat} (hf : f ≤ 16) (hR : facesR x.K x.W x.T x.m x.f x.a x.s f 1 = none) : CarC (L1 x) (lN wRoll f) := fun v w h ht => by
 rw [roll_no_line hf hR]
 have hd := dec_len (u := f) (by omega)
 unfold lN
 refine carry_roll_no (cut3 (by decide) no_nX (dec32 f)) (by simp [nX]; omega) (fun v w h ht => ?_) v w h ht
 refine (draw_roll_no (find1 x) (by omega) hR (L1_len x) (L1_six x) v w h ht).mono fun e w' hr => ⟨_, hr.1, hr.2⟩
end Go.Proofs.YtgipnbeipfhekaaGreatDoor.TopC
namespace Go.Proofs.YtgipnbeipfhekaaGreatDoor.TopC
open Go.RowKit Go.Proofs.YtgipnbeipfhekaaGreatDoor Go.Proofs.YtgipnbeipfhekaaGreatDoor.Base Go.Proofs.YtgipnbeipfhekaaGreatDoor.Mem Go.Proofs.YtgipnbeipfhekaaGreatDoor.MemS Go.Proofs.YtgipnbeipfhekaaGreatDoor.LabM Go.Proofs.YtgipnbeipfhekaaGreatDoor.LabV Go.Proofs.YtgipnbeipfhekaaGreatDoor.StM Go.Proofs.YtgipnbeipfhekaaGreatDoor.Str Go.Proofs.YtgipnbeipfhekaaGreatDoor.StTx Go.Proofs.YtgipnbeipfhekaaGreatDoor.Dec Go.Proofs.YtgipnbeipfhekaaGreatDoor.Val Go.Proofs.YtgipnbeipfhekaaGreatDoor.Rd Go.Proofs.YtgipnbeipfhekaaGreatDoor.Skip Go.Proofs.YtgipnbeipfhekaaGreatDoor.Take Go.Proofs.YtgipnbeipfhekaaGreatDoor.Face Go.Proofs.YtgipnbeipfhekaaGreatDoor.CutP Go.Proofs.YtgipnbeipfhekaaGreatDoor.RecJ Go.Proofs.YtgipnbeipfhekaaGreatDoor.CarM Go.Proofs.YtgipnbeipfhekaaGreatDoor.LcA Go.Proofs.YtgipnbeipfhekaaGreatDoor.LcC Go.Proofs.YtgipnbeipfhekaaGreatDoor.LcG Go.Proofs.YtgipnbeipfhekaaGreatDoor.TopM Go.Proofs.YtgipnbeipfhekaaGreatDoor.StrM
set_option linter.unusedVariables false
def L0 : Lb := ([], [])
theorem lab0 (w : World) : LabAt w (.agg #[.slice none 0 0, .slice none 0 0]) L0 := ⟨none, 0, none, 0, rfl, fun h => absurd h (Nat.lt_irrefl 0), fun h => absurd h (Nat.lt_irrefl 0), fun _ _ _ e => (by cases e), fun _ _ _ e => (by cases e)⟩
noncomputable def cycT (x : St) : Tx := decI (preS x.K x.W x.T x.m x.f x.a x.s) ++ 32 :: decI (perS x.K x.W x.T x.m x.f x.a x.s)
structure Five (x x1 z : St) (n f : Nat) (b v o : Tx) : Prop where
 h1 : lineR L0 (l1 x) = (L1 x, tOk)
 h2 : lineR (L1 x) l2 = (L1 x, cycT x)
 h3 : lineR (L1 x) (lN wBits n) = (L1 x1, b)
 h4 : lineR (L1 x1) (lN wLevels n) = (L1 x1, v)
 h5 : lineR (L1 x1) (lN wRoll f) = (L1 z, o)
 c1 : CarC L0 (l1 x)
 c2 : CarC (L1 x) l2
 c3 : CarC (L1 x) (lN wBits n)
 c4 : CarC (L1 x1) (lN wLevels n)
 c5 : CarC (L1 x1) (lN wRoll f)
noncomputable def outT (x : St) (b v o : Tx) : Tx := tOk ++ 10 :: (cycT x ++ 10 :: (b ++ 10 :: (v ++ 10 :: (o ++ [10]))))
section
variable {x x1 z : St} {n f : Nat} {b v o : Tx}
theorem k1 (h : Five x x1 z n f b v o) : LkAt L0 (topL x n f) 1 = (L1 x, tOk ++ [10]) := by rw [lk_succ L0 (x := l1 x) rfl, lk_zero, h.h1]; rfl
theorem k2 (h : Five x x1 z n f b v o) : LkAt L0 (topL x n f) 2 = (L1 x, tOk ++ [10] ++ (cycT x ++ [10])) := by rw [lk_succ L0 (x := l2) rfl, k1 h, h.h2]
theorem k3 (h : Five x x1 z n f b v o) : LkAt L0 (topL x n f) 3 = (L1 x1, tOk ++ [10] ++ (cycT x ++ [10]) ++ (b ++ [10])) := by rw [lk_succ L0 (x := lN wBits n) rfl, k2 h, h.h3]
theorem k4 (h : Five x x1 z n f b v o) : LkAt L0 (topL x n f) 4 = (L1 x1, tOk ++ [10] ++ (cycT x ++ [10]) ++ (b ++ [10]) ++ (v ++ [10])) := by rw [lk_succ L0 (x := lN wLevels n) rfl, k3 h, h.h4]
theorem k5 (h : Five x x1 z n f b v o) : LkAt L0 (topL x n f) 5 = (L1 z, outT x b v o) := by
 rw [lk_succ L0 (x := lN wRoll f) rfl, k4 h, h.h5]
 simp [outT]
theorem no10_app {a b : Tx} (ha : ∀ c ∈ a, c ≠ 10) (hb : ∀ c ∈ b, c ≠ 10) : ∀ c ∈ a ++ b, c ≠ 10 := fun c hc => (List.mem_append.1 hc).elim (ha c) (hb c)
theorem no10_lN {c : Tx} (n : Nat) (hc : ∀ y ∈ c, y ≠ 10) : ∀ y ∈ lN c n, y ≠ 10 := by
 unfold lN
 rw [show c ++ 32 :: (nX ++ 32 :: Lib.decDigits n) = (c ++ [32, 120, 32]) ++ Lib.decDigits n by simp [nX]]
 exact no10_app (no10_app hc (by decide)) fun y hy => ne10 (dec_byte n y hy).1
theorem top_yes (h : Five x x1 z n f b v o) (hx : x.ok = true) (hn : n ≤ 30) (hf : f ≤ 16) (hcy : (cycT x).length ≤ 100) (hb : b.length ≤ 100) (hv : v.length ≤ 100000) (ho : o.length ≤ 100000) (w : World) (ht : Tabs w) :
  Calls Tryz.prog 17 #[.agg #[.slice none 0 0, .slice none 0 0], .string (tx (script (topL x n f)))] w fun e w' => ∃ v', e = .returned (.tuple #[v', .string (tx (outT x b v o)), .bool true]) ∧ LabAt w' v' (L1 z) ∧ Below w.heap.size w w' := by
 have hl := text_small hx
 have hd := dec_len (u := n) (by omega)
 have hd2 := dec_len (u := f) (by omega)
 have e5 := k5 h
 have h10 : ∀ y ∈ topL x n f, ∀ c ∈ y, c ≠ 10 := fun y hy => by
  simp only [topL, List.mem_cons, List.not_mem_nil, or_false] at hy
  rcases hy with rfl | rfl | rfl | rfl | rfl
  ·unfold l1 tS
   rw [show wSet ++ 32 :: (nX ++ 32 :: textS x.K x.W x.T x.m x.f x.a x.s) = (wSet ++ [32, 120, 32]) ++ textS x.K x.W x.T x.m x.f x.a x.s by simp [nX]]
   exact no10_app (by decide) fun c hc => ne10 (text_byte _ _ _ _ _ _ _ c hc)
  ·decide
  ·exact no10_lN n (by decide)
  ·exact no10_lN n (by decide)
  ·exact no10_lN f (by decide)
 have hsz : (script (topL x n f)).length ≤ 4000 := by
  simp [script, topL, l1, l2, lN, tS, wSet, wCycle, wBits, wLevels, wRoll, nX]
  omega
 have hC : ∀ k y, (topL x n f)[k]? = some y → CarC (LkAt L0 (topL x n f) k).1 y := fun k y hy => by
  match k, hy with
  | 0, hy => injection hy with hy; subst hy; exact h.c1
  | 1, hy => injection hy with hy; subst hy; rw [k1 h]; exact h.c2
  | 2, hy => injection hy with hy; subst hy; rw [k2 h]; exact h.c3
  | 3, hy => injection hy with hy; subst hy; rw [k3 h]; exact h.c4
  | 4, hy => injection hy with hy; subst hy; rw [k4 h]; exact h.c5
  | k + 5, hy => simp [topL] at hy
 have hlo : ∀ k y, (topL x n f)[k]? = some y → (LkAt L0 (topL x n f) k).2.length + (lineR (LkAt L0 (topL x n f) k).1 y).2.length + 1 ≤ 100000000 := fun k y hy => by
  match k, hy with
  | 0, hy => injection hy with hy; subst hy; rw [lk_zero, h.h1]; simp [tOk]
  | 1, hy => injection hy with hy; subst hy; rw [k1 h, h.h2]; simp [tOk]; omega
  | 2, hy => injection hy with hy; subst hy; rw [k2 h, h.h3]; simp [tOk]; omega
  | 3, hy => injection hy with hy; subst hy; rw [k3 h, h.h4]; simp [tOk]; omega
  | 4, hy => injection hy with hy; subst hy; rw [k4 h, h.h5]; simp [tOk]; omega
  | k + 5, hy => simp [topL] at hy
 have hlen : (topL x n f).length = 5 := rfl
 have hr := runLab_yes (L := L0) (ls := topL x n f) (by simp [topL]) h10 (by decide +kernel) hsz (by decide) (by decide) (fun i hi => absurd hi (Nat.not_lt_zero i)) hC (by rw [hlen, e5]; simp [outT, tOk]; omega) hlo (by rw [hlen, e5]; exact ⟨by show 1 ≤ 1000; decide, by show 1 ≤ 1000; decide⟩) _ w (lab0 w) ht
 rw [hlen, e5] at hr
 exact hr
end
end Go.Proofs.YtgipnbeipfhekaaGreatDoor.TopC
namespace Go.Proofs.YtgipnbeipfhekaaGreatDoor.TlA
open Go.RowKit Go.Proofs.YtgipnbeipfhekaaGreatDoor Go.Proofs.YtgipnbeipfhekaaGreatDoor.Base Go.Proofs.YtgipnbeipfhekaaGreatDoor.Mem Go.Proofs.YtgipnbeipfhekaaGreatDoor.MemF Go.Proofs.YtgipnbeipfhekaaGreatDoor.GiveM Go.Proofs.YtgipnbeipfhekaaGreatDoor.NatM Go.Proofs.YtgipnbeipfhekaaGreatDoor.Nat32 Go.Proofs.YtgipnbeipfhekaaGreatDoor.RatM Go.Proofs.YtgipnbeipfhekaaGreatDoor.Ratio Go.Proofs.YtgipnbeipfhekaaGreatDoor.ValF Go.Proofs.YtgipnbeipfhekaaGreatDoor.LvM Go.Proofs.YtgipnbeipfhekaaGreatDoor.LvQ Go.Proofs.YtgipnbeipfhekaaGreatDoor.LvO Go.Proofs.YtgipnbeipfhekaaGreatDoor.LvT Go.Proofs.YtgipnbeipfhekaaGreatDoor.LvW Go.Proofs.YtgipnbeipfhekaaGreatDoor.LvF Go.Proofs.YtgipnbeipfhekaaGreatDoor.LvG Go.Proofs.YtgipnbeipfhekaaGreatDoor.LpK
open Go.Proofs.YtgipnbeipfhekaaGreatDoor.Blk (Blk)
open Go.Proofs.YtgipnbeipfhekaaGreatDoor.Inv (not_slice not_bool)
set_option linter.unusedVariables false
theorem vf_d {n x : Nat} (hx : x ≤ 2 ^ n) (hn : n ≤ 50) : vfB (nD n x) (dD n x) = true := vfB_true.2 (nD_vf hx hn)
theorem closF_any (n d : Int) (w : World) : Calls Tryz.prog 166 #[.agg #[.int .i64 n, .int .i64 d]] w fun e w' => e = .returned (.bool (!vfB n d)) ∧ Below w.heap.size w w' := by
 have HV := Lib.hid (validI_any n d (w.alloc (.cells #[.int .i64 n, .int .i64 d] 49)))
 have HB : Hid (Below w.heap.size w (w.alloc (.cells #[.int .i64 n, .int .i64 d] 49))) := Lib.hid ((Below.refl _ _).alloc (Nat.le_refl _) _)
 go_enter Tryz.func166, Tryz.ntmps166
 go_wp2_with fail
 refine HV.out.mono ?_
 rintro e w1 ⟨rfl, hb1⟩
 have HB1 := Lib.hid (Base.Below.nextA HB.out hb1)
 clear hb1 HB HV
 go_wp2
 go_ret
 exact ⟨rfl, HB1.out⟩
theorem closP_any (n d : Int) (hp : 0 < n) (w : World) : Calls Tryz.prog 108 #[.agg #[.int .i64 n, .int .i64 d]] w fun e w' => e = .returned (.bool false) ∧ Below w.heap.size w w' := by
 have HB : Hid (Below w.heap.size w (w.alloc (.cells #[.int .i64 n, .int .i64 d] 49))) := Lib.hid ((Below.refl _ _).alloc (Nat.le_refl _) _)
 go_enter Tryz.func108, Tryz.ntmps108
 go_wp2
 go_ret
 exact ⟨ret_bool (by simp; omega), HB.out⟩
def NoneF (k : Nat) (n : Nat) (fs : List Int) : Prop := ∀ j, j < n → ∀ W, Calls Tryz.prog k #[.agg #[.int .i64 (fs.getD (2 * j) 0), .int .i64 (fs.getD (2 * j + 1) 0)]] W fun e w' => e = .returned (.bool false) ∧ Below W.heap.size W w'
set_option maxHeartbeats 1000000 in
set_option maxRecDepth 100000 in
theorem idxA_no {A : Option Addr} {c B n : Nat} {fs : List Int} (w : World) (hx : RdF w B A n fs) (hB : B ≤ w.heap.size) (hn : n ≤ 1099511627776) (hk : NoneF 166 n fs) :
  Calls Tryz.prog 167 #[.slice A n c, .func (Fn.func 166) #[] #[]] w fun e w' => e = .returned (.int .i64 (-1)) ∧ Below w.heap.size w w' := by
 have HX := Lib.hid (hx.more hB)
 have HK := Lib.hid hk
 clear hx hk
 go_enter Tryz.func167, Tryz.ntmps167
 go_wp2
 go_loopw [8] (fun iv wr => ∃ i : Nat, iv = .int .i64 (i : Int) ∧ i ≤ n ∧ Hid (Below w.heap.size w wr)) (fun iv _ => n - (intOf iv).toNat)
 case atStart => exact ⟨0, rfl, Nat.zero_le _, Lib.hid (Below.refl _ _)⟩
 case round =>
  obtain ⟨i, rfl, hi, HB⟩ := hrel
  by_cases hlt : i < n
  ·obtain ⟨b, off, rfl, hbl, g1, g2⟩ := (HX.out.below HB.out (Nat.le_refl _)).at hlt
   have HV := Lib.hid (HK.out i hlt)
   have hsz := HB.out.size
   generalize fs.getD (2 * i) 0 = x0 at *
   generalize fs.getD (2 * i + 1) 0 = x1 at *
   go_wp2_with fail
   refine (HV.out _).mono ?_
   rintro e w1 ⟨rfl, hb1⟩
   have HB1 := Lib.hid (Base.Below.nextA HB.out hb1)
   clear hb1 HB g1 g2 HV
   go_wp2
   go_roundw
   case rel => exact ⟨i + 1, by simp, hlt, HB1⟩
   case measure => simp [intOf]; omega
  ·obtain rfl : i = n := by omega
   go_wp2
   go_ret
   exact ⟨rfl, HB.out⟩
theorem ctA_no {A : Option Addr} {c B n : Nat} {fs : List Int} (w : World) (hx : RdF w B A n fs) (hB : B ≤ w.heap.size) (hn : n ≤ 1099511627776) (hk : NoneF 166 n fs) :
  Calls Tryz.prog 107 #[.slice A n c, .func (Fn.func 166) #[] #[]] w fun e w' => e = .returned (.bool false) ∧ Below w.heap.size w w' := by
 have hc := Lib.hid (idxA_no (c := c) w hx hB hn hk)
 clear hx hk
 go_enter Tryz.func107, Tryz.ntmps107
 go_wp2_with fail
 refine hc.out.mono ?_
 rintro e w' ⟨rfl, hbl⟩
 have HB := Lib.hid hbl
 clear hbl
 go_wp2
 go_ret
 exact ⟨ret_bool (by simp), HB.out⟩
set_option maxHeartbeats 1000000 in
set_option maxRecDepth 100000 in
theorem idxP_no {A : Option Addr} {c B n : Nat} {fs : List Int} (w : World) (hx : RdF w B A n fs) (hB : B ≤ w.heap.size) (hn : n ≤ 1099511627776) (hk : NoneF 108 n fs) :
  Calls Tryz.prog 167 #[.slice A n c, .func (Fn.func 108) #[] #[]] w fun e w' => e = .returned (.int .i64 (-1)) ∧ Below w.heap.size w w' := by
 have HX := Lib.hid (hx.more hB)
 have HK := Lib.hid hk
 clear hx hk
 go_enter Tryz.func167, Tryz.ntmps167
 go_wp2
 go_loopw [8] (fun iv wr => ∃ i : Nat, iv = .int .i64 (i : Int) ∧ i ≤ n ∧ Hid (Below w.heap.size w wr)) (fun iv _ => n - (intOf iv).toNat)
 case atStart => exact ⟨0, rfl, Nat.zero_le _, Lib.hid (Below.refl _ _)⟩
 case round =>
  obtain ⟨i, rfl, hi, HB⟩ := hrel
  by_cases hlt : i < n
  ·obtain ⟨b, off, rfl, hbl, g1, g2⟩ := (HX.out.below HB.out (Nat.le_refl _)).at hlt
   have HV := Lib.hid (HK.out i hlt)
   have hsz := HB.out.size
   generalize fs.getD (2 * i) 0 = x0 at *
   generalize fs.getD (2 * i + 1) 0 = x1 at *
   go_wp2_with fail
   refine (HV.out _).mono ?_
   rintro e w1 ⟨rfl, hb1⟩
   have HB1 := Lib.hid (Base.Below.nextA HB.out hb1)
   clear hb1 HB g1 g2 HV
   go_wp2
   go_roundw
   case rel => exact ⟨i + 1, by simp, hlt, HB1⟩
   case measure => simp [intOf]; omega
  ·obtain rfl : i = n := by omega
   go_wp2
   go_ret
   exact ⟨rfl, HB.out⟩
theorem ctP_no {A : Option Addr} {c B n : Nat} {fs : List Int} (w : World) (hx : RdF w B A n fs) (hB : B ≤ w.heap.size) (hn : n ≤ 1099511627776) (hk : NoneF 108 n fs) :
  Calls Tryz.prog 107 #[.slice A n c, .func (Fn.func 108) #[] #[]] w fun e w' => e = .returned (.bool false) ∧ Below w.heap.size w w' := by
 have hc := Lib.hid (idxP_no (c := c) w hx hB hn hk)
 clear hx hk
 go_enter Tryz.func107, Tryz.ntmps107
 go_wp2_with fail
 refine hc.out.mono ?_
 rintro e w' ⟨rfl, hbl⟩
 have HB := Lib.hid hbl
 clear hbl
 go_wp2
 go_ret
 exact ⟨ret_bool (by simp), HB.out⟩
theorem arF_yes {A : Option Addr} {c B n : Nat} {fs : List Int} (w : World) (hx : RdF w B A n fs) (hB : B ≤ w.heap.size) (hn : n ≤ 1099511627776) (hv : ∀ j, j < n → vfB (fs.getD (2 * j) 0) (fs.getD (2 * j + 1) 0) = true) :
  Calls Tryz.prog 106 #[.slice A n c] w fun e w' => e = .returned (.bool true) ∧ Below w.heap.size w w' := by
 have hc := Lib.hid (ctA_no (c := c) w hx hB hn fun j hj W => (closF_any _ _ W).mono fun e w' h => by rw [hv j hj] at h; exact h)
 clear hx hv
 go_enter Tryz.func106, Tryz.ntmps106
 go_wp2_with fail
 refine hc.out.mono ?_
 rintro e w' ⟨rfl, hbl⟩
 have HB := Lib.hid hbl
 clear hbl
 go_wp2
 go_ret
 exact ⟨ret_bool (by simp), HB.out⟩
end Go.Proofs.YtgipnbeipfhekaaGreatDoor.TlA
namespace Go.Proofs.YtgipnbeipfhekaaGreatDoor.TlA
open Go.RowKit Go.Proofs.YtgipnbeipfhekaaGreatDoor Go.Proofs.YtgipnbeipfhekaaGreatDoor.Base Go.Proofs.YtgipnbeipfhekaaGreatDoor.Mem Go.Proofs.YtgipnbeipfhekaaGreatDoor.MemF Go.Proofs.YtgipnbeipfhekaaGreatDoor.GiveM Go.Proofs.YtgipnbeipfhekaaGreatDoor.NatM Go.Proofs.YtgipnbeipfhekaaGreatDoor.Nat32 Go.Proofs.YtgipnbeipfhekaaGreatDoor.RatM Go.Proofs.YtgipnbeipfhekaaGreatDoor.Ratio Go.Proofs.YtgipnbeipfhekaaGreatDoor.ValF Go.Proofs.YtgipnbeipfhekaaGreatDoor.LvM Go.Proofs.YtgipnbeipfhekaaGreatDoor.LvQ Go.Proofs.YtgipnbeipfhekaaGreatDoor.LvO Go.Proofs.YtgipnbeipfhekaaGreatDoor.LvT Go.Proofs.YtgipnbeipfhekaaGreatDoor.LvW Go.Proofs.YtgipnbeipfhekaaGreatDoor.LvF Go.Proofs.YtgipnbeipfhekaaGreatDoor.LvG Go.Proofs.YtgipnbeipfhekaaGreatDoor.LpK
open Go.Proofs.YtgipnbeipfhekaaGreatDoor.Blk (Blk)
open Go.Proofs.YtgipnbeipfhekaaGreatDoor.Inv (not_slice not_bool)
set_option linter.unusedVariables false
theorem rdF2 (W : World) (a b c d : Int) : RdF (W.alloc (.cells #[.int .i64 a, .int .i64 b, .int .i64 c, .int .i64 d] 49)) (W.alloc (.cells #[.int .i64 a, .int .i64 b, .int .i64 c, .int .i64 d] 49)).heap.size (some ⟨W.heap.size, 0, none⟩) 2 [a, b, c, d] := fun _ => by
 refine ⟨_, _, rfl, by simp, fun i hi => ?_⟩
 have K := Blk.new W 49 #[.int .i64 a, .int .i64 b, .int .i64 c, .int .i64 d]
 match i, hi with
 | 0, _ => exact K.at 0 rfl
 | 1, _ => exact K.at 1 rfl
 | 2, _ => exact K.at 2 rfl
 | 3, _ => exact K.at 3 rfl
set_option maxHeartbeats 4000000 in
set_option maxRecDepth 100000 in
theorem comb_d {n x y : Nat} (hn : n ≤ 50) (hs : x + y ≤ 2 ^ n) (w : World) :
  Calls Tryz.prog 212 #[.agg #[.int .i64 (nD n x), .int .i64 (dD n x)], .agg #[.int .i64 (nD n y), .int .i64 (dD n y)], .func (Fn.func 160) #[] #[]] w fun e w' => e = .returned (.tuple #[.agg #[.int .i64 (nD n (x + y)), .int .i64 (dD n (x + y))], .bool true]) ∧ Below w.heap.size w w' := by
 have hx : x ≤ 2 ^ n := by omega
 have hy : y ≤ 2 ^ n := by omega
 have HRx := Lib.hid (fun W => rof_d hx hn W)
 have HRy := Lib.hid (fun W => rof_d hy hn W)
 have HPl : Hid (∀ W u v, IsRt W (dy n x) u → IsRt W (dy n y) v → Calls Tryz.prog 160 #[u, v] W (RV (dy n (x + y)) W)) := Lib.hid fun W u v h1 h2 => by
  have := ratPlus W h1 h2 (dy_sz hx hn) (dy_sz hy hn)
  rwa [dy_add] at this
 have HFr : Hid (∀ W u, IsRt W (dy n (x + y)) u → Calls Tryz.prog 156 #[u] W fun e w' => e = .returned (.tuple #[.agg #[.int .i64 (nD n (x + y)), .int .i64 (dD n (x + y))], .bool true]) ∧ Below W.heap.size W w') := Lib.hid fun W u h => by
  have := ratFraction W h
  rw [dy_small hs hn] at this
  exact this
 have hvx := vf_d hx hn
 have hvy := vf_d hy hn
 have hv : ∀ j, j < 2 → vfB ([nD n x, dD n x, nD n y, dD n y].getD (2 * j) 0) ([nD n x, dD n x, nD n y, dD n y].getD (2 * j + 1) 0) = true := fun j hj => by
  match j, hj with
  | 0, _ => exact hvx
  | 1, _ => exact hvy
 have HAr := Lib.hid (fun W => arF_yes (c := 2) _ (rdF2 W (nD n x) (dD n x) (nD n y) (dD n y)) (Nat.le_refl _) (by decide) hv)
 obtain ⟨x1, hx1⟩ : ∃ z, z = nD n x := ⟨_, rfl⟩
 obtain ⟨x2, hx2⟩ : ∃ z, z = dD n x := ⟨_, rfl⟩
 obtain ⟨y1, hy1⟩ : ∃ z, z = nD n y := ⟨_, rfl⟩
 obtain ⟨y2, hy2⟩ : ∃ z, z = dD n y := ⟨_, rfl⟩
 obtain ⟨z1, hz1⟩ : ∃ z, z = nD n (x + y) := ⟨_, rfl⟩
 obtain ⟨z2, hz2⟩ : ∃ z, z = dD n (x + y) := ⟨_, rfl⟩
 rw [← hx1, ← hx2, ← hy1, ← hy2] at HAr
 rw [← hx1, ← hx2] at HRx
 rw [← hy1, ← hy2] at HRy
 rw [← hz1, ← hz2] at HFr
 rw [← hx1, ← hx2, ← hy1, ← hy2, ← hz1, ← hz2]
 clear hx1 hx2 hy1 hy2 hz1 hz2 hvx hvy hv hx hy hs
 obtain ⟨W3, hW3⟩ : ∃ W2, W2 = ((w.alloc (.cells #[.int .i64 x1, .int .i64 x2] 49)).alloc (.cells #[.int .i64 y1, .int .i64 y2] 49)).alloc (.cells #[.int .i64 0, .int .i64 0] 49) := ⟨_, rfl⟩
 have b3 : Below w.heap.size w W3 := by rw [hW3]; exact (((Below.refl _ _).alloc (Nat.le_refl _) _).alloc (by simp) _).alloc (by simp; omega) _
 have K0 : Hid (Blk W3 w.heap.size 49 #[.int .i64 x1, .int .i64 x2]) := Lib.hid (by rw [hW3]; exact ((Blk.new w _ _).alloc _).alloc _)
 have K1 : Hid (Blk W3 (w.heap.size + 1) 49 #[.int .i64 y1, .int .i64 y2]) := Lib.hid (by rw [hW3]; exact (Blk.newAt _ _ (by simp)).alloc _)
 have KR : Hid (Blk W3 (w.heap.size + 2) 49 #[.int .i64 0, .int .i64 0]) := Lib.hid (by rw [hW3]; exact Blk.newAt _ _ (by simp))
 have HB := Lib.hid b3
 have d0 := K0.out.at 0 (v := .int .i64 x1) rfl
 have d1 := K0.out.at 1 (v := .int .i64 x2) rfl
 have d2 := K1.out.at 0 (v := .int .i64 y1) rfl
 have d3 := K1.out.at 1 (v := .int .i64 y2) rfl
 rw [hW3] at d0 d1 d2 d3
 have HW := Lib.hid hW3
 have HS3 : Hid (W3.heap.size = w.heap.size + 1 + 1 + 1) := Lib.hid (by rw [hW3]; simp)
 clear hW3 b3
 go_enter Tryz.func212, Tryz.ntmps212
 go_wp2_with fail
 rw [← HW.out]
 have hA3 := HAr.out W3
 rw [HS3.out] at hA3
 refine hA3.mono ?_
 rintro e w4 ⟨rfl, hb4⟩
 have hb5 := ((Below.refl W3.heap.size W3).alloc (Nat.le_refl _) (.cells #[.int .i64 x1, .int .i64 x2, .int .i64 y1, .int .i64 y2] 49)).trans (hb4.mono (by simp))
 replace K0 := Lib.hid (K0.out.belowS hb5)
 replace K1 := Lib.hid (K1.out.belowS hb5)
 replace KR := Lib.hid (KR.out.belowS hb5)
 replace HB := Lib.hid (Base.Below.nextA HB.out hb5)
 clear hb4 hb5 d0 d1 d2 d3 HW HAr hA3 HS3
 go_wp2_with fail
 refine Rel.wp_region_rel 9 (by kernel_rfl) (by kernel_rfl) (fun F hF => ?_)
 simp only [List.take_succ_cons, List.take_zero, List.drop_succ_cons, List.drop_zero, Rel.putL] at hF ⊢
 have HF := Lib.hid hF
 clear hF
 have uv := @Rel.upon_value Tryz.prog
 have ue := @Rel.upon_enter Tryz.prog
 apply Rel.rel_pure
 apply Exists.intro
 refine ⟨fun vs wq hq hdp R hR => ?_, ?_⟩
 ·(rw [HF.out, Rel.stepAt_eq]; clear hdp; skip; go_simp; exact hR)
 apply Rel.rel_pure
 apply Exists.intro
 refine ⟨fun vs wq hq hdp R hR => ?_, ?_⟩
 ·(rw [HF.out, Rel.stepAt_eq]; clear hdp; have x0 := (K0.out.belowS hq).at 0 (v := .int .i64 x1) rfl; have x1 := (K0.out.belowS hq).at 1 (v := .int .i64 x2) rfl; go_simp; exact hR)
 refine Rel.rel_law (S := fun v w' => IsRt w' (dy n x) v) (isRtM (dy n x)) (fun vs wq hq hdp => ?_) ?_
 ·(rw [HF.out, Rel.stepAt_eq]; have qd1 : vs 1 = _ := Rel.dep hdp 1 (by kernel_rfl); clear hdp; skip; go_simp; refine (HRx.out _).mono ?_; rintro e w7 h; obtain ⟨v, rfl, hv, hb⟩ := h.is; exact ⟨_, rfl, hv, hb⟩)
 apply Rel.rel_pure
 apply Exists.intro
 refine ⟨fun vs wq hq hdp R hR => ?_, ?_⟩
 ·(rw [HF.out, Rel.stepAt_eq]; clear hdp; have y0 := (K1.out.belowS hq).at 0 (v := .int .i64 y1) rfl; have y1 := (K1.out.belowS hq).at 1 (v := .int .i64 y2) rfl; go_simp; exact hR)
 refine Rel.rel_law (S := fun v w' => IsRt w' (dy n y) v) (isRtM (dy n y)) (fun vs wq hq hdp => ?_) ?_
 ·(rw [HF.out, Rel.stepAt_eq]; have qd3 : vs 3 = _ := Rel.dep hdp 3 (by kernel_rfl); clear hdp; skip; go_simp; refine (HRy.out _).mono ?_; rintro e w7 h; obtain ⟨v, rfl, hv, hb⟩ := h.is; exact ⟨_, rfl, hv, hb⟩)
 refine Rel.rel_law (S := fun v w' => IsRt w' (dy n (x + y)) v) (isRtM (dy n (x + y))) (fun vs wq hq hdp => ?_) ?_
 ·(rw [HF.out, Rel.stepAt_eq]; have qd0 : vs 0 = _ := Rel.dep hdp 0 (by kernel_rfl); have qd2 : IsRt wq (dy n x) (vs 2) := Rel.dep hdp 2 (by kernel_rfl); have qd4 : IsRt wq (dy n y) (vs 4) := Rel.dep hdp 4 (by kernel_rfl); clear hdp; skip; go_simp; refine (HPl.out wq _ _ qd2 qd4).mono ?_; rintro e w7 h; obtain ⟨v, rfl, hv, hb⟩ := h.is; exact ⟨_, rfl, hv, hb⟩)
 apply Rel.rel_same
 apply Exists.intro
 refine ⟨fun vs wq hq hdp => ?_, ?_⟩
 ·(rw [HF.out, Rel.stepAt_eq]; have qd5 : IsRt wq (dy n (x + y)) (vs 5) := Rel.dep hdp 5 (by kernel_rfl); clear hdp; skip; go_simp; refine (HFr.out wq _ qd5).mono ?_; rintro e w7 ⟨rfl, hb⟩; exact ⟨_, rfl, rfl, hb⟩)
 apply Rel.rel_pure
 apply Exists.intro
 refine ⟨fun vs wq hq hdp R hR => ?_, ?_⟩
 ·(rw [HF.out, Rel.stepAt_eq]; have qd6 : vs 6 = _ := Rel.dep hdp 6 (by kernel_rfl); clear hdp; skip; go_simp; exact hR)
 apply Rel.rel_pure
 apply Exists.intro
 refine ⟨fun vs wq hq hdp R hR => ?_, ?_⟩
 ·(rw [HF.out, Rel.stepAt_eq]; have qd6 : vs 6 = _ := Rel.dep hdp 6 (by kernel_rfl); clear hdp; skip; go_simp; exact hR)
 refine Rel.rel_end (fun vs wq hq hall => ?_)
 rw [HF.out]
 have qe0 : vs 0 = _ := Rel.fin hall 0 (by decide)
 have qe1 : vs 1 = _ := Rel.fin hall 1 (by decide)
 have qe2 : IsRt wq (dy n x) (vs 2) := Rel.fin hall 2 (by decide)
 have qe3 : vs 3 = _ := Rel.fin hall 3 (by decide)
 have qe4 : IsRt wq (dy n y) (vs 4) := Rel.fin hall 4 (by decide)
 have qe5 : IsRt wq (dy n (x + y)) (vs 5) := Rel.fin hall 5 (by decide)
 have qe6 : vs 6 = _ := Rel.fin hall 6 (by decide)
 have qe7 : vs 7 = _ := Rel.fin hall 7 (by decide)
 have qe8 : vs 8 = _ := Rel.fin hall 8 (by decide)
 clear hall HF uv ue
 have KRq := KR.out.belowS hq
 have HBq := Base.Below.nextA HB.out hq
 have z0 := KRq.frz 0
 have z3 := KRq.frz 1
 have c0 := KRq.at 0 (v := .int .i64 0) rfl
 have c1 := KRq.at 1 (v := .int .i64 0) rfl
 have KK := (KRq.setTo 0 (.int .i64 z1) rfl).setTo 1 (.int .i64 z2) rfl
 have k0 := KK.at 0 (v := .int .i64 z1) rfl
 have k1 := KK.at 1 (v := .int .i64 z2) rfl
 have HFIN := Lib.hid ((HBq.setCell (p := ⟨w.heap.size + 2, 0, none⟩) (by simp) (.int .i64 z1)).setCell (p := ⟨w.heap.size + 2, 1, none⟩) (by simp) (.int .i64 z2))
 clear KK HBq KRq hq K0 K1 KR HB HRx HRy HPl HFr qe5
 go_wp2
 refine bodyPost_ret (v := .tuple #[.agg #[.int .i64 z1, .int .i64 z2], .bool true]) (by simp [results, Tryz.results212, go_sem, k0, k1]) rfl ?_
 exact ⟨rfl, HFIN.out⟩
end Go.Proofs.YtgipnbeipfhekaaGreatDoor.TlA

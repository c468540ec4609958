/- The program's naturals: the zeros at the front of a digit; a copy of digits. -/
import Derived.Test.YtgipnbeipfhekaaGreatDoorMgFnL08
import Derived.Shelf.Lay
import Derived.Shelf.Small.Bits
import Derived.Lib.ItoaNum
import Derived.Lib.SliceRun
import Derived.Deep.AppendSrc
import Derived.Laws.CopyOwn
import Derived.Test.YtgipnbeipfhekaaGreatDoorMgFnL07
import Derived.Deep.RegionHeld3
import Derived.Test.YtgipnbeipfhekaaGreatDoorMgFnL06
import Derived.Deep.Cut
import Derived.Laws.StructEq
import Derived.Test.YtgipnbeipfhekaaGreatDoorMgFnL00
set_option linter.unusedVariables false
set_option linter.unusedSimpArgs false
set_option maxRecDepth 100000
set_option maxHeartbeats 4000000
namespace Go.Proofs
open Go.Shelf
def YtgipnbeipfhekaaGreatDoor.lays133_ren : Go.Shelf.Ren := ⟨fun | 133 => 249 | 128 => 260 | n => n, fun | 51 => 221 | 3 => 3 | 4 => 4 | 46 => 118 | 5 => 5 | 9 => 9 | n => n, fun | n => n⟩
theorem YtgipnbeipfhekaaGreatDoor.lays133 : Go.Proofs.Lays.n133 Tryz.prog YtgipnbeipfhekaaGreatDoor.lays133_ren := {
 mixed := by kernel_rfl
 f128 := Tryz.func260.trans (congrArg some (by kernel_rfl))
 f133 := Tryz.func249.trans (congrArg some (by kernel_rfl))
 t3 := Tryz.underlying3
 a3 := Tryz.isAgg3
 z3 := Tryz.sizeOf3
 v3 := Tryz.zeroValue3
 t4 := Tryz.underlying4
 a4 := Tryz.isAgg4
 z4 := Tryz.sizeOf4
 v4 := Tryz.zeroValue4
 t5 := Tryz.underlying5
 a5 := Tryz.isAgg5
 z5 := Tryz.sizeOf5
 v5 := Tryz.zeroValue5
 t9 := Tryz.underlying9
 a9 := Tryz.isAgg9
 z9 := Tryz.sizeOf9
 v9 := Tryz.zeroValue9
 t46 := Tryz.underlying118
 a46 := Tryz.isAgg118
 z46 := Tryz.sizeOf118
 v46 := Tryz.zeroValue118
 t51 := Tryz.underlying221
 a51 := Tryz.isAgg221
 z51 := Tryz.sizeOf221
 v51 := Tryz.zeroValue221 }
end Go.Proofs
namespace Go.Proofs.YtgipnbeipfhekaaGreatDoor
namespace Nat32
open Go.RowKit Base Mem NatM
def ClzRet (x : Nat) (w : World) (e : Ending) (w' : World) : Prop := ∃ s : Nat, e = .returned (.int .i64 (s : Int)) ∧ s ≤ 31 ∧ x * 2 ^ s < B32 ∧ w = w'
theorem clz_any (x : Nat) (h0 : 0 < x) (h1 : x < B32) (w : World) : Calls Tryz.prog 249 #[.int .u32 (x : Int)] w (ClzRet x w) := by
 unfold B32 at h1
 refine (Go.Proofs.Any.bits_LeadingZeros32 YtgipnbeipfhekaaGreatDoor.lays133 (x : Int) w (by omega) (by omega)).mono ?_
 rintro e w' ⟨rfl, rfl⟩
 have hb := Lib.bitLenAux_bounds 64 x (by omega) (by omega)
 have hl := Lib.bitLen_le x 32 (by omega) (by omega)
 have e0 : Lib.bitLenAux 64 x = Lib.bitLen x := rfl
 rw [e0] at hb
 have et : (x : Int).toNat = x := Int.toNat_natCast x
 rw [et]
 refine ⟨32 - Lib.bitLen x, ?_, by omega, ?_, rfl⟩
 ·rw [Int.ofNat_sub hl]; rfl
 ·have h := Nat.mul_lt_mul_of_pos_right hb.2.2 (Nat.two_pow_pos (32 - Lib.bitLen x))
  rw [← Nat.pow_add, show Lib.bitLen x + (32 - Lib.bitLen x) = 32 by omega] at h
  exact h
theorem us_one (xs : List Nat) : ∀ u ∈ us xs, u.oneCell' = true := by
 intro u hu
 obtain ⟨x, _, rfl⟩ := List.mem_map.1 hu
 rfl
theorem rdu_news {w : World} {B : Nat} {A : Option Addr} {xs : List Nat} (h : RdU w B A xs) {ad : Addr} (e : A = some ad) : ∀ j u, (us xs)[j]? = some u → w.cell? (ad.add j) = some u := fun j u hj => by
 have hl : j < xs.length := by
  have := (List.getElem?_eq_some_iff.1 hj).1
  rwa [us_len] at this
 obtain ⟨b, off, e2, _, hc⟩ := h (by omega)
 rw [e] at e2
 injection e2 with e2
 subst e2
 rw [us_get xs j hl] at hj
 injection hj with hj
 rw [← hj, Addr.add_lit]
 exact hc j hl
def CopyRet (xs : List Nat) (w : World) (e : Ending) (w' : World) : Prop := ∃ A c, e = .returned (.slice A xs.length c) ∧ xs.length ≤ c ∧ c ≤ 9223372036854775807 ∧ RdU w' w'.heap.size A xs ∧ Below w.heap.size w w'
theorem copy_ret {w w' : World} {v : Value} {xs : List Nat} {o : Obj} (hown : w'.ownsRow w.heap.size 221 1 v xs.length (us xs)) (hg : (w.alloc o).grownBy w' (some w.heap.size)) : CopyRet xs w (.returned v) w' := by
 have h2 : OwnU w' w.heap.size v xs := hown
 have hB := ((Below.refl w.heap.size w).alloc (Nat.le_refl _) o).trans (grown_below hg (fun g e => by injection e with e; omega) (by simp))
 rcases hown.2 with ⟨rfl, h0⟩ | ⟨g, cap, cur, rfl, _, _, h3, h4, _⟩
 ·exact ⟨none, 0, by rw [h0], by omega, by omega, fun hp => by omega, hB⟩
 ·exact ⟨_, cap, rfl, h3, by simpa [maxLen] using h4, h2.rd, hB⟩
theorem clone_u (A : Option Addr) (c B : Nat) (xs : List Nat) (w : World) (hx : RdU w B A xs) (hB : B ≤ w.heap.size) (hl : xs.length ≤ 10000000) (hpos : 0 < xs.length) :
  Calls Tryz.prog 251 #[.slice A xs.length c] w (CopyRet xs w) := by
 obtain ⟨i0, hi, hz0, hz1, hz2⟩ := info_parts infoU
 have q22 : ∀ (w : World) (a : Option Addr) (n c n' c' : Nat), (binOp .eql 145 (.slice a n c) (.slice none n' c')).run Tryz.prog w = .ok (.bool a.isNone) w := fun w a n c n' c' => Lib.run_eql_slice_nil w _ _ a n c n' c' Tryz.underlying145
 obtain ⟨b, off, rfl, _, _⟩ := hx hpos
 have HN := J (rdu_news (hx.below ((Below.refl w.heap.size w).alloc (Nat.le_refl _) (.cells #[] 221)) hB) rfl)
 have HW := J (World.ownsRow_made (base := w.heap.size) (e := 221) (size := 1) w #[] 0 (Nat.le_refl _) (Nat.zero_le _) rfl)
 clear hx
 go_enter Tryz.func251, Tryz.ntmps251
 go_wp2_with (at_builtin; refine wpList_append_own_at _ rfl (.tmp 5) (.tmp 6) 145 rfl w.heap.size 221 i0 (.int .u32 0) 1 4 Tryz.underlying145 hi hz0 hz1 hz2 rfl (by decide) _ _ _ rfl HW.out ⟨b, off, none⟩ xs.length c (us xs) rfl ?p1 ?p2 ?p3 ?p4 ?p5 ?p6 ?_)
 try case p1 => simp [us_len]
 try case p2 => exact HN.out
 try case p3 => exact us_one xs
 try case p4 => first | (simp only [maxLen]; omega) | omega
 try case p5 => omega
 try case p6 => first | (simp only [World.size_alloc]; omega) | omega
 intro v' w2 hown' hg' _ he
 have HN2 := J (copy_ret (by simpa using hown') hg')
 clear hown' hg' he
 go_wp2
 go_ret
 exact HN2.out
def RowU (w : World) (g : Nat) (xs : List Nat) : Prop := w.heap[g]? = some (.cells (us xs).toArray 221 (0, 0))
theorem OwnU.row {w : World} {B g n : Nat} {xs : List Nat} (h : OwnU w B (.slice (some ⟨g, 0, none⟩) n n) xs) (hn : xs.length = n) : RowU w g xs := by
 have h' : w.ownsRow B 221 1 (.slice (some ⟨g, 0, none⟩) n n) xs.length (us xs) := h
 rcases h'.2 with ⟨h0, _⟩ | ⟨g', cap, cur, hv, _, hg, _, _, hs, ht⟩
 ·cases h0
 ·injection hv with h1 h2 h3
  injection h1 with h1
  injection h1 with h1
  subst h1 h3
  rw [Nat.mul_one] at hs ht
  rw [List.take_of_length_le (by rw [Array.length_toList]; omega)] at ht
  unfold RowU
  rw [hg, ← ht]
theorem RowU.lt {w : World} {g : Nat} {xs : List Nat} (h : RowU w g xs) : g < w.heap.size := (Array.getElem?_eq_some_iff.1 h).1
theorem RowU.below {w w' : World} {B g : Nat} {xs : List Nat} (h : RowU w g xs) (hb : Below B w w') (hg : g < B) : RowU w' g xs := (hb.block g hg).trans h
theorem RowU.cell {w : World} {g : Nat} {xs : List Nat} (h : RowU w g xs) (i : Nat) (hi : i < xs.length) : w.cell? ⟨g, i, none⟩ = some (.int .u32 ((xs.getD i 0 : Nat) : Int)) ∧ w.frozen? ⟨g, i, none⟩ = false := by
 have h' : w.heap[g]? = some (.cells (us xs).toArray 221 (0, 0)) := h
 have hg := us_get xs i hi
 refine ⟨?_, ?_⟩
 ·simp only [World.cell?, h']
  simpa using hg
 ·simp [World.frozen?, h']
theorem RowU.rd {w : World} {g B : Nat} {xs : List Nat} (h : RowU w g xs) (hg : g < B) (k n : Nat) (hn : k + n ≤ xs.length) : RdU w B (some ⟨g, k, none⟩) ((xs.drop k).take n) := fun h0 => by
 have hl : ((xs.drop k).take n).length = n := by simp; omega
 refine ⟨g, k, rfl, hg, fun i hi => ?_⟩
 rw [hl] at hi
 rw [(h.cell (k + i) (by omega)).1]
 congr 2
 simp [List.getD, hi]
theorem RowU.set {w : World} {g : Nat} {xs : List Nat} (h : RowU w g xs) (i x : Nat) : RowU (w.setCell ⟨g, i, none⟩ (.int .u32 (x : Int))) g (xs.set i x) := by
 have h' : w.heap[g]? = some (.cells (us xs).toArray 221 (0, 0)) := h
 unfold RowU
 rw [← us_set]
 simp [World.setCell, Array.getElem?_modify, h']
theorem RowU.clear {g : Nat} : ∀ (n k : Nat) {w : World} {xs : List Nat}, RowU w g xs → k + n ≤ xs.length → RowU (w.setCells g k (List.replicate n (.int .u32 0))) g (splice xs k (List.replicate n 0))
 | 0, k, w, xs, h, hk => by simpa [splice, World.setCells] using h
 | n + 1, k, w, xs, h, hk => by
  have h1 := h.set k 0
  have h2 := RowU.clear n (k + 1) h1 (by rw [List.length_set]; omega)
  rw [List.replicate_succ, World.setCells]
  have e : splice (xs.set k 0) (k + 1) (List.replicate n 0) = splice xs k (List.replicate (n + 1) 0) := by
   simp only [splice, List.length_replicate]
   rw [List.take_succ_eq_append_getElem (by rw [List.length_set]; omega), List.take_set, List.set_eq_of_length_le (by rw [List.length_take]; omega), List.drop_set_of_lt (by omega), List.append_assoc]
   simp [List.replicate_succ, Nat.add_assoc, Nat.add_comm 1 n]
  rw [← e]
  exact h2
end Nat32
namespace Nat32
open Go.RowKit Base Mem NatM
theorem val_split {xs : List Nat} {k : Nat} (h : k ≤ xs.length) : val xs = val (xs.take k) + B32 ^ k * val (xs.drop k) := by
 have e := val_append (xs.take k) (xs.drop k)
 rw [List.take_append_drop, List.length_take, Nat.min_eq_left h] at e
 exact e
theorem val_drop_succ {xs : List Nat} {k : Nat} (h : k < xs.length) : val (xs.drop k) = xs.getD k 0 + B32 * val (xs.drop (k + 1)) := by rw [drop_cons h, val]
theorem val_zeros : ∀ n : Nat, val (List.replicate n 0) = 0
 | 0 => rfl
 | n + 1 => by rw [List.replicate_succ, val, val_zeros n]; rfl
theorem okN_drop {xs : List Nat} (h : okN xs) (k : Nat) : okN (xs.drop k) := fun y hy => h y (List.mem_of_mem_drop hy)
theorem okN_take' {xs : List Nat} (h : okN xs) (k : Nat) : okN (xs.take k) := fun y hy => h y (List.mem_of_mem_take hy)
theorem okN_zeros (n : Nat) : okN (List.replicate n 0) := fun y hy => by rw [(List.mem_replicate.1 hy).2]; decide
theorem okN_append {xs ys : List Nat} (h : okN xs) (h' : okN ys) : okN (xs ++ ys) := fun y hy => by
 rcases List.mem_append.1 hy with hy | hy
 ·exact h y hy
 ·exact h' y hy
def relay (rs : List Nat) (k n : Nat) (ls : List Nat) : List Nat := splice (splice rs k (List.replicate n 0)) k ls
theorem relay_eq {rs ls : List Nat} {k n : Nat} (hk : k + n ≤ rs.length) (hl : ls.length ≤ n) : relay rs k n ls = rs.take k ++ (ls ++ (List.replicate (n - ls.length) 0 ++ rs.drop (k + n))) := by
 have h1 : (rs.take k).length = k := by rw [List.length_take]; omega
 unfold relay splice
 rw [List.length_replicate]
 have e1 : (rs.take k ++ (List.replicate n 0 ++ rs.drop (k + n))).take k = rs.take k := by
  rw [List.take_append_of_le_length (by omega), List.take_of_length_le (by omega)]
 have e2 : (rs.take k ++ (List.replicate n 0 ++ rs.drop (k + n))).drop (k + ls.length) = List.replicate (n - ls.length) 0 ++ rs.drop (k + n) := by
  rw [List.drop_append, List.drop_of_length_le (by omega), List.nil_append, h1, show k + ls.length - k = ls.length by omega, List.drop_append_of_le_length (by rw [List.length_replicate]; exact hl), List.drop_replicate]
 rw [e1, e2]
theorem relay_len {rs ls : List Nat} {k n : Nat} (hk : k + n ≤ rs.length) (hl : ls.length ≤ n) : (relay rs k n ls).length = rs.length := by
 rw [relay_eq hk hl]
 simp
 omega
theorem relay_ok {rs ls : List Nat} {k n : Nat} (hk : k + n ≤ rs.length) (hl : ls.length ≤ n) (h : okN rs) (h' : okN ls) : okN (relay rs k n ls) := by
 rw [relay_eq hk hl]
 exact okN_append (okN_take' h k) (okN_append h' (okN_append (okN_zeros _) (okN_drop h _)))
theorem relay_take {rs ls : List Nat} {k n : Nat} (hk : k + n ≤ rs.length) (hl : ls.length ≤ n) : (relay rs k n ls).take k = rs.take k := by
 have h1 : (rs.take k).length = k := by rw [List.length_take]; omega
 rw [relay_eq hk hl, List.take_append_of_le_length (by omega), List.take_of_length_le (by omega)]
theorem relay_val {rs ls : List Nat} {k n : Nat} (hk : k + n ≤ rs.length) (hl : ls.length ≤ n) (h0 : val (rs.drop (k + n)) = 0) : val ((relay rs k n ls).drop k) = val ls := by
 have h1 : (rs.take k).length = k := by rw [List.length_take]; omega
 rw [relay_eq hk hl, List.drop_append, List.drop_of_length_le (by omega), List.nil_append, h1, Nat.sub_self, List.drop_zero, val_append, val_append, val_zeros, h0]
 simp
def DivInv (A D K : Nat) (rs qs : List Nat) : Prop := val rs + B32 ^ K * (D * val (qs.drop K)) = A ∧ val (rs.drop K) < D
theorem DivInv.start {A D K n : Nat} {rs : List Nat} (h : val rs = A) (hd : val (rs.drop K) < D) (hn : n = K) : DivInv A D K rs (List.replicate n 0) := by
 subst hn
 refine ⟨?_, hd⟩
 rw [List.drop_of_length_le (by simp), val]
 omega
theorem DivInv.win {A D k n : Nat} {rs qs : List Nat} (h : DivInv A D (k + 1) rs qs) (hok : okN rs) (hk : k + (n + 2) ≤ rs.length) (hD : D < B32 ^ (n + 1)) :
  val ((rs.drop k).take (n + 2)) = val (rs.drop k) ∧ val (rs.drop k) < B32 * D ∧ val (rs.drop (k + (n + 2))) = 0 := by
 have h1 := val_drop_succ (show k < rs.length by omega)
 have h2 : val (rs.drop k) < B32 * D := by
  have h3 : val (rs.drop (k + 1)) + 1 ≤ D := h.2
  have h4 := Nat.mul_le_mul_left B32 h3
  have h5 := okN_at hok k
  rw [Nat.mul_add] at h4
  omega
 have h3 := val_split (xs := rs.drop k) (k := n + 2) (by rw [List.length_drop]; omega)
 rw [List.drop_drop] at h3
 have h4 : B32 * D < B32 ^ (n + 2) := by
  rw [Nat.pow_succ, Nat.mul_comm (B32 ^ (n + 1))]
  exact Nat.mul_lt_mul_of_pos_left hD (by decide)
 have h5 : val (rs.drop (k + (n + 2))) = 0 := by
  rcases Nat.eq_zero_or_pos (val (rs.drop (k + (n + 2)))) with h6 | h6
  ·exact h6
  ·have := Nat.le_mul_of_pos_right (B32 ^ (n + 2)) h6
   omega
 rw [h5, Nat.mul_zero, Nat.add_zero] at h3
 exact ⟨h3.symm, h2, h5⟩
theorem DivInv.next {A D k n q : Nat} {rs qs : List Nat} (h : DivInv A D (k + 1) rs qs) (hk : k + (n + 2) ≤ rs.length) (hkq : k < qs.length) (hD : D < B32 ^ (n + 1)) (h0 : val (rs.drop (k + (n + 2))) = 0) (hq : q * D ≤ val (rs.drop k)) (hlt : val (rs.drop k) - q * D < D) :
  DivInv A D k (relay rs k (n + 2) (natL (val (rs.drop k) - q * D))) (qs.set k q) := by
 have hl : (natL (val (rs.drop k) - q * D)).length ≤ n + 2 := natL_len_le (Nat.lt_trans hlt (Nat.lt_of_lt_of_le hD (Nat.pow_le_pow_right (by decide) (by omega))))
 have e1 := relay_val hk hl h0
 rw [natL_val] at e1
 refine ⟨?_, by rw [e1]; exact hlt⟩
 have e2 := val_split (xs := relay rs k (n + 2) (natL (val (rs.drop k) - q * D))) (k := k) (by rw [relay_len hk hl]; omega)
 have e3 := val_split (xs := rs) (k := k) (by omega)
 have e4 := h.1
 rw [e2, e1, relay_take hk hl, drop_setw hkq, val]
 rw [e3] at e4
 generalize val (rs.drop k) = W at *
 generalize val (rs.take k) = T at *
 generalize val (qs.drop (k + 1)) = V at *
 obtain ⟨L, rfl⟩ : ∃ L, W = L + q * D := ⟨W - q * D, by omega⟩
 rw [Nat.add_sub_cancel]
 rw [← e4, Nat.pow_succ]
 generalize B32 ^ k = P
 rw [Nat.mul_add, Nat.mul_add, Nat.mul_add]
 have f1 : P * (D * q) = P * (q * D) := by rw [Nat.mul_comm D q]
 have f2 : P * (D * (B32 * V)) = P * B32 * (D * V) := by rw [Nat.mul_assoc, Nat.mul_left_comm D B32 V]
 omega
theorem DivInv.done {A D : Nat} {rs qs : List Nat} (h : DivInv A D 0 rs qs) : val qs = A / D ∧ val rs = A % D := by
 obtain ⟨h1, h2⟩ := h
 rw [List.drop_zero] at h1 h2
 rw [Nat.pow_zero, Nat.one_mul] at h1
 rw [← h1]
 have hD : 0 < D := by omega
 refine ⟨?_, ?_⟩
 ·rw [Nat.add_mul_div_left _ _ hD, Nat.div_eq_of_lt h2, Nat.zero_add]
 ·rw [Nat.add_mul_mod_self_left, Nat.mod_eq_of_lt h2]
theorem try_high {D n t top : Nat} {L : List Nat} (hok : okN L) (ht : (natL D).getD n 0 = t) (hlen : (natL D).length = n + 1) (htop : L.getD (n + 1) 0 * B32 + L.getD n 0 = top) (hW : val (L.take (n + 2)) < B32 * D) :
  val (L.take (n + 2)) / D ≤ min (top / t) 4294967295 := by
 have t0 : t ≠ 0 := by rw [← ht]; exact (natL_canon D).2 n hlen
 have d1 : B32 ^ n * t ≤ D := by
  have h1 := val_take_any (natL D) n
  rw [List.take_of_length_le (by omega), natL_val, ht] at h1
  omega
 have hD : 0 < D := by
  have := Nat.mul_pos (Nat.pow_pos (n := n) (show 0 < B32 by decide)) (Nat.pos_of_ne_zero t0)
  omega
 have w1 : val (L.take (n + 2)) < B32 ^ n * (top + 1) := by
  have h1 := val_take_any L (n + 1)
  have h2 := val_take_any L n
  have h3 := val_lt _ (okN_take' hok n)
  have h4 : B32 ^ (L.take n).length ≤ B32 ^ n := Nat.pow_le_pow_right (by decide) (by rw [List.length_take]; omega)
  rw [h1, h2, ← htop, Nat.pow_succ, Nat.mul_add, Nat.mul_add, Nat.mul_comm (L.getD (n + 1) 0) B32, ← Nat.mul_assoc]
  omega
 have hq : val (L.take (n + 2)) / D * D ≤ val (L.take (n + 2)) := Nat.div_mul_le_self _ _
 have hb : val (L.take (n + 2)) / D < B32 := by rw [Nat.div_lt_iff_lt_mul hD]; exact hW
 generalize hqe : val (L.take (n + 2)) / D = q at *
 refine Nat.le_min.2 ⟨?_, by unfold B32 at hb; omega⟩
 rw [Nat.le_div_iff_mul_le (Nat.pos_of_ne_zero t0)]
 have h5 : B32 ^ n * (q * t) ≤ q * D := by
  rw [Nat.mul_left_comm]
  exact Nat.mul_le_mul_left _ d1
 have h6 : B32 ^ n * (q * t) < B32 ^ n * (top + 1) := by omega
 have := Nat.lt_of_mul_lt_mul_left h6
 omega
theorem up_len {b s n : Nat} (hlen : (natL b).length = n + 1) (hs : s ≤ 31) (ht : (natL b).getD n 0 * 2 ^ s < B32) : (natL (b * 2 ^ s)).length = n + 1 ∧ b * 2 ^ s < B32 ^ (n + 1) ∧ B32 ^ n * 2 ^ s ≤ b * 2 ^ s := by
 have h1 := val_take_any (natL b) n
 rw [List.take_of_length_le (by omega), natL_val] at h1
 have h2 := val_lt _ (okN_take' (natL_ok b) n)
 rw [List.length_take, hlen, Nat.min_eq_left (by omega)] at h2
 have t0 := (natL_canon b).2 n hlen
 generalize (natL b).getD n 0 = t at *
 have hlo : B32 ^ n ≤ b := by
  have := Nat.le_mul_of_pos_right (B32 ^ n) (Nat.pos_of_ne_zero t0)
  omega
 have hP : 0 < 2 ^ s := Nat.two_pow_pos s
 have hBs : B32 = 2 ^ (32 - s) * 2 ^ s := by rw [← Nat.pow_add, show 32 - s + s = 32 by omega]; rfl
 have ht1 : (t + 1) * 2 ^ s ≤ B32 := by
  rw [hBs] at ht ⊢
  have := Nat.lt_of_mul_lt_mul_right ht
  exact Nat.mul_le_mul_right _ this
 have hhi : b * 2 ^ s < B32 ^ (n + 1) := by
  have h3 : b + 1 ≤ B32 ^ n * (t + 1) := by rw [Nat.mul_add]; omega
  have h4 := Nat.mul_le_mul_right (2 ^ s) h3
  rw [Nat.add_mul, Nat.mul_assoc] at h4
  have h5 := Nat.mul_le_mul_left (B32 ^ n) ht1
  rw [Nat.pow_succ]
  omega
 have hlo2 := Nat.mul_le_mul_right (2 ^ s) hlo
 refine ⟨?_, hhi, hlo2⟩
 refine Nat.le_antisymm (natL_len_le hhi) ?_
 have h7 := val_lt _ (natL_ok (b * 2 ^ s))
 rw [natL_val] at h7
 have h8 : B32 ^ n ≤ b * 2 ^ s := Nat.le_trans hlo (Nat.le_mul_of_pos_right _ hP)
 rcases Nat.lt_or_ge (natL (b * 2 ^ s)).length (n + 1) with h9 | h9
 ·have := Nat.pow_le_pow_right (show 0 < B32 by decide) (show (natL (b * 2 ^ s)).length ≤ n by omega)
  omega
 ·exact h9
theorem top_low {a b s n : Nat} {rs : List Nat} (hlen : (natL b).length = n + 1) (hb : B32 ^ n * 2 ^ s ≤ b * 2 ^ s) (hr : rs.length = (natL a).length + 1) (hv : val rs = a * 2 ^ s) (hn : n ≤ (natL a).length) : val (rs.drop ((natL a).length - n)) < b * 2 ^ s := by
 have h1 := val_split (xs := rs) (k := (natL a).length - n) (by omega)
 have h2 := val_lt _ (natL_ok a)
 rw [natL_val] at h2
 have h3 : a * 2 ^ s < B32 ^ (natL a).length * 2 ^ s := Nat.mul_lt_mul_of_pos_right h2 (Nat.two_pow_pos s)
 have h4 : B32 ^ (natL a).length = B32 ^ ((natL a).length - n) * B32 ^ n := by rw [← Nat.pow_add, Nat.sub_add_cancel hn]
 rw [h4, Nat.mul_assoc] at h3
 have h5 : B32 ^ ((natL a).length - n) * val (rs.drop ((natL a).length - n)) < B32 ^ ((natL a).length - n) * (B32 ^ n * 2 ^ s) := by omega
 have := Nat.lt_of_mul_lt_mul_left h5
 omega
end Nat32
namespace Nat32
open Go.RowKit Base Mem NatM
theorem RowU.other {w : World} {g g' : Nat} {xs : List Nat} (h : RowU w g xs) (hne : g' ≠ g) (i : Nat) (v : Value) : RowU (w.setCell ⟨g', i, none⟩ v) g xs := by
 have h' : w.heap[g]? = some (.cells (us xs).toArray 221 (0, 0)) := h
 unfold RowU
 simp [World.setCell, Array.getElem?_modify, h', hne]
def OverRet (x y : Nat) (w : World) (e : Ending) (w' : World) : Prop := ∃ A c A' c', e = .returned (.tuple #[.slice A (natL (x / y)).length c, .slice A' (natL (x % y)).length c']) ∧ RdU w' w'.heap.size A (natL (x / y)) ∧ RdU w' w'.heap.size A' (natL (x % y)) ∧ Below w.heap.size w w'
def OvRel (g g2 g3 la Kf A D : Nat) (zs : List Nat) (w : World) (kv : Value) (wr : World) : Prop :=
 ∃ (K : Nat) (rs qs : List Nat), kv = .int .i64 ((K : Int) - 1) ∧ K ≤ Kf ∧ rs.length = la + 1 ∧ qs.length = Kf ∧ Hid (okN rs) ∧ Hid (okN qs) ∧ Hid (DivInv A D K rs qs) ∧ Hid (RowU wr g rs) ∧ Hid (RowU wr g2 zs) ∧ Hid (RowU wr g3 qs) ∧ Hid (Below w.heap.size w wr)
def InRel (g g2 g3 q : Nat) (rs zs qs : List Nat) (w : World) (dv : Value) (wr : World) : Prop :=
 ∃ d : Nat, dv = .int .u64 (d : Int) ∧ q ≤ d ∧ d ≤ 4294967295 ∧ Hid (RowU wr g rs) ∧ Hid (RowU wr g2 zs) ∧ Hid (RowU wr g3 qs) ∧ Hid (Below w.heap.size w wr)
theorem us_splice (a b : List Nat) (k : Nat) : splice (us a) k (us b) = us (splice a k b) := by
 simp [splice, us, List.map_take, List.map_drop]
def ButU (g : Nat) (w w' : World) : Prop := w'.os = w.os ∧ w'.tape = w.tape ∧ w'.output = w.output ∧ w.heap.size ≤ w'.heap.size ∧ ∀ j, j ≠ g → w'.heap[j]? = w.heap[j]?
theorem ButU.below {g B : Nat} {w w' : World} (h : ButU g w w') (hB : B ≤ g) : Below B w w' := ⟨h.1, h.2.1, h.2.2.1, h.2.2.2.1, fun k hk => h.2.2.2.2 k (by omega)⟩
theorem ButU.row {g g' : Nat} {w w' : World} {xs : List Nat} (h : ButU g w w') (hne : g ≠ g') (hr : RowU w g' xs) : RowU w' g' xs := (h.2.2.2.2 g' (fun e => hne e.symm)).trans hr
theorem sizeU : (Tryz.prog.info? 221).map (·.size) = some 1 := by kernel_rfl
theorem run_clearU (w : World) (ty g k n c : Nat) (xs : List Nat) (h : RowU w g xs) (hn : 0 < n) (hk : k + n ≤ xs.length) :
  (Builtin.clear_ #[145] ty #[.slice (some ⟨g, k, none⟩) n c]).run Tryz.prog w = .ok (.tuple #[]) (w.setCells g k (List.replicate n (.int .u32 0))) :=
 Lib.run_clear_slice w _ 221 ty (.int .u32 0) Tryz.underlying145 (fun _ => by kernel_rfl) rfl rfl g k n c hn (fun j hj => by rw [(h.cell (k + j) (by omega)).1]; rfl) (fun j hj => (h.cell (k + j) (by omega)).2)
theorem run_copyU (w : World) (ty g k dLen dCap sCap g5 : Nat) (xs ls : List Nat) (h : RowU w g xs) (hl : ls.length ≤ dLen) (hk : k + ls.length ≤ xs.length) (hc : ∀ j u, (us ls)[j]? = some u → w.cell? ((⟨g5, 0, none⟩ : Addr).add j) = some u) :
  ∃ v w', (Builtin.copy_ #[145, 145] ty #[.slice (some ⟨g, k, none⟩) dLen dCap, .slice (some ⟨g5, 0, none⟩) ls.length sCap]).run Tryz.prog w = .ok v w' ∧ RowU w' g (splice xs k ls) ∧ ButU g w w' := by
 have hm : Nat.min ls.length dLen = ls.length := Nat.min_eq_left hl
 have h' : w.heap[g]? = some (.cells (us xs).toArray 221 (0, 0)) := h
 have hrun := run_copy_row (P := Tryz.prog) w 145 145 ty 221 g k dLen dCap ⟨g5, 0, none⟩ ls.length sCap (us xs).toArray 221 (us ls) Tryz.underlying145 sizeU h' (by rw [us_len, hm]) hc (by simp [us_len]; exact hk) (us_one ls)
 have e3 : ((us xs).toArray.toList.take k ++ us ls ++ (us xs).toArray.toList.drop (k + (us ls).length)) = us (splice xs k ls) := by
  rw [← us_splice]; simp [splice]
 rw [e3] at hrun
 exact ⟨_, _, hrun, setRow_heap w g _ (us (splice xs k ls)).toArray _ _ h', ⟨rfl, rfl, rfl, by simp [World.setRow], fun j hj => setRow_other w g j _ hj⟩⟩
theorem but_setCells (g : Nat) : ∀ (vs : List Value) (i : Nat) (w : World), ButU g w (w.setCells g i vs)
 | [], i, w => ⟨rfl, rfl, rfl, Nat.le_refl _, fun _ _ => rfl⟩
 | v :: vs, i, w => by
  obtain ⟨a1, a2, a3, a4, a5⟩ := but_setCells g vs (i + 1) (w.setCell ⟨g, i, none⟩ v)
  exact ⟨a1, a2, a3, Nat.le_trans (by simp [World.setCell]) a4, fun j hj => (a5 j hj).trans (Below.heap_setCell _ _ _ _ hj)⟩
theorem InRel.drewN {g g2 g3 q : Nat} {rs zs qs : List Nat} {w wr : World} {dv : Value} (h : InRel g g2 g3 q rs zs qs w dv wr) (n : Nat) : InRel g g2 g3 q rs zs qs w dv (wr.drewN n) := by
 obtain ⟨d, e, h1, h2, r1, r2, r3, hb⟩ := h
 have hB : ∀ B, Below B wr (wr.drewN n) := fun B => below_drewN (Below.refl B wr) n
 exact ⟨d, e, h1, h2, J (r1.out.below (hB _) (Nat.lt_succ_self _)), J (r2.out.below (hB _) (Nat.lt_succ_self _)), J (r3.out.below (hB _) (Nat.lt_succ_self _)), J (hb.out.trans (hB _))⟩
theorem over_any (x y : Nat) (A A' : Option Addr) (c c' B B' : Nat) (w : World) (hx : RdU w B A (natL x)) (hB : B ≤ w.heap.size) (hy : RdU w B' A' (natL y)) (hB' : B' ≤ w.heap.size) (hl : (natL x).length ≤ 1000000) (hl' : (natL y).length ≤ 1000000) (hy0 : 0 < y) :
  Calls Tryz.prog 232 #[.slice A (natL x).length c, .slice A' (natL y).length c'] w (OverRet x y w) := by
 have HX := J hx
 have HY := J hy
 have hC := J (compare_any x y A A' c c' B B' w hx hy (by omega) (by omega))
 clear hx hy
 go_enter Tryz.func232, Tryz.ntmps232
 go_wp2_with fail
 refine hC.out.mono ?_
 rintro e w1 ⟨r, rfl, hr, hd⟩
 clear hC
 by_cases hxy : x < y
 ·have hr0 := hr.1 hxy
  have hB1 : Below w.heap.size w w1 := hd.below
  have HR : Hid (OverRet x y w (.returned (.tuple #[.slice none 0 0, .slice A (natL x).length c])) w1) := J (by
   refine ⟨none, 0, A, c, ?_, fun h0 => ?_, ?_, hB1⟩
   ·rw [Nat.div_eq_of_lt hxy, Nat.mod_eq_of_lt hxy, natL_zero]; rfl
   ·rw [Nat.div_eq_of_lt hxy, natL_zero] at h0; simp at h0
   ·rw [Nat.mod_eq_of_lt hxy]; exact (HX.out.below hB1 hB).more (Nat.le_trans hB hB1.size))
  clear hr hd hB1
  go_wp2
  go_ret2
  exact HR.out
 ·have hr0 : 0 ≤ r := by
   rcases Nat.lt_or_ge y x with h | h
   ·exact Int.le_of_lt (hr.2.2 h)
   ·exact Int.le_of_eq (hr.2.1 (by omega)).symm
  obtain ⟨n, hn⟩ : ∃ n, (natL y).length = n + 1 := by
   refine ⟨(natL y).length - 1, ?_⟩
   rcases Nat.eq_zero_or_pos (natL y).length with h | h
   ·have := natL_val y
    rw [List.length_eq_zero_iff.1 h, val] at this
    omega
   ·omega
  have hnl : n + 1 ≤ (natL x).length := by
   rcases Nat.lt_or_ge (natL x).length (natL y).length with h | h
   ·exact absurd (natL_len_lt h) hxy
   ·omega
  have hB1 : Below w.heap.size w w1 := hd.below
  have hX1 := J (HX.out.below hB1 hB)
  have hY1 := J (HY.out.below hB1 hB')
  have hs1 := hB1.size
  have HB1 := J hB1
  clear hr hd hB1 HX HY
  obtain ⟨b, off, rfl, _, hcell⟩ := hY1.out (by omega)
  have gy := hcell n (by omega)
  have ht1 := okN_at (natL_ok y) n
  have ht0 : (natL y).getD n 0 ≠ 0 := (natL_canon y).2 n hn
  clear hcell
  obtain ⟨t, ht⟩ : ∃ t, (natL y).getD n 0 = t := ⟨_, rfl⟩
  have HT := J ht
  rw [ht] at gy ht1 ht0
  clear ht
  have HZ := J (clz_any t (Nat.pos_of_ne_zero ht0) ht1 w1)
  unfold B32 at ht1
  rw [hn]
  go_wp2_with fail
  refine HZ.out.mono ?_
  rintro e w2 ⟨s, rfl, hs, hts, rfl⟩
  clear HZ
  have HU := J (up_any A c B s (natL x) w1 hX1.out (by omega) (natL_ok x) (by omega) hs)
  go_wp2_with fail
  refine HU.out.mono ?_
  rintro e w2 ⟨g, rs, rfl, hrl, hrok, hrv, hrO, hB2⟩
  clear HU
  have hs2 := hB2.size
  have HU := J (up_any (some ⟨b, off, none⟩) c' B' s (natL y) w2 (hY1.out.below hB2 (by omega)) (by omega) (natL_ok y) (by omega) hs)
  rw [hn] at HU
  go_wp2_with fail
  refine HU.out.mono ?_
  rintro e w3 ⟨g2, zs, rfl, hzl, hzok, hzv, hzO, hB3⟩
  clear HU
  rw [hn] at hzl hzO
  have hs3 := hB3.size
  have HTr := J (trim_any (some ⟨g2, 0, none⟩) (n + 1 + 1) w3.heap.size zs w3 hzO.rd hzok (by omega) (by omega) (by omega))
  rw [hzl] at HTr
  rw [natL_val] at hrv hzv
  have hul := up_len hn hs (by rw [HT.out]; exact hts)
  rw [hzv] at HTr
  rw [hn]
  go_wp2_with fail
  refine HTr.out.mono ?_
  rintro e w4 ⟨he, rfl⟩
  rw [hul.1] at he
  subst he
  clear HTr
  obtain ⟨la, hla⟩ : ∃ la, (natL x).length = la := ⟨_, rfl⟩
  have HA := J (And.intro hrv hrok)
  have HZv := J (And.intro hzv hzok)
  have HUl := J hul
  have HO1 := J hrO
  have HO2 := J hzO
  have hHd := J (And.intro hB2 hB3)
  have hge1 := hrO.ge
  have hge2 := hzO.ge
  rw [hla] at hl hnl hrl hrO HO1
  have HLa := J hla
  have Hts := J hts
  rw [hla]
  obtain ⟨Kf, hKf⟩ : ∃ Kf, Kf = la - n := ⟨_, rfl⟩
  have hmk := run_make_row' (P := Tryz.prog) 145 221 (.int .u32 0) 4 Tryz.underlying145 infoU rfl .i64 .i64 Kf (by omega) (by omega)
  have hcast : (Kf : Int) = (la : Int) + 1 - ((n : Int) + 1) := by omega
  rw [hcast] at hmk
  have hD0 : 0 < y * 2 ^ s := Nat.mul_pos hy0 (Nat.two_pow_pos s)
  have hR1 : RowU (w3.alloc (.cells (madeCells #[.int .u32 0] Kf) 221)) g rs :=
   (hrO.row hrl).below (hB3.trans ((Below.refl w2.heap.size w3).alloc hs3 _)) hge1.2
  have hR2 : RowU (w3.alloc (.cells (madeCells #[.int .u32 0] Kf) 221)) g2 zs :=
   (hzO.row hzl).below ((Below.refl w3.heap.size w3).alloc (Nat.le_refl _) _) hge2.2
  have hR3 : RowU (w3.alloc (.cells (madeCells #[.int .u32 0] Kf) 221)) w3.heap.size (zerosU Kf) := (made_own w3 Kf (by omega)).row (by simp [zerosU])
  have hBB : Below w.heap.size w (w3.alloc (.cells (madeCells #[.int .u32 0] Kf) 221)) :=
   HB1.out.trans ((hB2.mono hs1).trans ((hB3.mono (Nat.le_trans hs1 hs2)).trans ((Below.refl _ w3).alloc (by omega) _)))
  have hDv : DivInv (x * 2 ^ s) (y * 2 ^ s) Kf rs (zerosU Kf) := by
   have := top_low (rs := rs) (a := x) hn hul.2.2 (by rw [hla]; exact hrl) hrv (by omega)
   rw [hla, ← hKf] at this
   exact DivInv.start hrv this rfl
  have H0 : Hid (OvRel g g2 w3.heap.size la Kf (x * 2 ^ s) (y * 2 ^ s) zs w (.int .i64 ((Kf : Int) - 1)) (w3.alloc (.cells (madeCells #[.int .u32 0] Kf) 221))) :=
   J ⟨Kf, rs, zerosU Kf, rfl, Nat.le_refl _, hrl, by simp [zerosU], J hrok, J (okN_zeros Kf), J hDv, J hR1, J hR2, J hR3, J hBB⟩
  have HD := J (And.intro hul.1 (And.intro hul.2.1 hD0))
  have hzt : zs.take (n + 1) = natL (y * 2 ^ s) := by
   have := (natL_take hzok).1
   rwa [hzv, hul.1] at this
  have HZt := J hzt
  have Ht1 : (natL (y * 2 ^ s)).getD n 0 = zs.getD n 0 := by
   rw [← hzt]; simp [List.getD]
  have Htn := J Ht1
  have Hz0 : zs.getD n 0 ≠ 0 := by rw [← Ht1]; exact (natL_canon _).2 n hul.1
  have hzok1 := okN_at hzok n
  clear hrv hrok hzv hzok hul hrO hzO hB2 hB3 hla hts hcast hR1 hR2 hR3 hBB hDv hD0 hzt Ht1
  have hne12 : g ≠ g2 := by omega
  have hne13 : g ≠ w3.heap.size := by omega
  have hne23 : g2 ≠ w3.heap.size := by omega
  have hwg : w.heap.size ≤ g := by omega
  have hw3 : w.heap.size ≤ w3.heap.size := by omega
  clear HA HZv HUl HO1 HO2 hHd hge1 hge2 hX1 hY1 HB1 hs1 hs2 hs3 gy HT Hts ht0 ht1
  generalize hDe : y * 2 ^ s = D at *
  generalize hAe : x * 2 ^ s = A0 at *
  have HDe := J (And.intro hAe hDe)
  clear hDe hAe
  go_wp2
  clear hmk
  generalize hg3 : w3.heap.size = g3 at *
  go_loopw [11] (fun kv wr => OvRel g g2 g3 la Kf A0 D zs w kv wr) (fun kv _ => (intOf kv + 1).toNat)
  case atStart => rw [← hKf]; exact H0.out
  case round =>
   obtain ⟨K, rs', qs, rfl, hK, hrl', hql, hrok, hqok, hdv, hrow, hrow2, hrow3, hbl⟩ := hrel
   clear H0
   by_cases hpos : 0 < K
   ·obtain ⟨k, rfl⟩ : ∃ k, K = k + 1 := ⟨K - 1, by omega⟩
    have e1 : (((k + 1 : Nat) : Int) - 1) = (k : Int) := by omega
    rw [e1]
    clear e1
    obtain ⟨gh, _⟩ := hrow.out.cell (k + (n + 1)) (by omega)
    obtain ⟨gl, _⟩ := hrow.out.cell (k + n) (by omega)
    obtain ⟨gt, _⟩ := hrow2.out.cell n (by omega)
    have hh1 := okN_at hrok.out (k + (n + 1))
    have hl1 := okN_at hrok.out (k + n)
    have hwin := hdv.out.win hrok.out (show k + (n + 2) ≤ rs'.length by omega) HD.out.2.1
    have htry := try_high (D := D) (n := n) (L := rs'.drop k) (okN_drop hrok.out k) Htn.out HD.out.1 rfl (by rw [hwin.1]; exact hwin.2.1)
    have ed1 : (rs'.drop k).getD (n + 1) 0 = rs'.getD (k + (n + 1)) 0 := by simp [List.getD]
    have ed2 : (rs'.drop k).getD n 0 = rs'.getD (k + n) 0 := by simp [List.getD]
    rw [ed1, ed2] at htry
    rw [hwin.1] at htry
    obtain ⟨W, hW⟩ : ∃ W, val (rs'.drop k) = W := ⟨_, rfl⟩
    rw [hW] at htry hwin
    obtain ⟨T, hT⟩ : ∃ T, rs'.getD (k + (n + 1)) 0 * B32 + rs'.getD (k + n) 0 = T := ⟨_, rfl⟩
    rw [hT] at htry
    have HW := J (And.intro hW hwin)
    unfold B32 at hT hh1 hl1 hzok1
    have hTe : rs'.getD (k + (n + 1)) 0 * 4294967296 ||| rs'.getD (k + n) 0 = T := by
     have e := Nat.shiftLeft_add_eq_or_of_lt (show rs'.getD (k + n) 0 < 2 ^ 32 by omega) (rs'.getD (k + (n + 1)) 0)
     rw [Nat.shiftLeft_eq, show (2 : Nat) ^ 32 = 4294967296 from rfl] at e
     rw [← e, hT]
    have hbo : bits .or .u64 (((rs'.getD (k + (n + 1)) 0 : Nat) : Int) * 4294967296) ((rs'.getD (k + n) 0 : Nat) : Int) = (T : Int) := by
     have h := u64_or (rs'.getD (k + (n + 1)) 0 * 4294967296) (rs'.getD (k + n) 0) (by omega) (by omega)
     rw [hTe, show ((rs'.getD (k + (n + 1)) 0 * 4294967296 : Nat) : Int) = ((rs'.getD (k + (n + 1)) 0 : Nat) : Int) * 4294967296 by omega] at h
     exact h
    have hTlt : T < 18446744073709551616 := by omega
    obtain ⟨q, hq⟩ : ∃ q, W / D = q := ⟨_, rfl⟩
    rw [hq] at htry
    have HQ := J hq
    have hdv' := hdv
    clear hwin hW ed1 ed2 hTe hT hq hdv
    generalize rs'.getD (k + (n + 1)) 0 = hi at *
    generalize rs'.getD (k + n) 0 = lo at *
    generalize zs.getD n 0 = tt at *
    have hdiv : (T : Int) / (tt : Int) = ((T / tt : Nat) : Int) := by simp
    have hQlt : T / tt ≤ T := Nat.div_le_self _ _
    generalize T / tt = Q at *
    obtain ⟨d0, hd0⟩ : ∃ d0, min Q 4294967295 = d0 := ⟨_, rfl⟩
    rw [hd0] at htry
    have hdm : (if (4294967295 : Int) < (Q : Int) then (4294967295 : Int) else (Q : Int)) = (d0 : Int) := by split <;> omega
    have hdlt : d0 ≤ 4294967295 := by omega
    have Hd0 := J hd0
    clear hd0
    have HI0 : Hid (InRel g g2 g3 q rs' zs qs w (.int .u64 (d0 : Int)) wr) := J ⟨d0, rfl, htry, hdlt, hrow, hrow2, hrow3, hbl⟩
    clear htry
    go_wp2
    go_quiet (fail)
    go_wp2
    clear hbo hdiv hdm hdlt hQlt hTlt gh gl gt hh1 hl1 hzok1 hrow hrow2 hrow3 hbl
    rw [show k + (n + 1) - 1 = k + n from rfl]
    go_loopw [13] (fun dv wr => InRel g g2 g3 q rs' zs qs w dv wr) (fun dv _ => (intOf dv).toNat)
    case atStart => rw [show min (Q : Int) 4294967295 = (d0 : Int) by have := Hd0.out; omega]; exact HI0.out.drewN nq
    case round =>
     obtain ⟨d, rfl, hqd, hd, hrow, hrow2, hrow3, hbl⟩ := hrel
     clear HI0
     have hN := J (naturalOf_any d (by omega) wr)
     go_wp2_with fail
     refine hN.out.mono ?_
     rintro e v1 ⟨A1, c1, rfl, hr1, hb1⟩
     clear hN
     have hby : RdU v1 v1.heap.size (some ⟨g2, 0, none⟩) (natL D) := by
      have h1 := hrow2.out.below hb1 hrow2.out.lt
      have := h1.rd h1.lt 0 (n + 1) (by omega)
      rwa [List.drop_zero, HZt.out] at this
     have hdl : (natL d).length ≤ 2000000 := Nat.le_trans (natL_len_le (k := 1) (by unfold B32; omega)) (by decide)
     have hP := J (times_any (some ⟨g2, 0, none⟩) A1 (n + 1 + 1) c1 _ _ (natL D) (natL d) v1 hby (Nat.le_refl _) hr1 (Nat.le_refl _) (natL_ok D) (natL_ok d) (by rw [HD.out.1]; omega) hdl)
     rw [natL_val, natL_val, HD.out.1] at hP
     have Hb1 := J hb1
     have hz1' := hb1.size
     clear hby hdl hr1 hb1
     go_wp2_with fail
     refine hP.out.mono ?_
     rintro e v2 ⟨A2, c2, rfl, hr2, hb2⟩
     clear hP
     have hz2' := hb2.size
     have Hb2 := J hb2
     have Hr2 := J hr2
     have hw2 : RowU v2 g rs' := (hrow.out.below Hb1.out hrow.out.lt).below hb2 (Nat.lt_of_lt_of_le hrow.out.lt hz1')
     have hrd2 := hw2.rd hw2.lt k (n + 2) (by omega)
     have hwl : ((rs'.drop k).take (n + 2)).length = n + 2 := by simp; omega
     have hC := J (clone_u (some ⟨g, k, none⟩) (la + 1 - k) v2.heap.size _ v2 hrd2 (Nat.le_refl _) (by rw [hwl]; omega) (by rw [hwl]; omega))
     rw [hwl] at hC
     clear hr2 hb2 hw2 hrd2
     go_wp2_with fail
     rw [show k + (n + 1) + 1 - k = n + 2 by omega]
     refine hC.out.mono ?_
     rintro e v3 ⟨A3, c3, rfl, hc3, hc3', hr3, hb3⟩
     clear hC
     rw [hwl] at hc3
     have hz3' := hb3.size
     have hwok : okN ((rs'.drop k).take (n + 2)) := okN_take' (okN_drop hrok.out k) _
     have hTm := J (trim_any A3 c3 v3.heap.size _ v3 hr3 hwok (by rw [hwl]; omega) (by rw [hwl]; omega) hc3')
     have hkk := natL_take hwok
     rw [HW.out.2.1] at hTm hkk
     have hr3' := hr3.take hkk.2
     rw [hkk.1] at hr3'
     have hPl : (natL (D * d)).length ≤ n + 2 := natL_len_le (by
      have h1 := Nat.mul_le_mul (Nat.le_of_lt HD.out.2.1) (show d ≤ B32 - 1 by unfold B32; omega)
      have h2 : B32 ^ (n + 1) * (B32 - 1) < B32 ^ (n + 2) := by
       rw [Nat.pow_succ B32 (n + 1)]
       exact Nat.mul_lt_mul_of_pos_left (by decide) (Nat.pow_pos (by decide))
      omega)
     have hWl : (natL W).length ≤ 2000000 := by rw [hwl] at hkk; omega
     have Hb3 := J hb3
     have hCm := J (compare_any (D * d) W A2 A3 c2 c3 v2.heap.size v3.heap.size v3 (Hr2.out.below hb3 (Nat.le_refl _)) hr3' (by omega) (by omega))
     clear hwok hkk hr3 hb3 hr3'
     rw [hwl] at hTm
     rw [hwl]
     go_wp2_with fail
     refine hTm.out.mono ?_
     rintro e v4 ⟨rfl, rfl⟩
     clear hTm
     go_wp2_with fail
     refine hCm.out.mono ?_
     rintro e v4 ⟨r2, rfl, hr4, hd4⟩
     clear hCm
     have hb4 : Below v3.heap.size v3 v4 := hd4.below
     have hz4' := hb4.size
     have hb14 : Below wr.heap.size wr v4 := Hb1.out.trans ((Hb2.out.mono hz1').trans ((Hb3.out.mono (Nat.le_trans hz1' hz2')).trans (hb4.mono (by omega))))
     have Hb14 := J hb14
     have Hr4 := J ((Hr2.out.below Hb3.out (Nat.le_refl _)).below hb4 hz3')
     by_cases hle : D * d ≤ W
     ·have hr5 : r2 ≤ 0 := by
       rcases Nat.lt_or_ge (D * d) W with h | h
       ·exact Int.le_of_lt (hr4.1 h)
       ·exact Int.le_of_eq (hr4.2.1 (by omega))
      clear hr4 hd4
      have hdq : d = q := by
       have h1 : d ≤ W / D := by rw [Nat.le_div_iff_mul_le HD.out.2.2, Nat.mul_comm]; exact hle
       rw [HQ.out] at h1
       omega
      have hlt : W - D * d < D := by
       have h1 := Nat.div_add_mod W D
       have h2 := Nat.mod_lt W HD.out.2.2
       rw [HQ.out, ← hdq] at h1
       omega
      have hg4 : RowU v4 g rs' := hrow.out.below hb14 hrow.out.lt
      have hrd4 := hg4.rd hg4.lt k (n + 2) (by omega)
      have hM := J (minus_new (some ⟨g, k, none⟩) A2 (la + 1 - k) c2 _ _ _ (natL (D * d)) v4 hrd4 (Nat.le_refl _) Hr4.out (by omega) (okN_take' (okN_drop hrok.out k) _) (natL_ok _) (by rw [hwl]; omega) (by rw [hwl]; exact hPl) (by rw [HW.out.2.1, natL_val]; exact hle))
      rw [hwl, HW.out.2.1, natL_val] at hM
      have Hle := J (And.intro hle hlt)
      clear hle hlt hb14 hg4 hrd4 hb4
      subst hdq
      go_wp2_with fail
      rw [show k + (n + 1) + 1 - k = n + 2 by omega]
      refine hM.out.mono ?_
      rintro e v5 ⟨g5, c5, rfl, hg5n, hr5', hb5⟩
      clear hM
      have hz5 := hb5.size
      have hb15 : Below wr.heap.size wr v5 := Hb14.out.trans (hb5.mono Hb14.out.size)
      have hg5 : RowU v5 g rs' := hrow.out.below hb15 hrow.out.lt
      have hg52 : RowU v5 g2 zs := hrow2.out.below hb15 hrow2.out.lt
      have hg53 : RowU v5 g3 qs := hrow3.out.below hb15 hrow3.out.lt
      have hcl : ∀ ty, (Builtin.clear_ #[145] ty #[.slice (some ⟨g, k, none⟩) (k + (n + 1) + 1 - k) (la + 1 - k)]).run Tryz.prog v5 = .ok (.tuple #[]) (v5.setCells g k (List.replicate (n + 2) (.int .u32 0))) := fun ty => by
       rw [show k + (n + 1) + 1 - k = n + 2 by omega]
       exact run_clearU v5 ty g k (n + 2) _ rs' hg5 (by omega) (by omega)
      have hll : (natL (W - D * d)).length ≤ n + 2 := natL_len_le (Nat.lt_trans Hle.out.2 (Nat.lt_of_lt_of_le HD.out.2.1 (Nat.pow_le_pow_right (by decide) (by omega))))
      obtain ⟨v6, hv6⟩ : ∃ v6, v6 = v5.setCells g k (List.replicate (n + 2) (.int .u32 0)) := ⟨_, rfl⟩
      rw [← hv6] at hcl
      have hbt : ButU g v5 v6 := by rw [hv6]; exact but_setCells g _ k v5
      have hg6 : RowU v6 g (splice rs' k (List.replicate (n + 2) 0)) := by rw [hv6]; exact hg5.clear (n + 2) k (by omega)
      have hsl : (splice rs' k (List.replicate (n + 2) 0)).length = la + 1 := by rw [length_splice _ _ _ (by rw [List.length_replicate]; omega)]; exact hrl'
      have hb5g : Below w.heap.size w v6 := hbl.out.trans ((hb15.mono hbl.out.size).trans (hbt.below hwg))
      have hg62 := hbt.row hne12 hg52
      have hg63 := hbt.row hne13 hg53
      have hg5g : g5 ≠ g := by have := hrow.out.lt; have := Hb14.out.size; omega
      have hlf : ∀ j u, (us (natL (W - D * d)))[j]? = some u → v6.cell? ((⟨g5, 0, none⟩ : Addr).add j) = some u := fun j u hj => by
       have h1 := rdu_news hr5' rfl j u hj
       rw [Addr.add_lit] at h1 ⊢
       rw [← h1]
       exact World.cell?_of_block (hbt.2.2.2.2 g5 hg5g)
      have HC := J (And.intro hg6 (And.intro hsl hlf))
      have HR6 := J (And.intro hg62 (And.intro hg63 hb5g))
      clear hv6 hb15 hg5 hg52 hg53 hbt hg6 hsl hb5g hg62 hg63 hlf hr5' hb5
      generalize hls : natL (W - D * d) = ls at *
      have Hls := J hls
      clear hls
      have hlsl : (us ls).length = ls.length := us_len ls
      obtain ⟨vc, v7, hcp, hrow7', hbt7⟩ := run_copyU v6 3 g k (la + 1 - k) (la + 1 - k) c5 g5 _ ls HC.out.1 (by omega) (by rw [HC.out.2.1]; omega) HC.out.2.2
      have hrow7 : RowU v7 g (relay rs' k (n + 2) ls) := hrow7'
      have h72 := hbt7.row hne12 HR6.out.1
      have h73 := hbt7.row hne13 HR6.out.2.1
      have h7b := HR6.out.2.2.trans (hbt7.below hwg)
      obtain ⟨gq, gqf⟩ := h73.cell k (by omega)
      have hql2 : k < qs.length := by omega
      have hN := hdv'.out.next (q := d) (by omega) hql2 HD.out.2.1 HW.out.2.2.2 (by rw [HW.out.1, Nat.mul_comm]; exact Hle.out.1) (by rw [HW.out.1, Nat.mul_comm]; exact Hle.out.2)
      rw [HW.out.1, Nat.mul_comm d D, Hls.out] at hN
      have HN : Hid (OvRel g g2 g3 la Kf A0 D zs w (.int .i64 ((k : Int) - 1)) (v7.setCell ⟨g3, k, none⟩ (.int .u32 (d : Int)))) :=
       J ⟨k, relay rs' k (n + 2) ls, qs.set k d, rfl, by omega, by rw [relay_len (by omega) hll]; exact hrl', by rw [List.length_set]; exact hql, J (relay_ok (by omega) hll hrok.out (by rw [← Hls.out]; exact natL_ok _)), J (okN_setw hqok.out (by unfold B32; omega)), J hN, J (hrow7.other (fun e => hne13 e.symm) k _), J (h72.other (fun e => hne23 e.symm) k _), J (h73.set k d), J (h7b.setCell hw3 _)⟩
      clear hrow7 hrow7' h72 h73 h7b hbt7 hN
      go_wp2
      go_roundw
      case rel => exact HN.out
      case measure => simp [intOf]
     ·have hr5 : 0 < r2 := hr4.2.2 (by omega)
      clear hr4 hd4
      obtain ⟨m, rfl⟩ : ∃ m, d = m + 1 := ⟨d - 1, by
       rcases Nat.eq_zero_or_pos d with h | h
       ·rw [h] at hle; simp at hle
       ·omega⟩
      have hqm : q ≤ m := by
       have h1 : W / D < m + 1 := by
        rw [Nat.div_lt_iff_lt_mul HD.out.2.2, Nat.mul_comm]
        omega
       rw [HQ.out] at h1
       omega
      have HN : Hid (InRel g g2 g3 q rs' zs qs w (.int .u64 (m : Int)) v4) :=
       J ⟨m, rfl, hqm, by omega, J (hrow.out.below hb14 hrow.out.lt), J (hrow2.out.below hb14 hrow2.out.lt), J (hrow3.out.below hb14 hrow3.out.lt), J (hbl.out.trans (hb14.mono hbl.out.size))⟩
      clear hb14 hb4 hle
      go_wp2
      go_roundw
      case rel => exact HN.out
      case measure => simp [intOf]
   ·obtain rfl : K = 0 := by omega
    have hfin := hdv.out.done
    have hdm := HDe.out
    have hP : 0 < 2 ^ s := Nat.two_pow_pos s
    have hqv : val qs = x / y := by rw [hfin.1, ← hdm.1, ← hdm.2, Nat.mul_div_mul_right _ _ hP]
    have hrv : val rs' = x % y * 2 ^ s := by rw [hfin.2, ← hdm.1, ← hdm.2, Nat.mul_mod_mul_right]
    have hT1 := J (trim_any (some ⟨g, 0, none⟩) (la + 1) wr.heap.size rs' wr (by
     have := hrow.out.rd hrow.out.lt 0 (la + 1) (by omega)
     rwa [List.drop_zero, List.take_of_length_le (by omega)] at this) hrok.out (by omega) (by omega) (by omega))
    rw [hrl', hrv] at hT1
    have hk1 := natL_take hrok.out
    rw [hrv] at hk1
    have hrd1 : RdU wr wr.heap.size (some ⟨g, 0, none⟩) (natL (x % y * 2 ^ s)) := by
     have h1 : RdU wr wr.heap.size (some ⟨g, 0, none⟩) rs' := by
      have := hrow.out.rd hrow.out.lt 0 (la + 1) (by omega)
      rwa [List.drop_zero, List.take_of_length_le (by omega)] at this
     have := h1.take hk1.2
     rwa [hk1.1] at this
    have hDn := J (down_any (some ⟨g, 0, none⟩) (la + 1) wr.heap.size s (natL (x % y * 2 ^ s)) wr hrd1 (Nat.le_refl _) (natL_ok _) (by omega) hs)
    rw [natL_val] at hDn
    have hQr : RdU wr wr.heap.size (some ⟨g3, 0, none⟩) qs := by
     have := hrow3.out.rd hrow3.out.lt 0 Kf (by omega)
     rwa [List.drop_zero, List.take_of_length_le (by omega)] at this
    have HQr := J hQr
    have hQv := J hqv
    clear hfin hdm hP hqv hrv hk1 hrd1 hQr
    go_wp2_with fail
    refine hT1.out.mono ?_
    rintro e w5 ⟨rfl, rfl⟩
    clear hT1
    go_wp2_with fail
    refine hDn.out.mono ?_
    rintro e w5 ⟨A6, c6, rfl, hr6, hb6⟩
    clear hDn
    rw [Nat.mul_div_cancel _ (Nat.two_pow_pos s)] at hr6
    have hQ5 : RdU w5 w5.heap.size (some ⟨g3, 0, none⟩) qs := (HQr.out.below hb6 (Nat.le_refl _)).more hb6.size
    have hT2 := J (trim_any (some ⟨g3, 0, none⟩) (la - n) w5.heap.size qs w5 hQ5 hqok.out (by omega) (by omega) (by omega))
    rw [hql, hQv.out, hKf] at hT2
    have hk2 := natL_take hqok.out
    rw [hQv.out] at hk2
    have hrq : RdU w5 w5.heap.size (some ⟨g3, 0, none⟩) (natL (x / y)) := by
     have := hQ5.take hk2.2
     rwa [hk2.1] at this
    have HR : Hid (OverRet x y w (.returned (.tuple #[.slice (some ⟨g3, 0, none⟩) (natL (x / y)).length (la - n), .slice A6 (natL (x % y)).length c6])) w5) :=
     J ⟨_, _, _, _, rfl, hrq, hr6, hbl.out.trans (hb6.mono hbl.out.size)⟩
    clear hr6 hb6 hQ5 hk2 hrq
    rw [Nat.mul_div_cancel _ (Nat.two_pow_pos s)]
    go_wp2_with fail
    refine hT2.out.mono ?_
    rintro e w6 ⟨rfl, rfl⟩
    clear hT2
    go_wp2
    go_ret2
    exact HR.out
end Nat32
namespace Inv
open Go.RowKit Base Mem NatM Nat32
def natOf (w : World) : Value → Nat
 | .slice (some a) n _ => val ((List.range n).map fun i => match w.cell? ⟨a.block, a.off + i, none⟩ with
  | some (.int _ x) => x.toNat
  | _ => 0)
 | _ => 0
theorem natOf_eq {w : World} {B c : Nat} {A : Option Addr} {xs : List Nat} (h : RdU w B A xs) : natOf w (.slice A xs.length c) = val xs := by
 rcases Nat.eq_zero_or_pos xs.length with h0 | h0
 ·have e := List.length_eq_zero_iff.1 h0
  subst e
  cases A <;> simp [natOf, val]
 ·obtain ⟨b, off, rfl, _, hc⟩ := h h0
  show val _ = val xs
  congr 1
  refine List.ext_getElem (by simp) fun i h1 h2 => ?_
  simp only [List.getElem_map, List.getElem_range]
  rw [hc i h2]
  simp [List.getD, h2]
attribute [irreducible] natOf
def ShRel (x y : Nat) (w : World) (av bv : Value) (wr : World) : Prop :=
 ∃ (p q : Nat) (A A' : Option Addr) (c c' : Nat), av = .slice A (natL p).length c ∧ bv = .slice A' (natL q).length c' ∧ p ≤ 36000000 ∧ q ≤ 36000000 ∧ Hid (Nat.gcd p q = Nat.gcd x y) ∧ Hid (RdU wr wr.heap.size A (natL p)) ∧ Hid (RdU wr wr.heap.size A' (natL q)) ∧ Hid (Below w.heap.size w wr)
theorem len_pos {q : Nat} (h : 0 < q) : 0 < (natL q).length := by
 rcases Nat.eq_zero_or_pos (natL q).length with h0 | h0
 ·have := natL_val q
  rw [List.length_eq_zero_iff.1 h0, val] at this
  omega
 ·exact h0
structure Rat3 (W : World) (b : Nat) (x0 x1 x2 : Value) : Prop where
 c0 : W.cell? ⟨b, 0, none⟩ = some x0
 c1 : W.cell? ⟨b, 1, none⟩ = some x1
 c2 : W.cell? ⟨b, 2, none⟩ = some x2
 f0 : W.frozen? ⟨b, 0, none⟩ = false
 f1 : W.frozen? ⟨b, 1, none⟩ = false
 f2 : W.frozen? ⟨b, 2, none⟩ = false
theorem Rat3.below {W W' : World} {B b : Nat} {x0 x1 x2 : Value} (h : Rat3 W b x0 x1 x2) (hb : Below B W W') (hlt : b < B) : Rat3 W' b x0 x1 x2 :=
 ⟨(hb.cell (p := ⟨b, 0, none⟩) hlt).trans h.c0, (hb.cell (p := ⟨b, 1, none⟩) hlt).trans h.c1, (hb.cell (p := ⟨b, 2, none⟩) hlt).trans h.c2, (hb.frozen (p := ⟨b, 0, none⟩) hlt).trans h.f0, (hb.frozen (p := ⟨b, 1, none⟩) hlt).trans h.f1, (hb.frozen (p := ⟨b, 2, none⟩) hlt).trans h.f2⟩
theorem frz (W : World) (p a : Addr) (v : Value) : (W.setCell p v).frozen? a = W.frozen? a := World.frozen?_setCell W p a v
theorem Rat3.set1 {W : World} {b : Nat} {x0 x1 x2 : Value} (h : Rat3 W b x0 x1 x2) (v : Value) : Rat3 (W.setCell ⟨b, 1, none⟩ v) b x0 v x2 :=
 ⟨by rw [World.cell?_setCell_other _ _ _ _ (by simp)]; exact h.c0, World.cell?_setCell_same _ _ _ h.c1, by rw [World.cell?_setCell_other _ _ _ _ (by simp)]; exact h.c2, by rw [frz]; exact h.f0, by rw [frz]; exact h.f1, by rw [frz]; exact h.f2⟩
theorem Rat3.set2 {W : World} {b : Nat} {x0 x1 x2 : Value} (h : Rat3 W b x0 x1 x2) (v : Value) : Rat3 (W.setCell ⟨b, 2, none⟩ v) b x0 x1 v :=
 ⟨by rw [World.cell?_setCell_other _ _ _ _ (by simp)]; exact h.c0, by rw [World.cell?_setCell_other _ _ _ _ (by simp)]; exact h.c1, World.cell?_setCell_same _ _ _ h.c2, by rw [frz]; exact h.f0, by rw [frz]; exact h.f1, by rw [frz]; exact h.f2⟩
theorem Rat3.set0 {W : World} {b : Nat} {x0 x1 x2 : Value} (h : Rat3 W b x0 x1 x2) (v : Value) : Rat3 (W.setCell ⟨b, 0, none⟩ v) b v x1 x2 :=
 ⟨World.cell?_setCell_same _ _ _ h.c0, by rw [World.cell?_setCell_other _ _ _ _ (by simp)]; exact h.c1, by rw [World.cell?_setCell_other _ _ _ _ (by simp)]; exact h.c2, by rw [frz]; exact h.f0, by rw [frz]; exact h.f1, by rw [frz]; exact h.f2⟩
theorem Rat3.far {W : World} {b b' i : Nat} {x0 x1 x2 : Value} (h : Rat3 W b x0 x1 x2) (hne : b' ≠ b) (v : Value) : Rat3 (W.setCell ⟨b', i, none⟩ v) b x0 x1 x2 :=
 ⟨by rw [World.cell?_setCell_far _ _ _ _ hne]; exact h.c0, by rw [World.cell?_setCell_far _ _ _ _ hne]; exact h.c1, by rw [World.cell?_setCell_far _ _ _ _ hne]; exact h.c2, by rw [frz]; exact h.f0, by rw [frz]; exact h.f1, by rw [frz]; exact h.f2⟩
theorem Rat3.new (w : World) (x0 x1 x2 : Value) (T : TypeId) : Rat3 (w.alloc (.cells #[x0, x1, x2] T)) w.heap.size x0 x1 x2 :=
 ⟨World.cell?_alloc_new w _ T 0, World.cell?_alloc_new w _ T 1, World.cell?_alloc_new w _ T 2, by simp, by simp, by simp⟩
end Inv
namespace Inv
open Go.RowKit Base Mem NatM Nat32
theorem _root_.Go.Proofs.YtgipnbeipfhekaaGreatDoor.Nat32.RdU.non {w : World} {B : Nat} {A : Option Addr} {xs : List Nat} (h : RdU w B A xs) {p : Addr} {x : Value} (hp : w.cell? p = some x) (hx : ∀ z, x ≠ .int .u32 z) (v : Value) : RdU (w.setCell p v) B A xs := fun h0 => by
 obtain ⟨b, off, e, hlt, hc⟩ := h h0
 refine ⟨b, off, e, hlt, fun i hi => ?_⟩
 rw [World.cell?_setCell_other _ _ _ _ (fun e => by
  have := hc i hi
  rw [← e, hp] at this
  injection this with this
  exact hx _ this)]
 exact hc i hi
theorem not_slice (a : Option Addr) (n c : Nat) : ∀ z, Value.slice a n c ≠ .int .u32 z := fun z h => by cases h
theorem not_bool (b : Bool) : ∀ z, Value.bool b ≠ .int .u32 z := fun z h => by cases h
end Inv
namespace Inv
open Go.RowKit Base Mem NatM Nat32
theorem Rat3.newd (V : World) (x0 x1 x2 : Value) (T : TypeId) : Rat3 ((V.alloc (.cells #[x0, x1, x2] T)).drew) V.heap.size x0 x1 x2 := (Rat3.new V x0 x1 x2 T).below ((Below.refl (V.heap.size + 1) _).drew) (Nat.lt_succ_self _)
end Inv
namespace Inv
open Go.RowKit Base Mem NatM Nat32
end Inv
namespace Ratio
open Go.RowKit Base Mem NatM Nat32 RatM
open YtgipnbeipfhekaaGreatDoor.Inv (natOf natOf_eq len_pos Rat3 not_slice not_bool frz)
theorem natL_mono {x y : Nat} (h : x ≤ y) : (natL x).length ≤ (natL y).length := by
 rcases Nat.lt_or_ge (natL y).length (natL x).length with h1 | h1
 ·have := natL_len_lt h1; omega
 ·exact h1
def ShRel (x y : Nat) (w : World) (av bv : Value) (wr : World) : Prop :=
 ∃ (p q : Nat) (A A' : Option Addr) (c c' : Nat), av = .slice A (natL p).length c ∧ bv = .slice A' (natL q).length c' ∧ (natL p).length ≤ 1000000 ∧ (natL q).length ≤ 1000000 ∧ Hid (Nat.gcd p q = Nat.gcd x y) ∧ Hid (RdU wr wr.heap.size A (natL p)) ∧ Hid (RdU wr wr.heap.size A' (natL q)) ∧ Hid (Below w.heap.size w wr)
theorem sharedG (x y : Nat) (A A' : Option Addr) (c c' : Nat) (w : World) (hx : RdU w w.heap.size A (natL x)) (hy : RdU w w.heap.size A' (natL y)) (hl : (natL x).length ≤ 1000000) (hl' : (natL y).length ≤ 1000000) :
  Calls Tryz.prog 231 #[.slice A (natL x).length c, .slice A' (natL y).length c'] w (NRet (Nat.gcd x y) w) := by
 have H0 : Hid (ShRel x y w (.slice A (natL x).length c) (.slice A' (natL y).length c') w) := J ⟨x, y, A, A', c, c', rfl, rfl, hl, hl', J rfl, J hx, J hy, J (Below.refl _ _)⟩
 clear hx hy
 go_enter Tryz.func231, Tryz.ntmps231
 go_wp2
 go_loopw [0, 1] (fun av bv wr => ShRel x y w av bv wr) (fun _ bv wr => natOf wr bv)
 case atStart => exact H0.out
 case round =>
  obtain ⟨p, q, A1, A2, c1, c2, rfl, rfl, hp, hq, hg, hr1, hr2, hb⟩ := hrel
  clear H0
  by_cases hpos : 0 < q
  ·have hlq := len_pos hpos
   have HO := J (over_any p q A1 A2 c1 c2 wr.heap.size wr.heap.size wr hr1.out (Nat.le_refl _) hr2.out (Nat.le_refl _) (by omega) (by omega) hpos)
   go_wp2_with fail
   refine HO.out.mono ?_
   rintro e w1 ⟨A3, c3, A4, c4, rfl, hr3, hr4, hb2⟩
   clear HO
   have hlt := Nat.mod_lt p hpos
   have HN : Hid (ShRel x y w (.slice A2 (natL q).length c2) (.slice A4 (natL (p % q)).length c4) w1) :=
    J ⟨q, p % q, A2, A4, c2, c4, rfl, rfl, hq, Nat.le_trans (natL_mono (Nat.le_of_lt (Nat.mod_lt p hpos))) hq, J (by rw [← hg.out, Nat.gcd_comm q, ← Nat.gcd_rec, Nat.gcd_comm]), J ((hr2.out.below hb2 (Nat.le_refl _)).more hb2.size), J hr4, J (hb.out.trans (hb2.mono hb.out.size))⟩
   have HM : Hid (natOf w1 (.slice A4 (natL (p % q)).length c4) < natOf wr (.slice A2 (natL q).length c2)) := J (by
    rw [natOf_eq hr4, natOf_eq hr2.out, natL_val, natL_val]; exact hlt)
   clear hr3 hr4 hb2 hlt
   go_wp2
   go_roundw
   case rel => exact HN.out
   case measure => exact HM.out
  ·obtain rfl : q = 0 := by omega
   have hG := hg.out
   rw [Nat.gcd_zero_right] at hG
   rw [natL_zero, List.length_nil]
   have HR : Hid (NRet (Nat.gcd x y) w (.returned (.slice A1 (natL p).length c1)) wr) := J ⟨A1, c1, by rw [hG], by rw [← hG]; exact hr1.out, hb.out⟩
   clear hG
   go_wp2
   go_ret
   exact HR.out
def RtRet (s : Bool) (p q : Nat) (w : World) (e : Ending) (w' : World) : Prop := ∃ A c A' c', e = .returned (.agg #[.bool s, .slice A (natL p).length c, .slice A' (natL q).length c']) ∧ RdU w' w'.heap.size A (natL p) ∧ RdU w' w'.heap.size A' (natL q) ∧ Below w.heap.size w w'
theorem lowestG_pos (s : Bool) (v u : Nat) (A A' : Option Addr) (c c' : Nat) (w : World) (hx : RdU w w.heap.size A (natL v)) (hy : RdU w w.heap.size A' (natL u)) (hv : (natL v).length ≤ 1000000) (hu : (natL u).length ≤ 1000000) (hv0 : 0 < v) (hu0 : 0 < u) :
  Calls Tryz.prog 197 #[.agg #[.bool s, .slice A (natL v).length c, .slice A' (natL u).length c']] w (RtRet s (v / Nat.gcd v u) (u / Nat.gcd v u) w) := by
 have hg0 : 0 < Nat.gcd v u := Nat.gcd_pos_of_pos_left u hv0
 have lv := len_pos hv0
 have l3 : (natL (Nat.gcd v u)).length ≤ 1000000 := Nat.le_trans (natL_mono (Nat.gcd_le_left u hv0)) hv
 obtain ⟨W0, hW0⟩ : ∃ W0, W0 = (w.alloc (.cells #[.bool s, .slice A (natL v).length c, .slice A' (natL u).length c'] 147)).alloc (.cells #[.bool false, .slice none 0 0, .slice none 0 0] 147) := ⟨_, rfl⟩
 have hB0 : Below w.heap.size w W0 := by rw [hW0]; exact ((Below.refl _ _).alloc (Nat.le_refl _) _).alloc (by simp) _
 have r1 : Rat3 W0 w.heap.size (.bool s) (.slice A (natL v).length c) (.slice A' (natL u).length c') := by
  rw [hW0]; exact (Rat3.new w _ _ _ _).below ((Below.refl (w.heap.size + 1) _).alloc (by simp) _) (Nat.lt_succ_self _)
 have r2 : Rat3 W0 (w.heap.size + 1) (.bool false) (.slice none 0 0) (.slice none 0 0) := by
  rw [hW0]
  have := Rat3.new (w.alloc (.cells #[.bool s, .slice A (natL v).length c, .slice A' (natL u).length c'] 147)) (.bool false) (.slice none 0 0) (.slice none 0 0) 147
  simpa using this
 have hz0 : w.heap.size + 2 ≤ W0.heap.size := by rw [hW0]; simp
 have hS := J (sharedG v u A A' c c' W0 ((hx.below hB0 (Nat.le_refl _)).more hB0.size) ((hy.below hB0 (Nat.le_refl _)).more hB0.size) hv hu)
 have HX := J (hx.below hB0 (Nat.le_refl _))
 have HY := J (hy.below hB0 (Nat.le_refl _))
 have HB0 := J hB0
 clear hx hy hB0
 go_enter Tryz.func197, Tryz.ntmps197
 go_wp2_with fail
 rw [← hW0]
 refine hS.out.mono ?_
 rintro e w1 ⟨A1, c1, rfl, hg1, hb1⟩
 clear hS hW0
 have hz1 := hb1.size
 have q1 := r1.below hb1 (by omega)
 have q2 := r2.below hb1 (by omega)
 have hBw1 : Below w.heap.size w w1 := HB0.out.trans (hb1.mono HB0.out.size)
 have HO := J (over_any v (Nat.gcd v u) A A1 c c1 w.heap.size w1.heap.size w1 (HX.out.below hb1 HB0.out.size) (by omega) hg1 (Nat.le_refl _) (by omega) (by omega) hg0)
 have HBw1 := J hBw1
 have Hg1 := J hg1
 have HY1 := J (HY.out.below hb1 HB0.out.size)
 have Q1 := J q1
 have Q2 := J q2
 obtain ⟨d0, d1, d2, f0, f1, f2⟩ := q1
 clear r1 r2 HX HY HB0 hb1 hg1 hBw1 q2
 go_wp2_with fail
 refine HO.out.mono ?_
 rintro e w2 ⟨A2, c2, A3, c3, rfl, hr2, _, hb2⟩
 clear HO d0 d1 d2 f0 f1 f2
 have hz2 := hb2.size
 have q1 := Q1.out.below hb2 (by omega)
 have q2 := Q2.out.below hb2 (by omega)
 obtain ⟨w3, hw3⟩ : ∃ w3, w3 = w2.setCell ⟨w.heap.size, 1, none⟩ (.slice A2 (natL (v / Nat.gcd v u)).length c2) := ⟨_, rfl⟩
 have hb3 : Below w.heap.size w w3 := by rw [hw3]; exact (HBw1.out.trans (hb2.mono (by omega))).setCell (Nat.le_refl _) _
 have hz3 : w3.heap.size = w2.heap.size := by rw [hw3]; simp
 have t1 : Rat3 w3 w.heap.size (.bool s) (.slice A2 (natL (v / Nat.gcd v u)).length c2) (.slice A' (natL u).length c') := by rw [hw3]; exact q1.set1 _
 have t2 : Rat3 w3 (w.heap.size + 1) (.bool false) (.slice none 0 0) (.slice none 0 0) := by rw [hw3]; exact q2.far (by omega) _
 have hr3 : RdU w3 w3.heap.size A2 (natL (v / Nat.gcd v u)) := by rw [hz3, hw3]; exact hr2.non q1.c1 (not_slice _ _ _) _
 have hg3 : RdU w3 w3.heap.size A1 (natL (Nat.gcd v u)) := by
  rw [hz3, hw3]; exact ((Hg1.out.below hb2 (Nat.le_refl _)).more hb2.size).non q1.c1 (not_slice _ _ _) _
 have hy3 : RdU w3 w3.heap.size A' (natL u) := by
  rw [hz3, hw3]; exact ((HY1.out.below hb2 (by omega)).more (by omega)).non q1.c1 (not_slice _ _ _) _
 have HO := J (over_any u (Nat.gcd v u) A' A1 c' c1 w3.heap.size w3.heap.size w3 hy3 (Nat.le_refl _) hg3 (Nat.le_refl _) (by omega) (by omega) hg0)
 have HR3 := J hr3
 have HB3 := J hb3
 have T1 := J t1
 have T2 := J t2
 have Hw3 := J hw3
 obtain ⟨d0, d1, d2, f0, f1, f2⟩ := q1
 clear hb3 t1 t2 hr3 hg3 hy3 hw3 hr2 hb2 q2 Q1 Q2 Hg1 HY1 HBw1
 go_wp2_with fail
 rw [← Hw3.out]
 refine HO.out.mono ?_
 rintro e w4 ⟨A4, c4, A5, c5, rfl, hr4, _, hb4⟩
 clear HO d0 d1 d2 f0 f1 f2
 have hz4 := hb4.size
 have q1 := T1.out.below hb4 (by omega)
 have q2 := T2.out.below hb4 (by omega)
 have hb5 : Below w.heap.size w w4 := HB3.out.trans (hb4.mono (by omega))
 have hr5 : RdU w4 w4.heap.size A2 (natL (v / Nat.gcd v u)) := (HR3.out.below hb4 (Nat.le_refl _)).more hb4.size
 obtain ⟨s1, hs1⟩ : ∃ s1, s1 = Value.slice A2 (natL (v / Nat.gcd v u)).length c2 := ⟨_, rfl⟩
 obtain ⟨s2, hs2⟩ : ∃ s2, s2 = Value.slice A4 (natL (u / Nat.gcd v u)).length c4 := ⟨_, rfl⟩
 have n5 := q1.set2 s2
 have m5 := q2.far (show w.heap.size ≠ w.heap.size + 1 by omega) (i := 2) s2
 have m6 := m5.set0 (.bool s)
 have m7 := m6.set1 s1
 have m8 := m7.set2 s2
 have n6 := n5.far (show w.heap.size + 1 ≠ w.heap.size by omega) (i := 0) (.bool s)
 have HR : Hid (RtRet s (v / Nat.gcd v u) (u / Nat.gcd v u) w (.returned (.agg #[.bool s, s1, s2])) ((((w4.setCell ⟨w.heap.size, 2, none⟩ s2).setCell ⟨w.heap.size + 1, 0, none⟩ (.bool s)).setCell ⟨w.heap.size + 1, 1, none⟩ s1).setCell ⟨w.heap.size + 1, 2, none⟩ s2)) := J (by
  refine ⟨A2, c2, A4, c4, by rw [hs1, hs2], ?_, ?_, ?_⟩
  ·simp only [World.size_setCell]
   exact (((hr5.non q1.c2 (not_slice _ _ _) _).non m5.c0 (not_bool _) _).non m6.c1 (not_slice _ _ _) _).non m7.c2 (not_slice _ _ _) _
  ·simp only [World.size_setCell]
   exact (((hr4.non q1.c2 (not_slice _ _ _) _).non m5.c0 (not_bool _) _).non m6.c1 (not_slice _ _ _) _).non m7.c2 (not_slice _ _ _) _
  ·exact (((hb5.setCell (Nat.le_refl _) _).setCell (Nat.le_succ _) _).setCell (Nat.le_succ _) _).setCell (Nat.le_succ _) _)
 subst hs1 hs2
 obtain ⟨d0, d1, d2, df0, df1, df2⟩ := q1
 obtain ⟨p0, p1, p2, pf0, pf1, pf2⟩ := q2
 obtain ⟨x0, x1, x2, xf0, xf1, xf2⟩ := n5
 obtain ⟨y0, y1, y2, yf0, yf1, yf2⟩ := m5
 obtain ⟨m60, m61, m62, mf60, mf61, mf62⟩ := m6
 obtain ⟨m70, m71, m72, mf70, mf71, mf72⟩ := m7
 obtain ⟨m80, m81, m82, mf80, mf81, mf82⟩ := m8
 clear n6 hb5 hr5 hr4 hb4
 go_wp2
 refine bodyPost_ret (v := .agg #[.bool s, .slice A2 (natL (v / Nat.gcd v u)).length c2, .slice A4 (natL (u / Nat.gcd v u)).length c4]) (by simp [results, Tryz.results197, go_sem, m80, m81, m82]) rfl HR.out
end Ratio
namespace Ratio
open Go.RowKit Base Mem NatM Nat32 RatM
open YtgipnbeipfhekaaGreatDoor.Inv (natOf natOf_eq len_pos Rat3 not_slice not_bool frz)
theorem size_int (n : Int) (hn : n.natAbs ≤ 1000000000000000000) (w : World) : Calls Tryz.prog 83 #[.int .i64 n] w fun e w' => e = .returned (.int .i64 ((n.natAbs : Nat) : Int)) ∧ w = w' := by
 have e1 : max n (-n) = ((n.natAbs : Nat) : Int) := by omega
 have hb1 : -1000000000000000000 ≤ n := by omega
 have hb2 : n ≤ 1000000000000000000 := by omega
 go_enter Tryz.func83, Tryz.ntmps83
 go_wp2
 go_ret
 exact ⟨by first | rfl | (rw [e1]; rfl) | (rw [← e1]; rfl) | (simp; omega), rfl⟩
def QF (n d : Int) (w W : World) : Prop := W.cell? ⟨w.heap.size, 0, none⟩ = some (.int .i64 n) ∧ W.cell? ⟨w.heap.size, 1, none⟩ = some (.int .i64 d) ∧ Rat3 W (w.heap.size + 1) (.bool false) (.slice none 0 0) (.slice none 0 0) ∧ Below w.heap.size w W ∧ w.heap.size + 2 ≤ W.heap.size
theorem QF.below {n d : Int} {w W W' : World} (h : QF n d w W) (hb : Below W.heap.size W W') : QF n d w W' := by
 obtain ⟨h1, h2, h3, h4, h5⟩ := h
 exact ⟨(hb.cell (p := ⟨w.heap.size, 0, none⟩) (show w.heap.size < W.heap.size by omega)).trans h1, (hb.cell (p := ⟨w.heap.size, 1, none⟩) (show w.heap.size < W.heap.size by omega)).trans h2, h3.below hb (by omega), h4.trans (hb.mono (by omega)), by have := hb.size; omega⟩
theorem QF.start (n d : Int) (w : World) : QF n d w (((w.alloc (.cells #[.int .i64 n, .int .i64 d] 49)).alloc (.cells #[.bool false, .slice none 0 0, .slice none 0 0] 147)).drew) := by
 have hA : Below (w.alloc (.cells #[.int .i64 n, .int .i64 d] 49)).heap.size (w.alloc (.cells #[.int .i64 n, .int .i64 d] 49)) (((w.alloc (.cells #[.int .i64 n, .int .i64 d] 49)).alloc (.cells #[.bool false, .slice none 0 0, .slice none 0 0] 147)).drew) := ((Below.refl _ _).alloc (Nat.le_refl _) _).drew
 refine ⟨box_cells hA 0, box_cells hA 1, ?_, Base.Below.boxed hA, by simp⟩
 have r := Inv.Rat3.newd (w.alloc (.cells #[.int .i64 n, .int .i64 d] 49)) (.bool false) (.slice none 0 0) (.slice none 0 0) 147
 rw [World.size_alloc] at r
 exact r
theorem ratioOf_any (n d : Int) (hn : n.natAbs ≤ 1000000000000000000) (hd : 0 ≤ d) (hd2 : d ≤ 1000000000000000000) (w : World) : Calls Tryz.prog 96 #[.agg #[.int .i64 n, .int .i64 d]] w (RtRet (decide (n < 0)) n.natAbs d.toNat w) := by
 have HQ := J (QF.start n d w)
 go_enter Tryz.func96, Tryz.ntmps96
 go_wp2_with fail
 obtain ⟨L0, hL0⟩ : ∃ L0, natL n.natAbs = L0 := ⟨_, rfl⟩
 obtain ⟨L1, hL1⟩ : ∃ L1, natL d.toNat = L1 := ⟨_, rfl⟩
 obtain ⟨D, rfl⟩ := Int.eq_ofNat_of_zero_le hd
 rw [Int.toNat_natCast] at hL1
 have HSz := J (fun W => size_int n hn W)
 have HN0 : Hid (∀ X, QF n (D : Int) w X → Calls Tryz.prog 157 #[.int .i64 ((n.natAbs : Nat) : Int)] X fun e w' => ∃ A c, e = .returned (.slice A L0.length c) ∧ RdU w' w'.heap.size A L0 ∧ QF n (D : Int) w w') := J fun X hX => (naturalOf_any n.natAbs (by omega) X).mono fun e w' ⟨A, c, h1, h2, h3⟩ => ⟨A, c, by rw [h1, hL0], by rw [← hL0]; exact h2, hX.below h3⟩
 have HN1 : Hid (∀ X L0 A0, QF n (D : Int) w X → RdU X X.heap.size A0 L0 → Calls Tryz.prog 157 #[.int .i64 (D : Int)] X fun e w' => ∃ A c, e = .returned (.slice A L1.length c) ∧ RdU w' w'.heap.size A L1 ∧ RdU w' w'.heap.size A0 L0 ∧ QF n (D : Int) w w') := J fun X L0 A0 hX hr => (naturalOf_any D (by omega) X).mono fun e w' ⟨A, c, h1, h2, h3⟩ => ⟨A, c, by rw [h1, hL1], by rw [← hL1]; exact h2, (hr.below h3 (Nat.le_refl _)).more h3.size, hX.below h3⟩
 have HL0 := J hL0
 have HL1 := J hL1
 clear hL0 hL1
 generalize n.natAbs = m at *
 go_region_held3 (fun w' => w'.cell? ⟨w.heap.size, 0, none⟩ = some (.int .i64 n) ∧ w'.cell? ⟨w.heap.size, 1, none⟩ = some (.int .i64 (D : Int)))
  (first | go_keep | (exact ⟨by assumption, by assumption⟩))
  (first | (go_at_call 83; refine (HSz.out _).mono ?_; rintro e w1 ⟨rfl, rfl⟩) | (go_at_call 157; refine (HN1.out _ _ _ HQ1.out Hr1.out).mono ?_; rintro e w2 ⟨A2, c2, rfl, hr2, hr1b, hq2⟩; have Hr1b := J hr1b; clear hr1b; have Hr2 := J hr2; have HQ2 := J hq2; clear hr2 d0 d1 p0 p1 p2 pf0 pf1 pf2; have d0 := hq2.1; have d1 := hq2.2.1; have p0 := hq2.2.2.1.c0; have p1 := hq2.2.2.1.c1; have p2 := hq2.2.2.1.c2; have pf0 := hq2.2.2.1.f0; have pf1 := hq2.2.2.1.f1; have pf2 := hq2.2.2.1.f2; clear hq2) | (go_at_call 157; refine (HN0.out _ HQ.out).mono ?_; rintro e w1 ⟨A1, c1, rfl, hr1, hq1⟩; have Hr1 := J hr1; clear hr1; have HQ1 := J hq1; have d0 := hq1.1; have d1 := hq1.2.1; have p0 := hq1.2.2.1.c0; have p1 := hq1.2.2.1.c1; have p2 := hq1.2.2.1.c2; have pf0 := hq1.2.2.1.f0; have pf1 := hq1.2.2.1.f1; have pf2 := hq1.2.2.1.f2; clear hq1))
 all_goals
  have hq := HQ2.out.2.2.1
  have m6 := hq.set0 (.bool (decide (n < 0)))
  have m7 := m6.set1 (.slice A1 L0.length c1)
  have m8 := m7.set2 (.slice A2 L1.length c2)
  have HR : Hid (RtRet (decide (n < 0)) m D w (.returned (.agg #[.bool (decide (n < 0)), .slice A1 L0.length c1, .slice A2 L1.length c2])) (((w2.setCell ⟨w.heap.size + 1, 0, none⟩ (.bool (decide (n < 0)))).setCell ⟨w.heap.size + 1, 1, none⟩ (.slice A1 L0.length c1)).setCell ⟨w.heap.size + 1, 2, none⟩ (.slice A2 L1.length c2))) := J (by
   refine ⟨A1, c1, A2, c2, by rw [HL0.out, HL1.out], ?_, ?_, ?_⟩
   ·rw [HL0.out]
    simp only [World.size_setCell]
    exact ((Hr1b.out.non hq.c0 (not_bool _) _).non m6.c1 (not_slice _ _ _) _).non m7.c2 (not_slice _ _ _) _
   ·rw [HL1.out]
    simp only [World.size_setCell]
    exact ((Hr2.out.non hq.c0 (not_bool _) _).non m6.c1 (not_slice _ _ _) _).non m7.c2 (not_slice _ _ _) _
   ·exact (((HQ2.out.2.2.2.1).setCell (Nat.le_succ _) _).setCell (Nat.le_succ _) _).setCell (Nat.le_succ _) _)
  have m80 := m8.c0
  have m81 := m8.c1
  have m82 := m8.c2
  clear hq m6 m7 m8
  go_wp2
  refine bodyPost_ret (v := .agg #[.bool (decide (n < 0)), .slice A1 L0.length c1, .slice A2 L1.length c2]) (by simp [results, Tryz.results96, go_sem, m80, m81, m82]) rfl HR.out
end Ratio
namespace ValF
open Go.RowKit Base Mem RatM Blk
end ValF
namespace LvF
open Go.RowKit Base Mem MemF GiveM RatM Fine Blk LvM LvQ LvO LvT LvW ValF
theorem out_len (f : Nat → Rat) : ∀ n, (outF f n).length = 2 * n
 | 0 => rfl
 | n + 1 => by rw [outF, List.length_append, out_len f n]; simp; omega
theorem out_at (f : Nat → Rat) : ∀ {n i : Nat}, i < n → (outF f n).getD (2 * i) 0 = numQ (f i) ∧ (outF f n).getD (2 * i + 1) 0 = denQ (f i)
 | 0, i, h => absurd h (Nat.not_lt_zero i)
 | n + 1, i, h => by
  have hl := out_len f n
  rw [outF]
  rcases Nat.lt_or_ge i n with g | g
  ·obtain ⟨h1, h2⟩ := out_at f g
   simp only [List.getD] at h1 h2 ⊢
   rw [List.getElem?_append_left (by omega), List.getElem?_append_left (by omega)]
   exact ⟨h1, h2⟩
  ·obtain rfl : i = n := by omega
   simp only [List.getD]
   rw [List.getElem?_append_right (by omega), List.getElem?_append_right (by omega), hl]
   simp
theorem nD_vf {n x : Nat} (hx : x ≤ 2 ^ n) (hn : n ≤ 50) : VF (nD n x) (dD n x) := by
 obtain ⟨h1, h2⟩ := dy_numQ hx hn
 unfold nD dD
 rw [h1, h2]
 exact dy_vf hx hn
theorem rdD {w : World} {B n N : Nat} {A : Option Addr} {C : Cnt} (h : RdF w B A N (outF (fD C n) N)) {j : Nat} (hj : j < N) : ∃ b off, A = some ⟨b, off, none⟩ ∧ b < B ∧ w.cell? ⟨b, off + j * 2, none⟩ = some (.int .i64 (nD n (C.c j))) ∧ w.cell? ⟨b, off + j * 2 + 1, none⟩ = some (.int .i64 (dD n (C.c j))) := by
 obtain ⟨b, off, e, hb, h1, h2⟩ := h.at hj
 obtain ⟨e1, e2⟩ := out_at (fD C n) hj
 rw [e1] at h1
 rw [e2] at h2
 exact ⟨b, off, e, hb, h1, h2⟩
end LvF
namespace LvG
open Go.RowKit Base Mem MemF GiveM RatM Blk LvM LvQ LvO LvT LvW LvF
theorem rdV {w : World} {B N : Nat} {A : Option Addr} {C : Cnt} (h : RdI w B A (fl N (vD C))) {j : Nat} (hj : j < N) : ∃ b off, A = some ⟨b, off, none⟩ ∧ b < B ∧ ∀ i, i < N → w.cell? ⟨b, off + i, none⟩ = some (.int .i64 ((C.first + i : Nat) : Int)) := by
 obtain ⟨b, off, e, hb, hc⟩ := h (by rw [fl_len]; omega)
 refine ⟨b, off, e, hb, fun i hi => ?_⟩
 have := hc i (by rw [fl_len]; exact hi)
 rw [fl_at _ hi] at this
 exact this
end LvG
end Go.Proofs.YtgipnbeipfhekaaGreatDoor

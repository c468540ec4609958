/- The program's naturals: the zeros at the front of a digit; a copy of digits. -/
import Derived.Test.YtjkcdnfmmfpbjaaNatDown
import Derived.Shelf.Lay
import Derived.Shelf.Small.Bits
import Derived.Lib.ItoaNum
import Derived.Lib.SliceRun
import Derived.Deep.AppendSrc
import Derived.Laws.CopyOwn
namespace Go.Proofs
open Go.Shelf
def Ytjkcdnfmmfpbjaa.lays128_ren : Go.Shelf.Ren := ⟨fun | 128 => 110 | n => n, fun | 51 => 108 | 3 => 3 | 4 => 4 | 46 => 54 | 5 => 5 | 9 => 9 | n => n, fun | n => n⟩
theorem Ytjkcdnfmmfpbjaa.lays128 : Go.Proofs.Lays.n128 Try.prog Ytjkcdnfmmfpbjaa.lays128_ren := {
  mixed := by kernel_rfl
  f128 := Try.func110.trans (congrArg some (by kernel_rfl))
  t3 := Try.underlying3
  a3 := Try.isAgg3
  z3 := Try.sizeOf3
  v3 := Try.zeroValue3
  t4 := Try.underlying4
  a4 := Try.isAgg4
  z4 := Try.sizeOf4
  v4 := Try.zeroValue4
  t5 := Try.underlying5
  a5 := Try.isAgg5
  z5 := Try.sizeOf5
  v5 := Try.zeroValue5
  t9 := Try.underlying9
  a9 := Try.isAgg9
  z9 := Try.sizeOf9
  v9 := Try.zeroValue9
  t46 := Try.underlying54
  a46 := Try.isAgg54
  z46 := Try.sizeOf54
  v46 := Try.zeroValue54
  t51 := Try.underlying108
  a51 := Try.isAgg108
  z51 := Try.sizeOf108
  v51 := Try.zeroValue108 }
def Ytjkcdnfmmfpbjaa.lays133_ren : Go.Shelf.Ren := ⟨fun | 133 => 103 | 128 => 110 | n => n, fun | 51 => 108 | 3 => 3 | 4 => 4 | 46 => 54 | 5 => 5 | 9 => 9 | n => n, fun | n => n⟩
theorem Ytjkcdnfmmfpbjaa.lays133 : Go.Proofs.Lays.n133 Try.prog Ytjkcdnfmmfpbjaa.lays133_ren := {
  mixed := by kernel_rfl
  f128 := Try.func110.trans (congrArg some (by kernel_rfl))
  f133 := Try.func103.trans (congrArg some (by kernel_rfl))
  t3 := Try.underlying3
  a3 := Try.isAgg3
  z3 := Try.sizeOf3
  v3 := Try.zeroValue3
  t4 := Try.underlying4
  a4 := Try.isAgg4
  z4 := Try.sizeOf4
  v4 := Try.zeroValue4
  t5 := Try.underlying5
  a5 := Try.isAgg5
  z5 := Try.sizeOf5
  v5 := Try.zeroValue5
  t9 := Try.underlying9
  a9 := Try.isAgg9
  z9 := Try.sizeOf9
  v9 := Try.zeroValue9
  t46 := Try.underlying54
  a46 := Try.isAgg54
  z46 := Try.sizeOf54
  v46 := Try.zeroValue54
  t51 := Try.underlying108
  a51 := Try.isAgg108
  z51 := Try.sizeOf108
  v51 := Try.zeroValue108 }
end Go.Proofs
namespace Go.Proofs.Ytjkcdnfmmfpbjaa.Nat32
open Go.RowKit Go.Proofs.Ytjkcdnfmmfpbjaa Go.Proofs.Ytjkcdnfmmfpbjaa.Base Go.Proofs.Ytjkcdnfmmfpbjaa.Mem Go.Proofs.Ytjkcdnfmmfpbjaa.NatM
set_option linter.unusedVariables false
/-- the zeros at the front of a digit that is not 0 -/
def ClzRet (x : Nat) (w : World) (e : Ending) (w' : World) : Prop := ∃ s : Nat, e = .returned (.int .i64 (s : Int)) ∧ s ≤ 31 ∧ x * 2 ^ s < B32 ∧ w = w'
theorem clz_any (x : Nat) (h0 : 0 < x) (h1 : x < B32) (w : World) : Calls Try.prog 103 #[.int .u32 (x : Int)] w (ClzRet x w) := by
  unfold B32 at h1
  refine (Go.Proofs.Any.bits_LeadingZeros32 Ytjkcdnfmmfpbjaa.lays133 (x : Int) w (by omega) (by omega)).mono ?_
  rintro e w' ⟨rfl, rfl⟩
  have hb := Lib.bitLenAux_bounds 64 x (by omega) (by omega)
  have hl := Lib.bitLen_le x 32 (by omega) (by omega)
  have e0 : Lib.bitLenAux 64 x = Lib.bitLen x := rfl
  rw [e0] at hb
  have et : (x : Int).toNat = x := Int.toNat_natCast x
  rw [et]
  refine ⟨32 - Lib.bitLen x, ?_, by omega, ?_, rfl⟩
  · rw [Int.ofNat_sub hl]; rfl
  · have h := Nat.mul_lt_mul_of_pos_right hb.2.2 (Nat.two_pow_pos (32 - Lib.bitLen x))
    rw [← Nat.pow_add, show Lib.bitLen x + (32 - Lib.bitLen x) = 32 by omega] at h
    exact h
theorem us_one (xs : List Nat) : ∀ u ∈ us xs, u.oneCell' = true := by
  intro u hu
  obtain ⟨x, _, rfl⟩ := List.mem_map.1 hu
  rfl
theorem rdu_news {w : World} {B : Nat} {A : Option Addr} {xs : List Nat} (h : RdU w B A xs) {ad : Addr} (e : A = some ad) : ∀ j u, (us xs)[j]? = some u → w.cell? (ad.add j) = some u := fun j u hj => by
  have hl : j < xs.length := by
    have := (List.getElem?_eq_some_iff.1 hj).1
    rwa [us_len] at this
  obtain ⟨b, off, e2, _, hc⟩ := h (by omega)
  rw [e] at e2
  injection e2 with e2
  subst e2
  rw [us_get xs j hl] at hj
  injection hj with hj
  rw [← hj, Addr.add_lit]
  exact hc j hl
/-- copied digits -/
def CopyRet (xs : List Nat) (w : World) (e : Ending) (w' : World) : Prop := ∃ A c, e = .returned (.slice A xs.length c) ∧ xs.length ≤ c ∧ c ≤ 9223372036854775807 ∧ RdU w' w'.heap.size A xs ∧ Below w.heap.size w w'
theorem copy_ret {w w' : World} {v : Value} {xs : List Nat} {o : Obj} (hown : w'.ownsRow w.heap.size 108 1 v xs.length (us xs)) (hg : (w.alloc o).grownBy w' (some w.heap.size)) : CopyRet xs w (.returned v) w' := by
  have h2 : OwnU w' w.heap.size v xs := hown
  have hB := ((Below.refl w.heap.size w).alloc (Nat.le_refl _) o).trans (grown_below hg (fun g e => by injection e with e; omega) (by simp))
  rcases hown.2 with ⟨rfl, h0⟩ | ⟨g, cap, cur, rfl, _, _, h3, h4, _⟩
  · exact ⟨none, 0, by rw [h0], by omega, by omega, fun hp => by omega, hB⟩
  · exact ⟨_, cap, rfl, h3, by simpa [maxLen] using h4, h2.rd, hB⟩
set_option maxHeartbeats 1000000 in
theorem clone_u (A : Option Addr) (c B : Nat) (xs : List Nat) (w : World) (hx : RdU w B A xs) (hB : B ≤ w.heap.size) (hl : xs.length ≤ 10000000) (hpos : 0 < xs.length) :
    Calls Try.prog 106 #[.slice A xs.length c] w (CopyRet xs w) := by
  obtain ⟨i0, hi, hz0, hz1, hz2⟩ := info_parts infoU
  have q22 : ∀ (w : World) (a : Option Addr) (n c n' c' : Nat), (binOp .eql 74 (.slice a n c) (.slice none n' c')).run Try.prog w = .ok (.bool a.isNone) w := fun w a n c n' c' => Lib.run_eql_slice_nil w _ _ a n c n' c' Try.underlying74
  obtain ⟨b, off, rfl, _, _⟩ := hx hpos
  have HN := Lib.hid (rdu_news (hx.below ((Below.refl w.heap.size w).alloc (Nat.le_refl _) (.cells #[] 108)) hB) rfl)
  have HW := Lib.hid (World.ownsRow_made (base := w.heap.size) (e := 108) (size := 1) w #[] 0 (Nat.le_refl _) (Nat.zero_le _) rfl)
  clear hx
  go_enter Try.func106, Try.ntmps106
  go_wp2_with (at_builtin; refine wpList_append_own_at _ rfl (.tmp 5) (.tmp 6) 74 rfl w.heap.size 108 i0 (.int .u32 0) 1 4 Try.underlying74 hi hz0 hz1 hz2 rfl (by decide) _ _ _ rfl HW.out ⟨b, off, none⟩ xs.length c (us xs) rfl ?p1 ?p2 ?p3 ?p4 ?p5 ?p6 ?_)
  try case p1 => simp [us_len]
  try case p2 => exact HN.out
  try case p3 => exact us_one xs
  try case p4 => first | (simp only [maxLen]; omega) | omega
  try case p5 => omega
  try case p6 => first | (simp only [World.size_alloc]; omega) | omega
  intro v' w2 hown' hg' _ he
  have HN2 := Lib.hid (copy_ret (by simpa using hown') hg')
  clear hown' hg' he
  go_wp2
  go_ret
  exact HN2.out
/-- a block of digits -/
def RowU (w : World) (g : Nat) (xs : List Nat) : Prop := w.heap[g]? = some (.cells (us xs).toArray 108 (0, 0))
theorem OwnU.row {w : World} {B g n : Nat} {xs : List Nat} (h : OwnU w B (.slice (some ⟨g, 0, none⟩) n n) xs) (hn : xs.length = n) : RowU w g xs := by
  have h' : w.ownsRow B 108 1 (.slice (some ⟨g, 0, none⟩) n n) xs.length (us xs) := h
  rcases h'.2 with ⟨h0, _⟩ | ⟨g', cap, cur, hv, _, hg, _, _, hs, ht⟩
  · cases h0
  · injection hv with h1 h2 h3
    injection h1 with h1
    injection h1 with h1
    subst h1 h3
    rw [Nat.mul_one] at hs ht
    rw [List.take_of_length_le (by rw [Array.length_toList]; omega)] at ht
    unfold RowU
    rw [hg, ← ht]
theorem RowU.lt {w : World} {g : Nat} {xs : List Nat} (h : RowU w g xs) : g < w.heap.size := (Array.getElem?_eq_some_iff.1 h).1
theorem RowU.below {w w' : World} {B g : Nat} {xs : List Nat} (h : RowU w g xs) (hb : Below B w w') (hg : g < B) : RowU w' g xs := (hb.block g hg).trans h
theorem RowU.cell {w : World} {g : Nat} {xs : List Nat} (h : RowU w g xs) (i : Nat) (hi : i < xs.length) : w.cell? ⟨g, i, none⟩ = some (.int .u32 ((xs.getD i 0 : Nat) : Int)) ∧ w.frozen? ⟨g, i, none⟩ = false := by
  have h' : w.heap[g]? = some (.cells (us xs).toArray 108 (0, 0)) := h
  have hg := us_get xs i hi
  refine ⟨?_, ?_⟩
  · simp only [World.cell?, h']
    simpa using hg
  · simp [World.frozen?, h']
theorem RowU.rd {w : World} {g B : Nat} {xs : List Nat} (h : RowU w g xs) (hg : g < B) (k n : Nat) (hn : k + n ≤ xs.length) : RdU w B (some ⟨g, k, none⟩) ((xs.drop k).take n) := fun h0 => by
  have hl : ((xs.drop k).take n).length = n := by simp; omega
  refine ⟨g, k, rfl, hg, fun i hi => ?_⟩
  rw [hl] at hi
  rw [(h.cell (k + i) (by omega)).1]
  congr 2
  simp [List.getD, hi]
theorem RowU.set {w : World} {g : Nat} {xs : List Nat} (h : RowU w g xs) (i x : Nat) : RowU (w.setCell ⟨g, i, none⟩ (.int .u32 (x : Int))) g (xs.set i x) := by
  have h' : w.heap[g]? = some (.cells (us xs).toArray 108 (0, 0)) := h
  unfold RowU
  rw [← us_set]
  simp [World.setCell, Array.getElem?_modify, h']
theorem RowU.clear {g : Nat} : ∀ (n k : Nat) {w : World} {xs : List Nat}, RowU w g xs → k + n ≤ xs.length → RowU (w.setCells g k (List.replicate n (.int .u32 0))) g (splice xs k (List.replicate n 0))
  | 0, k, w, xs, h, hk => by simpa [splice, World.setCells] using h
  | n + 1, k, w, xs, h, hk => by
    have h1 := h.set k 0
    have h2 := RowU.clear n (k + 1) h1 (by rw [List.length_set]; omega)
    rw [List.replicate_succ, World.setCells]
    have e : splice (xs.set k 0) (k + 1) (List.replicate n 0) = splice xs k (List.replicate (n + 1) 0) := by
      simp only [splice, List.length_replicate]
      rw [List.take_succ_eq_append_getElem (by rw [List.length_set]; omega), List.take_set, List.set_eq_of_length_le (by rw [List.length_take]; omega), List.drop_set_of_lt (by omega), List.append_assoc]
      simp [List.replicate_succ, Nat.add_assoc, Nat.add_comm 1 n]
    rw [← e]
    exact h2
end Go.Proofs.Ytjkcdnfmmfpbjaa.Nat32

/- Cells that are the same three over and over: a block that is filled by copies. -/
import Derived.Test.YtionognmgcabbaaMgIsR08
import Derived.Deep.Cut
import Derived.Test.YtionognmgcabbaaMgIsR00
import Derived.Test.YtionognmgcabbaaMgIsR07
import Derived.Shelf.Lay
import Derived.Shelf.Strconv.Itoa0
import Derived.Lib.ItoaNum
import Derived.Test.YtionognmgcabbaaMgIsR05
import Derived.Test.YtionognmgcabbaaMgIsR04
import Derived.Test.YtionognmgcabbaaMgIsR03
namespace Go.Proofs.Ytionognmgcabbaa.Ratio
open Go.RowKit Go.Proofs.Ytionognmgcabbaa Go.Proofs.Ytionognmgcabbaa.Base Go.Proofs.Ytionognmgcabbaa.Mem Go.Proofs.Ytionognmgcabbaa.NatM Go.Proofs.Ytionognmgcabbaa.Nat32 Go.Proofs.Ytionognmgcabbaa.RatM Go.Proofs.Ytionognmgcabbaa.Blk
set_option linter.unusedVariables false
/-- cells from o on are written -/
theorem blk_setCells {b : Nat} {t : TypeId} : ∀ (vs : List Value) (o : Nat) (w : World) (cs : Array Value), Blk w b t cs → ∃ cs' : Array Value, Blk (w.setCells b o vs) b t cs' ∧ cs'.size = cs.size ∧ ∀ j, j < cs.size → cs'[j]? = if o ≤ j ∧ j < o + vs.length then vs[j - o]? else cs[j]?
  | [], o, w, cs, h => ⟨cs, h, rfl, fun j hj => by rw [if_neg (by simp)]⟩
  | v :: vs, o, w, cs, h => by
    obtain ⟨cs', h1, h2, h3⟩ := blk_setCells vs (o + 1) (w.setCell ⟨b, o, none⟩ v) (cs.setIfInBounds o v) (h.set o v)
    have hz : (cs.setIfInBounds o v).size = cs.size := by simp
    refine ⟨cs', h1, h2.trans hz, fun j hj => ?_⟩
    rw [h3 j (by rw [hz]; exact hj)]
    by_cases e : j = o
    · subst e
      rw [if_neg (by omega), if_pos ⟨Nat.le_refl _, by simp⟩, Nat.sub_self, Array.getElem?_setIfInBounds_self_of_lt hj]
      rfl
    · by_cases k : o + 1 ≤ j ∧ j < o + 1 + vs.length
      · rw [if_pos k, if_pos ⟨by omega, by rw [List.length_cons]; omega⟩, show j - o = (j - (o + 1)) + 1 by omega]
        rfl
      · rw [if_neg k, if_neg (by rw [List.length_cons]; omega), Array.getElem?_setIfInBounds_ne (by omega)]
/-- one of three -/
def pk (v0 v1 v2 : Value) (j : Nat) : Value := if j = 0 then v0 else if j = 1 then v1 else v2
def rep (v0 v1 v2 : Value) (m : Nat) : List Value := (List.range (m * 3)).map fun j => pk v0 v1 v2 (j % 3)
theorem rep_len (v0 v1 v2 : Value) (m : Nat) : (rep v0 v1 v2 m).length = m * 3 := by simp [rep]
theorem rep_get (v0 v1 v2 : Value) {m j : Nat} (h : j < m * 3) : (rep v0 v1 v2 m)[j]? = some (pk v0 v1 v2 (j % 3)) := by
  simp [rep, h]
theorem rep_one {v0 v1 v2 : Value} {m : Nat} (h0 : v0.oneCell' = true) (h1 : v1.oneCell' = true) (h2 : v2.oneCell' = true) : ∀ v ∈ rep v0 v1 v2 m, v.oneCell' = true := by
  intro v hv
  obtain ⟨j, _, rfl⟩ := List.mem_map.1 hv
  unfold pk
  split
  · exact h0
  · split
    · exact h1
    · exact h2
/-- of the N elements of block g, the first n are alike -/
structure RepB (w : World) (g N n : Nat) (v0 v1 v2 : Value) : Prop where
  blk : ∃ cs, Blk w g 89 cs ∧ cs.size = N * 3 ∧ ∀ j, j < n * 3 → cs[j]? = some (pk v0 v1 v2 (j % 3))
theorem RepB.cells {w : World} {g N n : Nat} {v0 v1 v2 : Value} (h : RepB w g N n v0 v1 v2) {m : Nat} (hm : m ≤ n) : ∀ j v, (rep v0 v1 v2 m)[j]? = some v → w.cell? ⟨g, j, none⟩ = some v := fun j v hj => by
  obtain ⟨cs, K, hz, hc⟩ := h.blk
  have hl : j < m * 3 := by have := (List.getElem?_eq_some_iff.1 hj).1; rwa [rep_len] at this
  rw [rep_get _ _ _ hl] at hj
  rw [K.cell, hc j (by omega), hj]
theorem RepB.some {w : World} {g N n : Nat} {v0 v1 v2 : Value} (h : RepB w g N n v0 v1 v2) {j : Nat} (hj : j < N * 3) : (w.cell? ⟨g, j, none⟩).isSome = true := by
  obtain ⟨cs, K, hz, hc⟩ := h.blk
  rw [K.cell, Array.getElem?_eq_getElem (by omega)]; rfl
theorem RepB.frz {w : World} {g N n : Nat} {v0 v1 v2 : Value} (h : RepB w g N n v0 v1 v2) (j : Nat) : w.frozen? ⟨g, j, none⟩ = false := by
  obtain ⟨cs, K, hz, hc⟩ := h.blk
  exact K.frz j
theorem RepB.copied {w : World} {g N n m : Nat} {v0 v1 v2 : Value} (h : RepB w g N n v0 v1 v2) (hm : n + m ≤ N) : RepB (w.setCells g (n * 3) (rep v0 v1 v2 m)) g N (n + m) v0 v1 v2 := by
  obtain ⟨cs, K, hz, hc⟩ := h.blk
  obtain ⟨cs', K', hz', hc'⟩ := blk_setCells (rep v0 v1 v2 m) (n * 3) w cs K
  refine ⟨cs', K', hz'.trans hz, fun j hj => ?_⟩
  rw [hc' j (by omega), rep_len]
  by_cases e : n * 3 ≤ j
  · rw [if_pos ⟨e, by omega⟩, rep_get _ _ _ (by omega)]
    rw [show (j - n * 3) % 3 = j % 3 by omega]
  · rw [if_neg (by omega), hc j (by omega)]
theorem RepB.row {w : World} {g N : Nat} {q : Rat} {s : Bool} {A1 A2 : Option Addr} {k1 c1 k2 c2 : Nat} (h : RepB w g N N (.bool s) (.slice A1 k1 c1) (.slice A2 k2 c2)) (hq : IsRt w q (.agg #[.bool s, .slice A1 k1 c1, .slice A2 k2 c2])) : ∃ cs, RowR w g N (fun _ => q) cs := by
  obtain ⟨cs, K, hz, hc⟩ := h.blk
  refine ⟨cs, K, hz, fun i hi => ⟨s, A1, k1, c1, A2, k2, c2, ?_, ?_, ?_, hq⟩⟩
  · rw [hc _ (by omega), show (i * 3) % 3 = 0 by omega]; rfl
  · rw [hc _ (by omega), show (i * 3 + 1) % 3 = 1 by omega]; rfl
  · rw [hc _ (by omega), show (i * 3 + 2) % 3 = 2 by omega]; rfl
/-- the block as it is made -/
theorem RepB.made (w : World) (N : Nat) (v0 v1 v2 : Value) : RepB (w.alloc (.cells (madeCells (Value.agg #[.bool false, .slice none 0 0, .slice none 0 0]).cells (N * 3)) 89)) w.heap.size N 0 v0 v1 v2 := by
  refine ⟨_, Blk.new w _ _, ?_, fun j hj => absurd hj (by omega)⟩
  simp [madeCells]
end Go.Proofs.Ytionognmgcabbaa.Ratio
/- The program: a list of one ratio over and over. -/
namespace Go.Proofs.Ytionognmgcabbaa.Ratio
open Go.RowKit Go.Proofs.Ytionognmgcabbaa Go.Proofs.Ytionognmgcabbaa.Base Go.Proofs.Ytionognmgcabbaa.Mem Go.Proofs.Ytionognmgcabbaa.NatM Go.Proofs.Ytionognmgcabbaa.Nat32 Go.Proofs.Ytionognmgcabbaa.RatM Go.Proofs.Ytionognmgcabbaa.Blk
open Go.Proofs.Ytionognmgcabbaa.Inv (natOf natOf_eq len_pos Rat3 not_slice not_bool frz)
set_option linter.unusedVariables false
/-- a list that is made of one ratio -/
def RepRet (n : Nat) (q : Rat) (w : World) (e : Ending) (w' : World) : Prop := ∃ cs, e = .returned (.slice (some ⟨w.heap.size, 0, none⟩) n n) ∧ RowR w' w.heap.size n (fun _ => q) cs ∧ Below w.heap.size w w'
def RepRel (N g : Nat) (v0 v1 v2 : Value) (w : World) (nv : Value) (wr : World) : Prop :=
  ∃ n : Nat, nv = .int .i64 (n : Int) ∧ 1 ≤ n ∧ n ≤ N ∧ Hid (RepB wr g N n v0 v1 v2) ∧ Hid (Below w.heap.size w wr)
theorem infoR3 : (Try.prog.info? 89).map (·.size) = some 3 := by kernel_rfl
theorem below_setCellsG {B g : Nat} (hg : B ≤ g) : ∀ (vs : List Value) (o : Nat) {w0 w : World}, Below B w0 w → Below B w0 (w.setCells g o vs)
  | [], _, _, _, h => h
  | v :: vs, o, _, _, h => below_setCellsG hg vs (o + 1) (h.setCell (p := ⟨g, o, none⟩) hg v)
theorem RepB.drew {w : World} {g N n : Nat} {v0 v1 v2 : Value} (h : RepB w g N n v0 v1 v2) : RepB w.drew g N n v0 v1 v2 := by
  obtain ⟨cs, K, r⟩ := h.blk
  exact ⟨cs, K.drew, r⟩
/-- the copy onto itself -/
theorem run_self {wr : World} {g N n : Nat} {s : Bool} {A1 A2 : Option Addr} {k1 c1 k2 c2 : Nat} (h : RepB wr g N n (.bool s) (.slice A1 k1 c1) (.slice A2 k2 c2)) (hn : n < N) (m : Nat) (hm : m = Nat.min n (N - n)) :
    (Builtin.copy_ #[72, 72] 3 #[.slice (some ⟨g, n * 3, none⟩) (N - n) (N - n), .slice (some ⟨g, 0, none⟩) n N]).run Try.prog wr = .ok (goInt m) (wr.setCells g (n * 3) (rep (.bool s) (.slice A1 k1 c1) (.slice A2 k2 c2) m)) := by
  have h1 : m ≤ n := by rw [hm]; exact Nat.min_le_left _ _
  have h2 : m ≤ N - n := by rw [hm]; exact Nat.min_le_right _ _
  exact CopyR.run_copy_wide (P := Try.prog) wr 72 72 3 89 3 m g (n * 3) (N - n) (N - n) ⟨g, 0, none⟩ n N (rep (.bool s) (.slice A1 k1 c1) (.slice A2 k2 c2) m) Try.underlying72
    infoR3
    hm (rep_len _ _ _ _) (fun j v hj => by rw [Addr.add_lit, Nat.zero_add]; exact h.cells h1 j v hj)
    (fun j hj => by rw [rep_len] at hj; exact h.some (by omega)) (fun j hj => h.frz _) (rep_one rfl rfl rfl)
set_option maxHeartbeats 4000000 in
set_option maxRecDepth 100000 in
theorem repeat_any {c b0 N : Nat} {q : Rat} {s : Bool} {A1 A2 : Option Addr} {k1 c1 k2 c2 : Nat} (w : World) (x0 : w.cell? ⟨b0, 0, none⟩ = some (.bool s)) (x1 : w.cell? ⟨b0, 1, none⟩ = some (.slice A1 k1 c1)) (x2 : w.cell? ⟨b0, 2, none⟩ = some (.slice A2 k2 c2)) (hb0 : b0 < w.heap.size) (hq : IsRt w q (.agg #[.bool s, .slice A1 k1 c1, .slice A2 k2 c2])) (h1 : 1 ≤ N) (hN : N ≤ 1000) :
    Calls Try.prog 73 #[.slice (some ⟨b0, 0, none⟩) 1 c, .int .i64 (N : Int)] w (RepRet N q w) := by
  have HM : Hid (∀ W, Calls Try.prog 103 #[.int .u64 1, .int .u64 (N : Int)] W fun e w' => e = .returned (.tuple #[.int .u64 0, .int .u64 (N : Nat)]) ∧ W = w') := Lib.hid (fun W => by have := MulW.mulW_any 1 N W (by decide) (by omega) (by omega); rwa [Nat.one_mul] at this)
  have hmk := fun w => run_make3 N (by omega) w
  obtain ⟨g, hg⟩ : ∃ g, g = w.heap.size := ⟨_, rfl⟩
  obtain ⟨W1, hW1⟩ : ∃ W1, W1 = w.alloc (.cells (madeCells (Value.agg #[.bool false, .slice none 0 0, .slice none 0 0]).cells (N * 3)) 89) := ⟨_, rfl⟩
  have HB1 : Hid (Below w.heap.size w W1) := Lib.hid (by rw [hW1]; exact (Below.refl _ _).alloc (Nat.le_refl _) _)
  have K0 : Hid (RepB W1 g N 0 (.bool s) (.slice A1 k1 c1) (.slice A2 k2 c2)) := Lib.hid (by rw [hW1, hg]; exact RepB.made w N _ _ _)
  obtain ⟨W2, hcp, hK2, hB2⟩ : ∃ W2, (Builtin.copy_ #[72, 72] 3 #[.slice (some ⟨w.heap.size, 0, none⟩) N N, .slice (some ⟨b0, 0, none⟩) 1 c]).run Try.prog (w.alloc (.cells (madeCells #[.bool false, .slice none 0 0, .slice none 0 0] (N * 3)) 89)) = .ok (.int .i64 1) W2 ∧ RepB W2 g N 1 (.bool s) (.slice A1 k1 c1) (.slice A2 k2 c2) ∧ Below w.heap.size w W2 := by
    have hr := CopyR.run_copy_wide (P := Try.prog) W1 72 72 3 89 3 1 g 0 N N ⟨b0, 0, none⟩ 1 c (rep (.bool s) (.slice A1 k1 c1) (.slice A2 k2 c2) 1) Try.underlying72 infoR3
      (Nat.min_eq_left h1).symm (rep_len _ _ _ _) (fun j v hj => by
        have hl : j < 1 * 3 := by have := (List.getElem?_eq_some_iff.1 hj).1; rwa [rep_len] at this
        rw [rep_get _ _ _ hl] at hj
        rw [Addr.add_lit, Nat.zero_add]
        refine (HB1.out.cell (p := ⟨b0, j, none⟩) hb0).trans ?_
        rw [← hj]
        match j, hl with
        | 0, _ => exact x0
        | 1, _ => exact x1
        | 2, _ => exact x2
        | j + 3, h => exact absurd h (by omega))
      (fun j hj => by rw [rep_len] at hj; rw [Nat.zero_add]; exact K0.out.some (by omega)) (fun j hj => K0.out.frz _) (rep_one rfl rfl rfl)
    refine ⟨W1.setCells g 0 (rep (.bool s) (.slice A1 k1 c1) (.slice A2 k2 c2) 1), ?_, ?_, ?_⟩
    · rw [← hg]
      rw [hW1] at hr ⊢
      exact hr
    · have := K0.out.copied (m := 1) (by omega)
      rwa [Nat.zero_mul, Nat.zero_add] at this
    · exact below_setCellsG (Nat.le_of_eq hg.symm) _ _ HB1.out
  have HK2 := Lib.hid hK2
  have HB2 := Lib.hid hB2
  have HG := Lib.hid hg
  have HQ := Lib.hid hq
  clear hq hW1 hg x0 x1 x2 hK2 hB2 K0 HB1
  go_enter Try.func73, Try.ntmps73
  go_wp2_with fail
  refine (HM.out _).mono ?_
  rintro e w' ⟨rfl, rfl⟩
  go_wp2
  clear hcp hmk
  rw [← HG.out]
  go_loopw [8] (fun nv wr => RepRel N g (.bool s) (.slice A1 k1 c1) (.slice A2 k2 c2) w nv wr) (fun nv _ => N - (intOf nv).toNat)
  case atStart => exact ⟨1, rfl, Nat.le_refl _, h1, HK2, HB2⟩
  case round =>
    obtain ⟨n, rfl, hn1, hn, HK, HB⟩ := hrel
    by_cases hlt : n < N
    · obtain ⟨m, hm⟩ : ∃ m, m = Nat.min n (N - n) := ⟨_, rfl⟩
      have hm1 : m ≤ N - n := by rw [hm]; exact Nat.min_le_right _ _
      have hm0 : 1 ≤ m := by rw [hm]; exact (Nat.le_min).2 ⟨hn1, by omega⟩
      have hcp := run_self HK.out.drew hlt m hm
      have HK3 : Hid (RepB (wr.drew.setCells g (n * 3) (rep (.bool s) (.slice A1 k1 c1) (.slice A2 k2 c2) m)) g N (n + m) (.bool s) (.slice A1 k1 c1) (.slice A2 k2 c2)) := Lib.hid (HK.out.drew.copied (by omega))
      have HB3 : Hid (Below w.heap.size w (wr.drew.setCells g (n * 3) (rep (.bool s) (.slice A1 k1 c1) (.slice A2 k2 c2) m))) := Lib.hid (below_setCellsG (Nat.le_of_eq HG.out.symm) _ _ HB.out.drew)
      generalize wr.drew.setCells g (n * 3) (rep (.bool s) (.slice A1 k1 c1) (.slice A2 k2 c2) m) = W3 at *
      clear hm HK HB
      go_wp2
      go_region
      all_goals
        go_wp2
        go_roundw
        case rel => exact ⟨n + m, by go_num, by omega, by omega, HK3, HB3⟩
        case measure => simp [intOf]; omega
    · obtain rfl : n = N := by omega
      obtain ⟨cs, hR⟩ := HK.out.row (HQ.out.below HB.out)
      have HR : Hid (RepRet n q w (.returned (.slice (some ⟨g, 0, none⟩) n n)) wr) := Lib.hid ⟨cs, by rw [HG.out], by rw [← HG.out]; exact hR, HB.out⟩
      clear hR
      go_wp2
      go_ret
      exact HR.out
end Go.Proofs.Ytionognmgcabbaa.Ratio
/- The number that rows make of a state: both sides. -/
namespace Go.Proofs.Ytionognmgcabbaa.RowN
open Go.RowKit Go.Proofs.Ytionognmgcabbaa Go.Proofs.Ytionognmgcabbaa.Base Go.Proofs.Ytionognmgcabbaa.Mem Go.Proofs.Ytionognmgcabbaa.Bits
set_option linter.unusedVariables false
end Go.Proofs.Ytionognmgcabbaa.RowN
/- Plain: what rows make of a source. -/
namespace Go.Proofs.Ytionognmgcabbaa.ExtM
open Go.RowKit Go.Proofs.Ytionognmgcabbaa Go.Proofs.Ytionognmgcabbaa.Base Go.Proofs.Ytionognmgcabbaa.RatM Go.Proofs.Ytionognmgcabbaa.GaussM Go.Proofs.Ytionognmgcabbaa.ChM Go.Proofs.Ytionognmgcabbaa.RowN
set_option linter.unusedVariables false
end Go.Proofs.Ytionognmgcabbaa.ExtM
/- The degree of a number as the program counts it. -/
namespace Go.Proofs
open Go.Shelf
end Go.Proofs
namespace Go.Proofs.Ytionognmgcabbaa.Deg
open Go.RowKit Go.Proofs.Ytionognmgcabbaa Go.Proofs.Ytionognmgcabbaa.Base
theorem bitLen_le (p : Nat) (h : p < 9223372036854775808) : Lib.bitLen p ≤ 64 := by
  by_cases h0 : p = 0
  · subst h0; decide
  · have hb := Lib.bitLenAux_bounds 64 p (by omega) (by omega)
    have e0 : Lib.bitLenAux 64 p = Lib.bitLen p := rfl
    rw [e0] at hb
    rcases Nat.lt_or_ge 64 (Lib.bitLen p) with h | h
    · have := Nat.pow_le_pow_right (n := 2) (by decide) (show 64 ≤ Lib.bitLen p - 1 by omega)
      have e : (2 : Nat) ^ 64 = 18446744073709551616 := by decide
      omega
    · exact h
end Go.Proofs.Ytionognmgcabbaa.Deg
/- The program: the bits of a source. -/
namespace Go.Proofs.Ytionognmgcabbaa.Ratio
open Go.RowKit Go.Proofs.Ytionognmgcabbaa Go.Proofs.Ytionognmgcabbaa.Base Go.Proofs.Ytionognmgcabbaa.Mem Go.Proofs.Ytionognmgcabbaa.NatM Go.Proofs.Ytionognmgcabbaa.Nat32 Go.Proofs.Ytionognmgcabbaa.RatM Go.Proofs.Ytionognmgcabbaa.Blk Go.Proofs.Ytionognmgcabbaa.MemF Go.Proofs.Ytionognmgcabbaa.ChM Go.Proofs.Ytionognmgcabbaa.ValF Go.Proofs.Ytionognmgcabbaa.GaussM Go.Proofs.Ytionognmgcabbaa.Deg
set_option linter.unusedVariables false
theorem chB_range {fs : List Int} {n : Nat} (h : chB fs n = true) : 1 ≤ n ∧ n ≤ 16 := by
  simp only [chB, Bool.and_eq_true, decide_eq_true_eq] at h
  exact ⟨h.1, h.2.1⟩
end Go.Proofs.Ytionognmgcabbaa.Ratio
/- Plain: what is known where rows are some for a source. -/
namespace Go.Proofs.Ytionognmgcabbaa.ExtM
open Go.RowKit Go.Proofs.Ytionognmgcabbaa Go.Proofs.Ytionognmgcabbaa.Base Go.Proofs.Ytionognmgcabbaa.RatM Go.Proofs.Ytionognmgcabbaa.GaussM Go.Proofs.Ytionognmgcabbaa.ChM Go.Proofs.Ytionognmgcabbaa.RowN Go.Proofs.Ytionognmgcabbaa.Ratio Go.Proofs.Ytionognmgcabbaa.GiveM
set_option linter.unusedVariables false
theorem chB_all {fs : List Int} {n : Nat} (h : chB fs n = true) : AllVF fs n := by
  unfold chB at h
  simp only [Bool.and_eq_true] at h
  exact vfAll_true.1 h.2.2.1
end Go.Proofs.Ytionognmgcabbaa.ExtM
/- The program: what rows make of a source. -/
namespace Go.Proofs.Ytionognmgcabbaa.Ratio
open Go.RowKit Go.Proofs.Ytionognmgcabbaa Go.Proofs.Ytionognmgcabbaa.Base Go.Proofs.Ytionognmgcabbaa.Mem Go.Proofs.Ytionognmgcabbaa.NatM Go.Proofs.Ytionognmgcabbaa.Nat32 Go.Proofs.Ytionognmgcabbaa.RatM Go.Proofs.Ytionognmgcabbaa.Blk Go.Proofs.Ytionognmgcabbaa.MemF Go.Proofs.Ytionognmgcabbaa.ChM Go.Proofs.Ytionognmgcabbaa.GaussM Go.Proofs.Ytionognmgcabbaa.ExtM Go.Proofs.Ytionognmgcabbaa.RowN
open Go.Proofs.Ytionognmgcabbaa.Inv (natOf natOf_eq len_pos Rat3 not_slice not_bool frz)
set_option linter.unusedVariables false
end Go.Proofs.Ytionognmgcabbaa.Ratio
/- The program's ratios: the absolute value. -/
namespace Go.Proofs.Ytionognmgcabbaa.Ratio
open Go.RowKit Go.Proofs.Ytionognmgcabbaa Go.Proofs.Ytionognmgcabbaa.Base Go.Proofs.Ytionognmgcabbaa.Mem Go.Proofs.Ytionognmgcabbaa.NatM Go.Proofs.Ytionognmgcabbaa.Nat32 Go.Proofs.Ytionognmgcabbaa.RatM
open Go.Proofs.Ytionognmgcabbaa.Inv (natOf natOf_eq len_pos Rat3 not_slice not_bool frz)
set_option linter.unusedVariables false
end Go.Proofs.Ytionognmgcabbaa.Ratio
/- Plain mathematics: rationals over a common denominator, and how great they are. No program in sight. -/
set_option linter.unusedVariables false
namespace Go.Proofs.Ytionognmgcabbaa.RatM
end Go.Proofs.Ytionognmgcabbaa.RatM
/- Plain: the distance of chances; sizes over a common denominator. -/
namespace Go.Proofs.Ytionognmgcabbaa.Ratio
open Go.RowKit Go.Proofs.Ytionognmgcabbaa Go.Proofs.Ytionognmgcabbaa.Base Go.Proofs.Ytionognmgcabbaa.Mem Go.Proofs.Ytionognmgcabbaa.NatM Go.Proofs.Ytionognmgcabbaa.Nat32 Go.Proofs.Ytionognmgcabbaa.RatM Go.Proofs.Ytionognmgcabbaa.GaussM Go.Proofs.Ytionognmgcabbaa.ChM
set_option linter.unusedVariables false
end Go.Proofs.Ytionognmgcabbaa.Ratio
/- Plain: steps of a walk, and how great their numbers are. -/
namespace Go.Proofs.Ytionognmgcabbaa.Ratio
open Go.RowKit Go.Proofs.Ytionognmgcabbaa Go.Proofs.Ytionognmgcabbaa.Base Go.Proofs.Ytionognmgcabbaa.Mem Go.Proofs.Ytionognmgcabbaa.NatM Go.Proofs.Ytionognmgcabbaa.Nat32 Go.Proofs.Ytionognmgcabbaa.RatM Go.Proofs.Ytionognmgcabbaa.GaussM Go.Proofs.Ytionognmgcabbaa.ChM
set_option linter.unusedVariables false
end Go.Proofs.Ytionognmgcabbaa.Ratio
/- The program: a step of a walk. -/
namespace Go.Proofs.Ytionognmgcabbaa.Ratio
open Go.RowKit Go.Proofs.Ytionognmgcabbaa Go.Proofs.Ytionognmgcabbaa.Base Go.Proofs.Ytionognmgcabbaa.Mem Go.Proofs.Ytionognmgcabbaa.NatM Go.Proofs.Ytionognmgcabbaa.Nat32 Go.Proofs.Ytionognmgcabbaa.RatM Go.Proofs.Ytionognmgcabbaa.Blk Go.Proofs.Ytionognmgcabbaa.MemF Go.Proofs.Ytionognmgcabbaa.ChM Go.Proofs.Ytionognmgcabbaa.GaussM
open Go.Proofs.Ytionognmgcabbaa.Inv (natOf natOf_eq len_pos Rat3 not_slice not_bool frz)
set_option linter.unusedVariables false
/-- the partial sums of a step -/
def part (M : Nat → Nat → Rat) (p : Nat → Rat) (i k : Nat) : Rat := sumR i (fun j => p j * M j k)
/-- within round i, behind the first k places -/
def mid (M : Nat → Nat → Rat) (p : Nat → Rat) (i k : Nat) : Nat → Rat := fun y => if y < k then part M p (i + 1) y else part M p i y
theorem blk_put3o {w : World} {b b' o : Nat} {t : TypeId} {cs : Array Value} (K : Blk w b' t cs) (hne : b ≠ b') (v0 v1 v2 : Value) : Blk (put3o w b o v0 v1 v2) b' t cs := ((K.other v0 hne).other v1 hne).other v2 hne
end Go.Proofs.Ytionognmgcabbaa.Ratio
/- The program: a matrix of ratios in memory, whose cells are set and whose rows change places. -/
namespace Go.Proofs.Ytionognmgcabbaa.Ratio
open Go.RowKit Go.Proofs.Ytionognmgcabbaa Go.Proofs.Ytionognmgcabbaa.Base Go.Proofs.Ytionognmgcabbaa.Mem Go.Proofs.Ytionognmgcabbaa.NatM Go.Proofs.Ytionognmgcabbaa.Nat32 Go.Proofs.Ytionognmgcabbaa.RatM Go.Proofs.Ytionognmgcabbaa.Blk Go.Proofs.Ytionognmgcabbaa.GaussM
open Go.Proofs.Ytionognmgcabbaa.Inv (natOf natOf_eq len_pos Rat3 not_slice not_bool frz)
set_option linter.unusedVariables false
/-- the block g begins with n ratios -/
structure RowG (w : World) (g n : Nat) (f : Nat → Rat) (cs : Array Value) : Prop where
  blk : Blk w g 89 cs
  size : n * 3 ≤ cs.size
  els : ∀ i, i < n → ∃ s A1 k1 c1 A2 k2 c2, cs[i * 3]? = some (.bool s) ∧ cs[i * 3 + 1]? = some (.slice A1 k1 c1) ∧ cs[i * 3 + 2]? = some (.slice A2 k2 c2) ∧ IsRt w (f i) (.agg #[.bool s, .slice A1 k1 c1, .slice A2 k2 c2])
theorem RowG.below {w w' : World} {g n : Nat} {f : Nat → Rat} {cs : Array Value} (h : RowG w g n f cs) (hb : Below w.heap.size w w') : RowG w' g n f cs :=
  ⟨h.blk.belowS hb, h.size, fun i hi => by
    obtain ⟨s, A1, k1, c1, A2, k2, c2, x0, x1, x2, hr⟩ := h.els i hi
    exact ⟨s, A1, k1, c1, A2, k2, c2, x0, x1, x2, hr.below hb⟩⟩
theorem RowG.congr {w : World} {g n : Nat} {f f' : Nat → Rat} {cs : Array Value} (h : RowG w g n f cs) (hf : ∀ i, i < n → f i = f' i) : RowG w g n f' cs :=
  ⟨h.blk, h.size, fun i hi => by rw [← hf i hi]; exact h.els i hi⟩
theorem RowR.toG {w : World} {g n : Nat} {f : Nat → Rat} {cs : Array Value} (h : RowR w g n f cs) : RowG w g n f cs := ⟨h.blk, by rw [h.size]; exact Nat.le_refl _, h.els⟩
/-- what was appended together -/
theorem OwnR.toG {w : World} {B g n c : Nat} {f : Nat → Rat} {cs : List Value} (h : OwnR w B (.slice (some ⟨g, 0, none⟩) n c) n f cs) : ∃ cur, RowG w g n f cur := by
  obtain ⟨cur, hc, _, _⟩ := ownsRow_block h.row (g := g) rfl
  have hlen : cs.length = n * 3 := h.row.1
  have hcell : ∀ o, o < n * 3 → cur[o]? = cs[o]? := fun o ho => by
    rw [← cell_of_row w g o cur _ (0, 0) hc]
    exact World.ownsRow.cellAt h.row o (by omega)
  refine ⟨cur, hc, ?_, fun i hi => ?_⟩
  · rcases Nat.eq_zero_or_pos n with h0 | h0
    · omega
    · have := hcell (n * 3 - 1) (by omega)
      rw [List.getElem?_eq_getElem (by omega)] at this
      have := (Array.getElem?_eq_some_iff.1 this).1
      omega
  · obtain ⟨A1, c1, A2, c2, e, h1, h2, _⟩ := h.els i hi
    have key : ∀ k, k < 3 → cur[i * 3 + k]? = (rt3 (f i) A1 A2 c1 c2)[k]? := fun k hk => by
      rw [hcell (i * 3 + k) (by omega), ← e, List.getElem?_take, if_pos hk, List.getElem?_drop]
    exact ⟨_, A1, _, c1, A2, _, c2, key 0 (by decide), key 1 (by decide), key 2 (by decide), A1, c1, A2, c2, rfl, h1, h2⟩
theorem RowG.rd {w : World} {g n : Nat} {f : Nat → Rat} {cs : Array Value} (h : RowG w g n f cs) : RdR w (some ⟨g, 0, none⟩) n f := fun h0 => by
  refine ⟨g, rfl, h.blk.lt, fun i hi => ?_⟩
  obtain ⟨s, A1, k1, c1, A2, k2, c2, x0, x1, x2, hr⟩ := h.els i hi
  exact ⟨s, A1, k1, c1, A2, k2, c2, h.blk.at _ x0, h.blk.at _ x1, h.blk.at _ x2, hr⟩
/-- a row of lists grows beside -/
theorem RowG.kept {w w' : World} {g n B k : Nat} {f : Nat → Rat} {cs : Array Value} {v : Value} {us : List Value} (h : RowG w g n f cs) (hr : w.ownsRow B 72 1 v k us) (hp : NoU w v) (hg : w.grownBy w' v.ownBlock) : RowG w' g n f cs := by
  have hne : v.ownBlock ≠ some g := fun e => by
    obtain ⟨cur, hc, _⟩ := ownsRow_block hr e
    have hb := h.blk
    unfold Blk at hb
    rw [hb] at hc
    injection hc with hc
    injection hc with _ hc _
    exact absurd hc (by decide)
  refine ⟨h.blk.kept hg hne, h.size, fun i hi => ?_⟩
  obtain ⟨s, A1, k1, c1, A2, k2, c2, x0, x1, x2, hI⟩ := h.els i hi
  refine ⟨s, A1, k1, c1, A2, k2, c2, x0, x1, x2, ?_⟩
  obtain ⟨B1, d1, B2, d2, ev, h1, h2⟩ := hI
  refine ⟨B1, d1, B2, d2, ev, fun h0 => ?_, fun h0 => ?_⟩
  · exact rdU_kept h1 hg (hp.apart h1 h0) h0
  · exact rdU_kept h2 hg (hp.apart h2 h0) h0
/-- an element is set -/
theorem RowG.put {w : World} {g n k : Nat} {f : Nat → Rat} {cs : Array Value} {q : Rat} {t : Bool} {C1 C2 : Option Addr} {m1 l1 m2 l2 : Nat} (h : RowG w g n f cs) (hk : k < n) (hq : IsRt w q (.agg #[.bool t, .slice C1 m1 l1, .slice C2 m2 l2])) :
    ∃ cs', RowG (put3o w g (k * 3) (.bool t) (.slice C1 m1 l1) (.slice C2 m2 l2)) g n (fun i => if i = k then q else f i) cs' := by
  obtain ⟨s, A1, k1, c1, A2, k2, c2, x0, x1, x2, _⟩ := h.els k hk
  have hz := h.size
  refine ⟨((cs.setIfInBounds (k * 3) (.bool t)).setIfInBounds (k * 3 + 1) (.slice C1 m1 l1)).setIfInBounds (k * 3 + 2) (.slice C2 m2 l2), ?_, by simp; omega, fun i hi => ?_⟩
  · exact ((h.blk.setTo (k * 3) _ rfl).setTo (k * 3 + 1) _ rfl).setTo (k * 3 + 2) _ rfl
  · by_cases e : i = k
    · subst e
      refine ⟨t, C1, m1, l1, C2, m2, l2, ?_, ?_, ?_, ?_⟩
      · rw [Array.getElem?_setIfInBounds_ne (by omega), Array.getElem?_setIfInBounds_ne (by omega), Array.getElem?_setIfInBounds_self_of_lt (by omega)]
      · rw [Array.getElem?_setIfInBounds_ne (by omega), Array.getElem?_setIfInBounds_self_of_lt (by simp; omega)]
      · rw [Array.getElem?_setIfInBounds_self_of_lt (by simp; omega)]
      · rw [if_pos rfl]
        exact isRt_put3o hq h.blk x0 x1 x2 _ _ _
    · obtain ⟨s', B1, j1, e1, B2, j2, e2, y0, y1, y2, hr⟩ := h.els i hi
      refine ⟨s', B1, j1, e1, B2, j2, e2, ?_, ?_, ?_, ?_⟩
      · rw [Array.getElem?_setIfInBounds_ne (by omega), Array.getElem?_setIfInBounds_ne (by omega), Array.getElem?_setIfInBounds_ne (by omega)]; exact y0
      · rw [Array.getElem?_setIfInBounds_ne (by omega), Array.getElem?_setIfInBounds_ne (by omega), Array.getElem?_setIfInBounds_ne (by omega)]; exact y1
      · rw [Array.getElem?_setIfInBounds_ne (by omega), Array.getElem?_setIfInBounds_ne (by omega), Array.getElem?_setIfInBounds_ne (by omega)]; exact y2
      · rw [if_neg e]
        exact isRt_put3o hr h.blk x0 x1 x2 _ _ _
/-- another row is as it was -/
theorem RowG.beside {w : World} {g b o n n' : Nat} {f f' : Nat → Rat} {cs cb : Array Value} (h : RowG w g n f cs) (hb : RowG w b n' f' cb) (hne : b ≠ g) {k : Nat} (hk : k < n') (ho : o = k * 3) (v0 v1 v2 : Value) : RowG (put3o w b o v0 v1 v2) g n f cs := by
  subst ho
  obtain ⟨s, A1, k1, c1, A2, k2, c2, x0, x1, x2, _⟩ := hb.els k hk
  refine ⟨((h.blk.other _ hne).other _ hne).other _ hne, h.size, fun i hi => ?_⟩
  obtain ⟨s', B1, j1, e1, B2, j2, e2, y0, y1, y2, hr⟩ := h.els i hi
  exact ⟨s', B1, j1, e1, B2, j2, e2, y0, y1, y2, isRt_put3o hr hb.blk x0 x1 x2 _ _ _⟩
/-- R rows of n ratios each, in blocks from B on -/
structure MatR (w : World) (B gL R n : Nat) (M : Nat → Nat → Rat) (gs cp : Nat → Nat) (cl : Array Value) (css : Nat → Array Value) : Prop where
  top : Blk w gL 72 cl
  lowL : B ≤ gL
  cell : ∀ i, i < R → cl[i]? = some (.slice (some ⟨gs i, 0, none⟩) n (cp i))
  row : ∀ i, i < R → RowG w (gs i) n (M i) (css i)
  low : ∀ i, i < R → B ≤ gs i
  inj : ∀ i j, i < R → j < R → gs i = gs j → i = j
theorem MatR.below {w w' : World} {B gL R n : Nat} {M : Nat → Nat → Rat} {gs cp : Nat → Nat} {cl : Array Value} {css : Nat → Array Value} (h : MatR w B gL R n M gs cp cl css) (hb : Below w.heap.size w w') : MatR w' B gL R n M gs cp cl css :=
  ⟨h.top.belowS hb, h.lowL, h.cell, fun i hi => (h.row i hi).below hb, h.low, h.inj⟩
theorem MatR.congr {w : World} {B gL R n : Nat} {M M' : Nat → Nat → Rat} {gs cp : Nat → Nat} {cl : Array Value} {css : Nat → Array Value} (h : MatR w B gL R n M gs cp cl css) (hM : ∀ r c, r < R → c < n → M r c = M' r c) : MatR w B gL R n M' gs cp cl css :=
  ⟨h.top, h.lowL, h.cell, fun i hi => (h.row i hi).congr fun c hc => hM i c hi hc, h.low, h.inj⟩
theorem MatR.neL {w : World} {B gL R n : Nat} {M : Nat → Nat → Rat} {gs cp : Nat → Nat} {cl : Array Value} {css : Nat → Array Value} (h : MatR w B gL R n M gs cp cl css) {i : Nat} (hi : i < R) : gs i ≠ gL := fun e => by
  have h1 := (h.row i hi).blk
  have h2 := h.top
  rw [e] at h1
  unfold Blk at h1 h2
  rw [h1] at h2
  injection h2 with h2
  injection h2 with _ h2 _
  exact absurd h2 (by decide)
/-- a cell is set -/
theorem MatR.put {w : World} {B gL R n r c : Nat} {M : Nat → Nat → Rat} {gs cp : Nat → Nat} {cl : Array Value} {css : Nat → Array Value} {q : Rat} {t : Bool} {C1 C2 : Option Addr} {m1 l1 m2 l2 : Nat} (h : MatR w B gL R n M gs cp cl css) (hr : r < R) (hc : c < n) (hq : IsRt w q (.agg #[.bool t, .slice C1 m1 l1, .slice C2 m2 l2])) :
    ∃ css', MatR (put3o w (gs r) (c * 3) (.bool t) (.slice C1 m1 l1) (.slice C2 m2 l2)) B gL R n (fun i j => if i = r ∧ j = c then q else M i j) gs cp cl css' := by
  obtain ⟨cs', hp⟩ := (h.row r hr).put hc hq
  have hne := h.neL hr
  refine ⟨fun i => if i = r then cs' else css i, ((h.top.other _ hne).other _ hne).other _ hne, h.lowL, h.cell, fun i hi => ?_, h.low, h.inj⟩
  by_cases e : i = r
  · subst e
    simp only [if_true, true_and]
    exact hp
  · simp only [e, if_false, false_and]
    exact (h.row i hi).beside (h.row r hr) (fun e2 => e (h.inj i r hi hr e2.symm)) hc rfl _ _ _
/-- two in each other's place -/
def swF {α : Type} (f : Nat → α) (i k : Nat) : Nat → α := fun r => if r = k then f i else if r = i then f k else f r
theorem swF_inj {gs : Nat → Nat} {R i k : Nat} (hi : i < R) (hk : k < R) (h : ∀ i j, i < R → j < R → gs i = gs j → i = j) {a b : Nat} (ha : a < R) (hb : b < R) (e : swF gs i k a = swF gs i k b) : a = b := by
  unfold swF at e
  split at e
  · rename_i a1
    split at e
    · omega
    · rename_i b1
      split at e
      · rename_i b2
        have := h _ _ hi hk e
        omega
      · have := h _ _ hi hb e
        omega
  · rename_i a1
    split at e
    · rename_i a2
      split at e
      · have := h _ _ hk hi e
        omega
      · rename_i b1
        split at e
        · omega
        · have := h _ _ hk hb e
          omega
    · rename_i a2
      split at e
      · have := h _ _ ha hi e
        omega
      · rename_i b1
        split at e
        · have := h _ _ ha hk e
          omega
        · exact h _ _ ha hb e
theorem isRt_setS {w : World} {q : Rat} {v : Value} {p : Addr} {A : Option Addr} {n c : Nat} (h : IsRt w q v) (hp : w.cell? p = some (.slice A n c)) (u : Value) : IsRt (w.setCell p u) q v := by
  obtain ⟨B1, d1, B2, d2, ev, h1, h2⟩ := h
  have hz : (w.setCell p u).heap.size = w.heap.size := by simp
  exact ⟨B1, d1, B2, d2, ev, by rw [hz]; exact h1.non hp (not_slice _ _ _) u, by rw [hz]; exact h2.non hp (not_slice _ _ _) u⟩
theorem RowG.setS {w : World} {g n b o n' c' : Nat} {f : Nat → Rat} {cs : Array Value} {A : Option Addr} (h : RowG w g n f cs) (hp : w.cell? ⟨b, o, none⟩ = some (.slice A n' c')) (hne : b ≠ g) (u : Value) : RowG (w.setCell ⟨b, o, none⟩ u) g n f cs := by
  refine ⟨h.blk.other u hne, h.size, fun i hi => ?_⟩
  obtain ⟨s, A1, k1, c1, A2, k2, c2, x0, x1, x2, hI⟩ := h.els i hi
  exact ⟨s, A1, k1, c1, A2, k2, c2, x0, x1, x2, isRt_setS hI hp u⟩
/-- two rows change places -/
theorem MatR.swap {w : World} {B gL R n i k : Nat} {M : Nat → Nat → Rat} {gs cp : Nat → Nat} {cl : Array Value} {css : Nat → Array Value} (h : MatR w B gL R n M gs cp cl css) (hi : i < R) (hk : k < R) :
    ∃ cl', MatR ((w.setCell ⟨gL, i, none⟩ (.slice (some ⟨gs k, 0, none⟩) n (cp k))).setCell ⟨gL, k, none⟩ (.slice (some ⟨gs i, 0, none⟩) n (cp i))) B gL R n (swapM M i k) (swF gs i k) (swF cp i k) cl' (swF css i k) := by
  have ci := h.cell i hi
  have ck := h.cell k hk
  have K1 := h.top.setTo i (.slice (some ⟨gs k, 0, none⟩) n (cp k)) rfl
  have hck : (cl.setIfInBounds i (.slice (some ⟨gs k, 0, none⟩) n (cp k)))[k]? = some (.slice (some ⟨gs k, 0, none⟩) n (cp k)) := by
    by_cases e : i = k
    · subst e
      exact Array.getElem?_setIfInBounds_self_of_lt (Array.getElem?_eq_some_iff.1 ci).1
    · rw [Array.getElem?_setIfInBounds_ne e]; exact ck
  refine ⟨_, K1.setTo k _ rfl, h.lowL, fun r hr => ?_, fun r hr => ?_, fun r hr => ?_, fun a b ha hb e => ?_⟩
  · unfold swF
    by_cases e : r = k
    · subst e
      simp only [if_true]
      exact Array.getElem?_setIfInBounds_self_of_lt (Array.getElem?_eq_some_iff.1 hck).1
    · rw [Array.getElem?_setIfInBounds_ne (fun h => e h.symm)]
      by_cases e2 : r = i
      · subst e2
        simp only [e, if_false, if_true]
        exact Array.getElem?_setIfInBounds_self_of_lt (Array.getElem?_eq_some_iff.1 ci).1
      · rw [Array.getElem?_setIfInBounds_ne (fun h => e2 h.symm)]
        simp only [e, e2, if_false]
        exact h.cell r hr
  · have key : ∀ j, j < R → RowG ((w.setCell ⟨gL, i, none⟩ (.slice (some ⟨gs k, 0, none⟩) n (cp k))).setCell ⟨gL, k, none⟩ (.slice (some ⟨gs i, 0, none⟩) n (cp i))) (gs j) n (M j) (css j) := fun j hj =>
      (((h.row j hj).setS (h.top.at i ci) (fun e => h.neL hj e.symm) _).setS (K1.at k hck) (fun e => h.neL hj e.symm) _)
    unfold swF swapM
    by_cases e : r = k
    · subst e
      simp only [if_true]
      exact key i hi
    · by_cases e2 : r = i
      · subst e2
        simp only [e, if_false, if_true]
        exact key k hk
      · simp only [e, e2, if_false]
        exact key r hr
  · unfold swF
    split
    · exact h.low i hi
    · split
      · exact h.low k hk
      · exact h.low r hr
  · exact swF_inj hi hk h.inj ha hb e
theorem MatR.mid {w : World} {B gL R n i k : Nat} {M : Nat → Nat → Rat} {gs cp : Nat → Nat} {cl : Array Value} {css : Nat → Array Value} (h : MatR w B gL R n M gs cp cl css) (hi : i < R) (hk : k < R) :
    (w.setCell ⟨gL, i, none⟩ (.slice (some ⟨gs k, 0, none⟩) n (cp k))).cell? ⟨gL, k, none⟩ = some (.slice (some ⟨gs k, 0, none⟩) n (cp k)) := by
  refine (h.top.setTo i _ rfl).at k ?_
  by_cases e : i = k
  · subst e
    exact Array.getElem?_setIfInBounds_self_of_lt (Array.getElem?_eq_some_iff.1 (h.cell i hi)).1
  · rw [Array.getElem?_setIfInBounds_ne e]; exact h.cell k hk
/-- an element is read -/
theorem MatR.at {w : World} {B gL R n r c : Nat} {M : Nat → Nat → Rat} {gs cp : Nat → Nat} {cl : Array Value} {css : Nat → Array Value} (h : MatR w B gL R n M gs cp cl css) (hr : r < R) (hc : c < n) :
    ∃ s A1 k1 c1 A2 k2 c2, (css r)[c * 3]? = some (.bool s) ∧ (css r)[c * 3 + 1]? = some (.slice A1 k1 c1) ∧ (css r)[c * 3 + 2]? = some (.slice A2 k2 c2) ∧ IsRt w (M r c) (.agg #[.bool s, .slice A1 k1 c1, .slice A2 k2 c2]) := (h.row r hr).els c hc
end Go.Proofs.Ytionognmgcabbaa.Ratio
/- The program: a matrix of ratios is made row by row. -/
namespace Go.Proofs.Ytionognmgcabbaa.Ratio
open Go.RowKit Go.Proofs.Ytionognmgcabbaa Go.Proofs.Ytionognmgcabbaa.Base Go.Proofs.Ytionognmgcabbaa.Mem Go.Proofs.Ytionognmgcabbaa.NatM Go.Proofs.Ytionognmgcabbaa.Nat32 Go.Proofs.Ytionognmgcabbaa.RatM Go.Proofs.Ytionognmgcabbaa.Blk Go.Proofs.Ytionognmgcabbaa.GaussM
set_option linter.unusedVariables false
/-- n rows of the call's own, of L wide fractions each, no two in one block -/
structure OwnRG (w : World) (B : Nat) (v : Value) (n L : Nat) (f : Nat → Nat → Rat) (us : List Value) : Prop where
  row : w.ownsRow B 72 1 v n us
  els : ∀ i, i < n → ∃ g c cs, us[i]? = some (.slice (some ⟨g, 0, none⟩) L c) ∧ RowG w g L (f i) cs ∧ B ≤ g
  nou : NoU w v
  inj : ∀ (i j g c d : Nat), us[i]? = some (Value.slice (some ⟨g, 0, none⟩) L c) → us[j]? = some (Value.slice (some ⟨g, 0, none⟩) L d) → i = j
theorem OwnRG.below {w w' : World} {B n L : Nat} {v : Value} {f : Nat → Nat → Rat} {us : List Value} (h : OwnRG w B v n L f us) (hb : Below w.heap.size w w') : OwnRG w' B v n L f us :=
  ⟨ownsRow_below h.row hb, fun i hi => by
    obtain ⟨g, c, cs, e, hr, hB⟩ := h.els i hi
    exact ⟨g, c, cs, e, hr.below hb, hB⟩, h.nou.below hb, h.inj⟩
theorem OwnRG.lit0 (w : World) (L : Nat) (f : Nat → Nat → Rat) : OwnRG (w.alloc (.cells #[] 72)) w.heap.size (.slice (some ⟨w.heap.size, 0, none⟩) 0 0) 0 L f [] :=
  ⟨World.ownsRow_made w #[] 0 (Nat.le_refl _) (Nat.zero_le _) (by simp), fun i hi => absurd hi (Nat.not_lt_zero i), NoU.lit0 w _, fun i j g c d h => by cases h⟩
theorem OwnRG.push {wr w1 w2 : World} {B n L g c : Nat} {v v' : Value} {f : Nat → Nat → Rat} {us : List Value} {cs : Array Value} {ca : Array Value} {t : TypeId} (h : OwnRG wr B v n L f us) (h1 : Below wr.heap.size wr w1) (hr : RowG w1 g L (f n) cs) (hg0 : wr.heap.size ≤ g) (hB : B ≤ wr.heap.size)
    (hown : w2.ownsRow B 72 1 v' (n + 1) (us ++ [.slice (some ⟨g, 0, none⟩) L c])) (hg : (w1.alloc (.cells ca t)).grownBy w2 v.ownBlock) (hnu : NoU w2 v') : OwnRG w2 B v' (n + 1) L f (us ++ [.slice (some ⟨g, 0, none⟩) L c]) := by
  have hb2 : Below w1.heap.size w1 (w1.alloc (.cells ca t)) := (Below.refl _ _).alloc (Nat.le_refl _) _
  have hA := (h.below h1).below hb2
  have hlen : us.length = n := by have := h.row.1; omega
  have hold : ∀ (i g' d : Nat), us[i]? = some (Value.slice (some ⟨g', 0, none⟩) L d) → g' ≠ g := fun i g' d e e2 => by
    have hi : i < n := by have := (List.getElem?_eq_some_iff.1 e).1; omega
    obtain ⟨g'', c'', cs'', e3, hr3, _⟩ := h.els i hi
    rw [e] at e3
    injection e3 with e3
    injection e3 with e3 _ _
    injection e3 with e3
    injection e3 with e3 _ _
    have := hr3.blk.lt
    omega
  refine ⟨hown, fun i hi => ?_, hnu, fun i j g' c' d' e1 e2 => ?_⟩
  · rcases Nat.lt_or_ge i n with hlt | hge
    · obtain ⟨g', c', cs', e, hr', hB'⟩ := hA.els i hlt
      exact ⟨g', c', cs', by rw [List.getElem?_append_left (by omega)]; exact e, hr'.kept hA.row hA.nou hg, hB'⟩
    · obtain rfl : i = n := by omega
      exact ⟨g, c, cs, by rw [List.getElem?_append_right (by omega), hlen, Nat.sub_self]; rfl, (hr.below hb2).kept hA.row hA.nou hg, by omega⟩
  · have hi := (List.getElem?_eq_some_iff.1 e1).1
    have hj := (List.getElem?_eq_some_iff.1 e2).1
    simp only [List.length_append, List.length_cons, List.length_nil] at hi hj
    rcases Nat.lt_or_ge i n with h1 | h1 <;> rcases Nat.lt_or_ge j n with h2 | h2
    · rw [List.getElem?_append_left (by omega)] at e1 e2
      exact h.inj i j g' c' d' e1 e2
    · rw [List.getElem?_append_left (by omega)] at e1
      obtain rfl : j = us.length := by omega
      rw [List.getElem?_append_right (by omega), Nat.sub_self] at e2
      simp only [List.getElem?_cons_zero, Option.some.injEq, Value.slice.injEq, Addr.mk.injEq, and_true, true_and] at e2
      exact absurd e2.1.symm (hold i g' c' e1)
    · rw [List.getElem?_append_left (by omega)] at e2
      obtain rfl : i = us.length := by omega
      rw [List.getElem?_append_right (by omega), Nat.sub_self] at e1
      simp only [List.getElem?_cons_zero, Option.some.injEq, Value.slice.injEq, Addr.mk.injEq, and_true, true_and] at e1
      exact absurd e1.1.symm (hold j g' d' e2)
    · omega
theorem OwnRG.form {w : World} {B n L : Nat} {v : Value} {f : Nat → Nat → Rat} {us : List Value} (h : OwnRG w B v n L f us) : ∃ A c, v = .slice A n c ∧ (0 < n → ∃ g, A = some ⟨g, 0, none⟩ ∧ B ≤ g ∧ g < w.heap.size) := ownsRow_form h.row
theorem OwnRG.congr {w : World} {B n L : Nat} {v : Value} {f f' : Nat → Nat → Rat} {us : List Value} (h : OwnRG w B v n L f us) (hf : ∀ i j, i < n → j < L → f i j = f' i j) : OwnRG w B v n L f' us :=
  ⟨h.row, fun i hi => by
    obtain ⟨g, c, cs, e, hr, hB⟩ := h.els i hi
    exact ⟨g, c, cs, e, hr.congr (fun j hj => hf i j hi hj), hB⟩, h.nou, h.inj⟩
/-- the rows as a matrix -/
theorem OwnRG.mat {w : World} {B n L gL cL : Nat} {f : Nat → Nat → Rat} {us : List Value} (h : OwnRG w B (.slice (some ⟨gL, 0, none⟩) n cL) n L f us) : ∃ gs cp cl css, MatR w B gL n L f gs cp cl css := by
  obtain ⟨cur, hc, hBL, _⟩ := ownsRow_block h.row (g := gL) rfl
  have hlen : us.length = n := by have := h.row.1; omega
  have hcell : ∀ i, i < n → cur[i]? = us[i]? := fun i hi => by
    rw [← cell_of_row w gL i cur _ (0, 0) hc]
    exact World.ownsRow.cellAt h.row i (by omega)
  have key : ∀ i, ∃ p : Nat × Nat × Array Value, i < n → us[i]? = some (.slice (some ⟨p.1, 0, none⟩) L p.2.1) ∧ RowG w p.1 L (f i) p.2.2 ∧ B ≤ p.1 := fun i => by
    by_cases hi : i < n
    · obtain ⟨g, c, cs, e, hr, hB⟩ := h.els i hi
      exact ⟨⟨g, c, cs⟩, fun _ => ⟨e, hr, hB⟩⟩
    · exact ⟨⟨0, 0, #[]⟩, fun h' => absurd h' hi⟩
  obtain ⟨p, hp⟩ := Classical.axiomOfChoice key
  refine ⟨fun i => (p i).1, fun i => (p i).2.1, cur, fun i => (p i).2.2, hc, hBL, fun i hi => by rw [hcell i hi]; exact (hp i hi).1, fun i hi => (hp i hi).2.1, fun i hi => (hp i hi).2.2, fun i j hi hj e => ?_⟩
  have e1 := (hp i hi).1
  have e2 := (hp j hj).1
  have e3 : (p i).1 = (p j).1 := e
  rw [← e3] at e2
  exact h.inj i j _ _ _ e1 e2
end Go.Proofs.Ytionognmgcabbaa.Ratio

/- The program's ratios: a fraction as a ratio. -/
import Derived.Test.YtionognmgcabbaaMgRun04
namespace Go.Proofs.Ytionognmgcabbaa.Ratio
open Go.RowKit Go.Proofs.Ytionognmgcabbaa Go.Proofs.Ytionognmgcabbaa.Base Go.Proofs.Ytionognmgcabbaa.Mem Go.Proofs.Ytionognmgcabbaa.NatM Go.Proofs.Ytionognmgcabbaa.Nat32 Go.Proofs.Ytionognmgcabbaa.RatM
open Go.Proofs.Ytionognmgcabbaa.Inv (natOf natOf_eq len_pos Rat3 not_slice not_bool frz)
set_option linter.unusedVariables false
theorem size_int (n : Int) (hn : n.natAbs ≤ 1000000000000000000) (w : World) : Calls Try.prog 82 #[.int .i64 n] w fun e w' => e = .returned (.int .i64 ((n.natAbs : Nat) : Int)) ∧ w = w' := by
  have e1 : max n (-n) = ((n.natAbs : Nat) : Int) := by omega
  have hb1 : -1000000000000000000 ≤ n := by omega
  have hb2 : n ≤ 1000000000000000000 := by omega
  go_enter Try.func82, Try.ntmps82
  go_wp2
  go_ret
  exact ⟨by first | rfl | (rw [e1]; rfl) | (rw [← e1]; rfl) | (simp; omega), rfl⟩
/-- what the two boxes of the call still hold -/
def QF (n d : Int) (w W : World) : Prop := W.cell? ⟨w.heap.size, 0, none⟩ = some (.int .i64 n) ∧ W.cell? ⟨w.heap.size, 1, none⟩ = some (.int .i64 d) ∧ Rat3 W (w.heap.size + 1) (.bool false) (.slice none 0 0) (.slice none 0 0) ∧ Below w.heap.size w W ∧ w.heap.size + 2 ≤ W.heap.size
theorem QF.below {n d : Int} {w W W' : World} (h : QF n d w W) (hb : Below W.heap.size W W') : QF n d w W' := by
  obtain ⟨h1, h2, h3, h4, h5⟩ := h
  exact ⟨(hb.cell (p := ⟨w.heap.size, 0, none⟩) (show w.heap.size < W.heap.size by omega)).trans h1, (hb.cell (p := ⟨w.heap.size, 1, none⟩) (show w.heap.size < W.heap.size by omega)).trans h2, h3.below hb (by omega), h4.trans (hb.mono (by omega)), by have := hb.size; omega⟩
theorem QF.start (n d : Int) (w : World) : QF n d w (((w.alloc (.cells #[.int .i64 n, .int .i64 d] 63)).alloc (.cells #[.bool false, .slice none 0 0, .slice none 0 0] 89)).drew) := by
  have hA : Below (w.alloc (.cells #[.int .i64 n, .int .i64 d] 63)).heap.size (w.alloc (.cells #[.int .i64 n, .int .i64 d] 63)) (((w.alloc (.cells #[.int .i64 n, .int .i64 d] 63)).alloc (.cells #[.bool false, .slice none 0 0, .slice none 0 0] 89)).drew) := ((Below.refl _ _).alloc (Nat.le_refl _) _).drew
  refine ⟨box_cells hA 0, box_cells hA 1, ?_, Base.Below.boxed hA, by simp⟩
  have r := Inv.Rat3.newd (w.alloc (.cells #[.int .i64 n, .int .i64 d] 63)) (.bool false) (.slice none 0 0) (.slice none 0 0) 89
  rw [World.size_alloc] at r
  exact r
set_option maxHeartbeats 2000000 in
theorem ratioOf_any (n d : Int) (hn : n.natAbs ≤ 1000000000000000000) (hd : 0 ≤ d) (hd2 : d ≤ 1000000000000000000) (w : World) : Calls Try.prog 51 #[.agg #[.int .i64 n, .int .i64 d]] w (RtRet (decide (n < 0)) n.natAbs d.toNat w) := by
  have HQ := Lib.hid (QF.start n d w)
  go_enter Try.func51, Try.ntmps51
  go_wp2_with fail
  obtain ⟨L0, hL0⟩ : ∃ L0, natL n.natAbs = L0 := ⟨_, rfl⟩
  obtain ⟨L1, hL1⟩ : ∃ L1, natL d.toNat = L1 := ⟨_, rfl⟩
  obtain ⟨D, rfl⟩ := Int.eq_ofNat_of_zero_le hd
  rw [Int.toNat_natCast] at hL1
  have HSz := Lib.hid (fun W => size_int n hn W)
  have HN0 : Hid (∀ X, QF n (D : Int) w X → Calls Try.prog 81 #[.int .i64 ((n.natAbs : Nat) : Int)] X fun e w' => ∃ A c, e = .returned (.slice A L0.length c) ∧ RdU w' w'.heap.size A L0 ∧ QF n (D : Int) w w') := Lib.hid fun X hX => (naturalOf_any n.natAbs (by omega) X).mono fun e w' ⟨A, c, h1, h2, h3⟩ => ⟨A, c, by rw [h1, hL0], by rw [← hL0]; exact h2, hX.below h3⟩
  have HN1 : Hid (∀ X L0 A0, QF n (D : Int) w X → RdU X X.heap.size A0 L0 → Calls Try.prog 81 #[.int .i64 (D : Int)] X fun e w' => ∃ A c, e = .returned (.slice A L1.length c) ∧ RdU w' w'.heap.size A L1 ∧ RdU w' w'.heap.size A0 L0 ∧ QF n (D : Int) w w') := Lib.hid fun X L0 A0 hX hr => (naturalOf_any D (by omega) X).mono fun e w' ⟨A, c, h1, h2, h3⟩ => ⟨A, c, by rw [h1, hL1], by rw [← hL1]; exact h2, (hr.below h3 (Nat.le_refl _)).more h3.size, hX.below h3⟩
  have HL0 := Lib.hid hL0
  have HL1 := Lib.hid hL1
  clear hL0 hL1
  generalize n.natAbs = m at *
  go_region_held3 (fun w' => w'.cell? ⟨w.heap.size, 0, none⟩ = some (.int .i64 n) ∧ w'.cell? ⟨w.heap.size, 1, none⟩ = some (.int .i64 (D : Int)))
    (first | go_keep | (exact ⟨by assumption, by assumption⟩))
    (first | (go_at_call 82; refine (HSz.out _).mono ?_; rintro e w1 ⟨rfl, rfl⟩) | (go_at_call 81; refine (HN1.out _ _ _ HQ1.out Hr1.out).mono ?_; rintro e w2 ⟨A2, c2, rfl, hr2, hr1b, hq2⟩; have Hr1b := Lib.hid hr1b; clear hr1b; have Hr2 := Lib.hid hr2; have HQ2 := Lib.hid hq2; clear hr2 d0 d1 p0 p1 p2 pf0 pf1 pf2; have d0 := hq2.1; have d1 := hq2.2.1; have p0 := hq2.2.2.1.c0; have p1 := hq2.2.2.1.c1; have p2 := hq2.2.2.1.c2; have pf0 := hq2.2.2.1.f0; have pf1 := hq2.2.2.1.f1; have pf2 := hq2.2.2.1.f2; clear hq2) | (go_at_call 81; refine (HN0.out _ HQ.out).mono ?_; rintro e w1 ⟨A1, c1, rfl, hr1, hq1⟩; have Hr1 := Lib.hid hr1; clear hr1; have HQ1 := Lib.hid hq1; have d0 := hq1.1; have d1 := hq1.2.1; have p0 := hq1.2.2.1.c0; have p1 := hq1.2.2.1.c1; have p2 := hq1.2.2.1.c2; have pf0 := hq1.2.2.1.f0; have pf1 := hq1.2.2.1.f1; have pf2 := hq1.2.2.1.f2; clear hq1))
  all_goals
    have hq := HQ2.out.2.2.1
    have m6 := hq.set0 (.bool (decide (n < 0)))
    have m7 := m6.set1 (.slice A1 L0.length c1)
    have m8 := m7.set2 (.slice A2 L1.length c2)
    have HR : Hid (RtRet (decide (n < 0)) m D w (.returned (.agg #[.bool (decide (n < 0)), .slice A1 L0.length c1, .slice A2 L1.length c2])) (((w2.setCell ⟨w.heap.size + 1, 0, none⟩ (.bool (decide (n < 0)))).setCell ⟨w.heap.size + 1, 1, none⟩ (.slice A1 L0.length c1)).setCell ⟨w.heap.size + 1, 2, none⟩ (.slice A2 L1.length c2))) := Lib.hid (by
      refine ⟨A1, c1, A2, c2, by rw [HL0.out, HL1.out], ?_, ?_, ?_⟩
      · rw [HL0.out]
        simp only [World.size_setCell]
        exact ((Hr1b.out.non hq.c0 (not_bool _) _).non m6.c1 (not_slice _ _ _) _).non m7.c2 (not_slice _ _ _) _
      · rw [HL1.out]
        simp only [World.size_setCell]
        exact ((Hr2.out.non hq.c0 (not_bool _) _).non m6.c1 (not_slice _ _ _) _).non m7.c2 (not_slice _ _ _) _
      · exact (((HQ2.out.2.2.2.1).setCell (Nat.le_succ _) _).setCell (Nat.le_succ _) _).setCell (Nat.le_succ _) _)
    have m80 := m8.c0
    have m81 := m8.c1
    have m82 := m8.c2
    clear hq m6 m7 m8
    go_wp2
    refine bodyPost_ret (v := .agg #[.bool (decide (n < 0)), .slice A1 L0.length c1, .slice A2 L1.length c2]) (by simp [results, Try.results51, go_sem, m80, m81, m82]) rfl HR.out
end Go.Proofs.Ytionognmgcabbaa.Ratio
/- The program's ratios: the digits of a fraction's ratio are newly made. -/
namespace Go.Proofs.Ytionognmgcabbaa.Ratio
open Go.RowKit Go.Proofs.Ytionognmgcabbaa Go.Proofs.Ytionognmgcabbaa.Base Go.Proofs.Ytionognmgcabbaa.Mem Go.Proofs.Ytionognmgcabbaa.NatM Go.Proofs.Ytionognmgcabbaa.Nat32 Go.Proofs.Ytionognmgcabbaa.RatM
open Go.Proofs.Ytionognmgcabbaa.Inv (natOf natOf_eq len_pos Rat3 not_slice not_bool frz)
set_option linter.unusedVariables false
/-- digits in memory that is newer than a world -/
def RdV (w0 w : World) (A : Option Addr) (xs : List Nat) : Prop := RdU w w.heap.size A xs ∧ ∀ a, A = some a → w0.heap.size ≤ a.block
theorem RdV.below {w0 w w' : World} {A : Option Addr} {xs : List Nat} (h : RdV w0 w A xs) (hb : Below w.heap.size w w') : RdV w0 w' A xs := ⟨(h.1.below hb (Nat.le_refl _)).more hb.size, h.2⟩
theorem RdV.old {w0 w1 w : World} {A : Option Addr} {xs : List Nat} (h : RdV w1 w A xs) (hb : w0.heap.size ≤ w1.heap.size) : RdV w0 w A xs := ⟨h.1, fun a e => Nat.le_trans hb (h.2 a e)⟩
theorem RdV.non {w0 w : World} {A : Option Addr} {xs : List Nat} (h : RdV w0 w A xs) {b off : Nat} {u : Value} (hc : w.cell? ⟨b, off, none⟩ = some u) (hne : ∀ x : Int, u ≠ .int .u32 x) (v : Value) : RdV w0 (w.setCell ⟨b, off, none⟩ v) A xs := ⟨by simp only [World.size_setCell]; exact h.1.non hc hne v, h.2⟩
def NNew (n : Nat) (w : World) (e : Ending) (w' : World) : Prop := ∃ A c, e = .returned (.slice A (natL n).length c) ∧ RdV w w' A (natL n) ∧ Below w.heap.size w w'
def RtNew (s : Bool) (p q : Nat) (w : World) (e : Ending) (w' : World) : Prop := ∃ A c A' c', e = .returned (.agg #[.bool s, .slice A (natL p).length c, .slice A' (natL q).length c']) ∧ RdV w w' A (natL p) ∧ RdV w w' A' (natL q) ∧ Below w.heap.size w w'
theorem NNew.of {x : Nat} {w w' : World} {A : Option Addr} {c : Nat} {xs : List Nat} (h : RdU w' w'.heap.size A xs) (hx : xs.take (natL x).length = natL x) (hl : (natL x).length ≤ xs.length) (hb : Below w.heap.size w w') (hA : ∀ a, A = some a → w.heap.size ≤ a.block) : NNew x w (.returned (.slice A (natL x).length c)) w' :=
  ⟨A, c, rfl, ⟨by have := h.take hl; rwa [hx] at this, hA⟩, hb⟩
theorem RtNew.ret {s : Bool} {p q : Nat} {w : World} {e : Ending} {w' : World} (h : RtNew s p q w e w') : RtRet s p q w e w' := by
  obtain ⟨A, c, A', c', h1, h2, h3, h4⟩ := h
  exact ⟨A, c, A', c', h1, h2.1, h3.1, h4⟩
set_option maxHeartbeats 1000000 in
theorem naturalOf_new (n : Nat) (hn : n < 9223372036854775808) (w : World) : Calls Try.prog 81 #[.int .i64 (n : Int)] w (NNew n w) := by
  go_enter Try.func81, Try.ntmps81
  have hm : n % B32 < B32 := Nat.mod_lt _ (by decide)
  have hd : n / B32 < B32 := by unfold B32; omega
  have hok : okN [n % B32, n / B32] := by
    intro x hx
    simp only [List.mem_cons, List.not_mem_nil, or_false] at hx
    rcases hx with rfl | rfl
    · exact hm
    · exact hd
  have hv : val [n % B32, n / B32] = n := by
    simp only [val, Nat.mul_zero, Nat.add_zero]
    exact Nat.mod_add_div n B32
  have hW : RdU (w.alloc (.cells #[.int .u32 ((n : Int) % 4294967296), .int .u32 ((n : Int) / 4294967296)] 145)) (w.heap.size + 1) (some ⟨w.heap.size, 0, none⟩) [n % B32, n / B32] := fun _ => by
    refine ⟨w.heap.size, 0, rfl, Nat.lt_succ_self _, fun i hi => ?_⟩
    have hi2 : i < 2 := hi
    have : i = 0 ∨ i = 1 := by omega
    rcases this with rfl | rfl
    · rw [World.cell?_alloc_new]; simp [B32]
    · rw [World.cell?_alloc_new]; simp [B32]
  have HT := Lib.hid (trim_any (some ⟨w.heap.size, 0, none⟩) 2 (w.heap.size + 1) [n % B32, n / B32] _ hW hok (by simp) (by simp) (by decide))
  rw [hv] at HT
  have hB : Below w.heap.size w (w.alloc (.cells #[.int .u32 ((n : Int) % 4294967296), .int .u32 ((n : Int) / 4294967296)] 145)) := (Below.refl _ _).alloc (Nat.le_refl _) _
  have hk := natL_take hok
  rw [hv] at hk
  have HR := Lib.hid (NNew.of (x := n) (w := w) (c := 2) (hW.more (by simp)) hk.1 hk.2 hB (fun a e => by injection e with e; subst e; exact Nat.le_refl _))
  clear hm hd hok hv hW hB hk
  go_wp2_with fail
  refine HT.out.mono ?_
  rintro e w1 ⟨rfl, rfl⟩
  go_wp2
  go_ret
  exact HR.out
set_option maxHeartbeats 2000000 in
theorem ratioOf_new (n d : Int) (hn : n.natAbs ≤ 1000000000000000000) (hd : 0 ≤ d) (hd2 : d ≤ 1000000000000000000) (w : World) : Calls Try.prog 51 #[.agg #[.int .i64 n, .int .i64 d]] w (RtNew (decide (n < 0)) n.natAbs d.toNat w) := by
  have HQ := Lib.hid (QF.start n d w)
  go_enter Try.func51, Try.ntmps51
  go_wp2_with fail
  obtain ⟨L0, hL0⟩ : ∃ L0, natL n.natAbs = L0 := ⟨_, rfl⟩
  obtain ⟨L1, hL1⟩ : ∃ L1, natL d.toNat = L1 := ⟨_, rfl⟩
  obtain ⟨D, rfl⟩ := Int.eq_ofNat_of_zero_le hd
  rw [Int.toNat_natCast] at hL1
  have HSz := Lib.hid (fun W => size_int n hn W)
  have HN0 : Hid (∀ X, QF n (D : Int) w X → Calls Try.prog 81 #[.int .i64 ((n.natAbs : Nat) : Int)] X fun e w' => ∃ A c, e = .returned (.slice A L0.length c) ∧ RdV w w' A L0 ∧ QF n (D : Int) w w') := Lib.hid fun X hX => (naturalOf_new n.natAbs (by omega) X).mono fun e w' ⟨A, c, h1, h2, h3⟩ => ⟨A, c, by rw [h1, hL0], by rw [← hL0]; exact h2.old hX.2.2.2.1.size, hX.below h3⟩
  have HN1 : Hid (∀ X L0 A0, QF n (D : Int) w X → RdV w X A0 L0 → Calls Try.prog 81 #[.int .i64 (D : Int)] X fun e w' => ∃ A c, e = .returned (.slice A L1.length c) ∧ RdV w w' A L1 ∧ RdV w w' A0 L0 ∧ QF n (D : Int) w w') := Lib.hid fun X L0 A0 hX hr => (naturalOf_new D (by omega) X).mono fun e w' ⟨A, c, h1, h2, h3⟩ => ⟨A, c, by rw [h1, hL1], by rw [← hL1]; exact h2.old hX.2.2.2.1.size, hr.below h3, hX.below h3⟩
  have HL0 := Lib.hid hL0
  have HL1 := Lib.hid hL1
  clear hL0 hL1
  generalize n.natAbs = m at *
  go_region_held3 (fun w' => w'.cell? ⟨w.heap.size, 0, none⟩ = some (.int .i64 n) ∧ w'.cell? ⟨w.heap.size, 1, none⟩ = some (.int .i64 (D : Int)))
    (first | go_keep | (exact ⟨by assumption, by assumption⟩))
    (first | (go_at_call 82; refine (HSz.out _).mono ?_; rintro e w1 ⟨rfl, rfl⟩) | (go_at_call 81; refine (HN1.out _ _ _ HQ1.out Hr1.out).mono ?_; rintro e w2 ⟨A2, c2, rfl, hr2, hr1b, hq2⟩; have Hr1b := Lib.hid hr1b; clear hr1b; have Hr2 := Lib.hid hr2; have HQ2 := Lib.hid hq2; clear hr2 d0 d1 p0 p1 p2 pf0 pf1 pf2; have d0 := hq2.1; have d1 := hq2.2.1; have p0 := hq2.2.2.1.c0; have p1 := hq2.2.2.1.c1; have p2 := hq2.2.2.1.c2; have pf0 := hq2.2.2.1.f0; have pf1 := hq2.2.2.1.f1; have pf2 := hq2.2.2.1.f2; clear hq2) | (go_at_call 81; refine (HN0.out _ HQ.out).mono ?_; rintro e w1 ⟨A1, c1, rfl, hr1, hq1⟩; have Hr1 := Lib.hid hr1; clear hr1; have HQ1 := Lib.hid hq1; have d0 := hq1.1; have d1 := hq1.2.1; have p0 := hq1.2.2.1.c0; have p1 := hq1.2.2.1.c1; have p2 := hq1.2.2.1.c2; have pf0 := hq1.2.2.1.f0; have pf1 := hq1.2.2.1.f1; have pf2 := hq1.2.2.1.f2; clear hq1))
  all_goals
    have hq := HQ2.out.2.2.1
    have m6 := hq.set0 (.bool (decide (n < 0)))
    have m7 := m6.set1 (.slice A1 L0.length c1)
    have m8 := m7.set2 (.slice A2 L1.length c2)
    have HR : Hid (RtNew (decide (n < 0)) m D w (.returned (.agg #[.bool (decide (n < 0)), .slice A1 L0.length c1, .slice A2 L1.length c2])) (((w2.setCell ⟨w.heap.size + 1, 0, none⟩ (.bool (decide (n < 0)))).setCell ⟨w.heap.size + 1, 1, none⟩ (.slice A1 L0.length c1)).setCell ⟨w.heap.size + 1, 2, none⟩ (.slice A2 L1.length c2))) := Lib.hid (by
      refine ⟨A1, c1, A2, c2, by rw [HL0.out, HL1.out], ?_, ?_, ?_⟩
      · rw [HL0.out]
        exact ((Hr1b.out.non hq.c0 (not_bool _) _).non m6.c1 (not_slice _ _ _) _).non m7.c2 (not_slice _ _ _) _
      · rw [HL1.out]
        exact ((Hr2.out.non hq.c0 (not_bool _) _).non m6.c1 (not_slice _ _ _) _).non m7.c2 (not_slice _ _ _) _
      · exact (((HQ2.out.2.2.2.1).setCell (Nat.le_succ _) _).setCell (Nat.le_succ _) _).setCell (Nat.le_succ _) _)
    have m80 := m8.c0
    have m81 := m8.c1
    have m82 := m8.c2
    clear hq m6 m7 m8
    go_wp2
    refine bodyPost_ret (v := .agg #[.bool (decide (n < 0)), .slice A1 L0.length c1, .slice A2 L1.length c2]) (by simp [results, Try.results51, go_sem, m80, m81, m82]) rfl HR.out
end Go.Proofs.Ytionognmgcabbaa.Ratio
/- The program's ratios: integers, zero, lowest terms. -/
namespace Go.Proofs.Ytionognmgcabbaa.Ratio
open Go.RowKit Go.Proofs.Ytionognmgcabbaa Go.Proofs.Ytionognmgcabbaa.Base Go.Proofs.Ytionognmgcabbaa.Mem Go.Proofs.Ytionognmgcabbaa.NatM Go.Proofs.Ytionognmgcabbaa.Nat32 Go.Proofs.Ytionognmgcabbaa.RatM
open Go.Proofs.Ytionognmgcabbaa.Inv (natOf natOf_eq len_pos Rat3 not_slice not_bool frz)
set_option linter.unusedVariables false
/-- a ratio is laid into the three cells of a result -/
theorem rt_store {w w1 : World} {b p q : Nat} (s : Bool) {b0 : Bool} {a1 a2 : Option Addr} {n1 k1 n2 k2 : Nat} {A1 A2 : Option Addr} {c1 c2 : Nat} (hr : Rat3 w1 b (.bool b0) (.slice a1 n1 k1) (.slice a2 n2 k2)) (h1 : RdU w1 w1.heap.size A1 (natL p)) (h2 : RdU w1 w1.heap.size A2 (natL q))
    (hb : Below w.heap.size w w1) (hle : w.heap.size ≤ b) :
    Rat3 (w1.setCell ⟨b, 0, none⟩ (.bool s)) b (.bool s) (.slice a1 n1 k1) (.slice a2 n2 k2) ∧
    Rat3 ((w1.setCell ⟨b, 0, none⟩ (.bool s)).setCell ⟨b, 1, none⟩ (.slice A1 (natL p).length c1)) b (.bool s) (.slice A1 (natL p).length c1) (.slice a2 n2 k2) ∧
    Rat3 (((w1.setCell ⟨b, 0, none⟩ (.bool s)).setCell ⟨b, 1, none⟩ (.slice A1 (natL p).length c1)).setCell ⟨b, 2, none⟩ (.slice A2 (natL q).length c2)) b (.bool s) (.slice A1 (natL p).length c1) (.slice A2 (natL q).length c2) ∧
    RtRet s p q w (.returned (.agg #[.bool s, .slice A1 (natL p).length c1, .slice A2 (natL q).length c2])) (((w1.setCell ⟨b, 0, none⟩ (.bool s)).setCell ⟨b, 1, none⟩ (.slice A1 (natL p).length c1)).setCell ⟨b, 2, none⟩ (.slice A2 (natL q).length c2)) := by
  have m6 := hr.set0 (.bool s)
  have m7 := m6.set1 (.slice A1 (natL p).length c1)
  have m8 := m7.set2 (.slice A2 (natL q).length c2)
  refine ⟨m6, m7, m8, A1, c1, A2, c2, rfl, ?_, ?_, ?_⟩
  · simp only [World.size_setCell]
    exact ((h1.non hr.c0 (not_bool _) _).non m6.c1 (not_slice _ _ _) _).non m7.c2 (not_slice _ _ _) _
  · simp only [World.size_setCell]
    exact ((h2.non hr.c0 (not_bool _) _).non m6.c1 (not_slice _ _ _) _).non m7.c2 (not_slice _ _ _) _
  · exact ((hb.setCell hle _).setCell hle _).setCell hle _
set_option maxHeartbeats 1000000 in
theorem whole_any (n : Int) (hn : n.natAbs ≤ 1000000000000000000) (w : World) : Calls Try.prog 71 #[.int .i64 n] w (RtRet (decide (n < 0)) n.natAbs 1 w) := by
  obtain ⟨W0, hW0⟩ : ∃ W0, W0 = w.alloc (.cells #[.bool false, .slice none 0 0, .slice none 0 0] 89) := ⟨_, rfl⟩
  have hB0 : Below w.heap.size w W0 := by rw [hW0]; exact (Below.refl _ _).alloc (Nat.le_refl _) _
  have r1 : Rat3 W0 w.heap.size (.bool false) (.slice none 0 0) (.slice none 0 0) := by rw [hW0]; exact Rat3.new w _ _ _ _
  have hz0 : w.heap.size < W0.heap.size := by rw [hW0]; simp
  have HC := Lib.hid (ratioOf_any n 1 hn (by decide) (by decide) W0)
  rw [show (1 : Int).toNat = 1 from rfl] at HC
  generalize n.natAbs = m at *
  go_enter Try.func71, Try.ntmps71
  go_wp2_with fail
  rw [← hW0]
  refine HC.out.mono ?_
  rintro e w1 ⟨A1, c1, A2, c2, rfl, h1, h2, hb1⟩
  clear hW0 HC
  have q1 := r1.below hb1 hz0
  have hb := hB0.trans (hb1.mono hB0.size)
  clear r1 hb1 hB0 hz0
  obtain ⟨m6, m7, m8, HR⟩ := rt_store (decide (n < 0)) (c1 := c1) (c2 := c2) q1 h1 h2 hb (Nat.le_refl _)
  have HRH := Lib.hid HR
  clear HR
  obtain ⟨d0, d1, d2, df0, df1, df2⟩ := q1
  obtain ⟨m60, m61, m62, mf60, mf61, mf62⟩ := m6
  obtain ⟨m70, m71, m72, mf70, mf71, mf72⟩ := m7
  obtain ⟨m80, m81, m82, mf80, mf81, mf82⟩ := m8
  go_wp2
  refine bodyPost_ret (v := .agg #[.bool (decide (n < 0)), .slice A1 (natL m).length c1, .slice A2 (natL 1).length c2]) (by simp [results, Try.results71, go_sem, m80, m81, m82]) rfl HRH.out
set_option maxHeartbeats 1000000 in
theorem lowestG_zero (s : Bool) (A A' : Option Addr) (c n' c' : Nat) (w : World) : Calls Try.prog 84 #[.agg #[.bool s, .slice A 0 c, .slice A' n' c']] w (RtRet false 0 1 w) := by
  obtain ⟨W0, hW0⟩ : ∃ W0, W0 = (w.alloc (.cells #[.bool s, .slice A 0 c, .slice A' n' c'] 89)).alloc (.cells #[.bool false, .slice none 0 0, .slice none 0 0] 89) := ⟨_, rfl⟩
  have hB0 : Below w.heap.size w W0 := by rw [hW0]; exact ((Below.refl _ _).alloc (Nat.le_refl _) _).alloc (by simp) _
  have r1 : Rat3 W0 (w.heap.size + 1) (.bool false) (.slice none 0 0) (.slice none 0 0) := by
    rw [hW0]
    have := Rat3.new (w.alloc (.cells #[.bool s, .slice A 0 c, .slice A' n' c'] 89)) (.bool false) (.slice none 0 0) (.slice none 0 0) 89
    simpa using this
  have hz0 : w.heap.size + 1 < W0.heap.size := by rw [hW0]; simp
  have HC := Lib.hid (whole_any 0 (by decide) W0)
  rw [show decide ((0 : Int) < 0) = false from rfl, show (0 : Int).natAbs = 0 from rfl] at HC
  go_enter Try.func84, Try.ntmps84
  go_wp2_with fail
  rw [← hW0]
  refine HC.out.mono ?_
  rintro e w1 ⟨A1, c1, A2, c2, rfl, h1, h2, hb1⟩
  clear hW0 HC
  have q1 := r1.below hb1 hz0
  have hb := hB0.trans (hb1.mono hB0.size)
  clear r1 hb1 hB0 hz0
  obtain ⟨m6, m7, m8, HR⟩ := rt_store false (c1 := c1) (c2 := c2) q1 h1 h2 hb (Nat.le_succ _)
  have HRH := Lib.hid HR
  clear HR
  obtain ⟨d0, d1, d2, df0, df1, df2⟩ := q1
  obtain ⟨m60, m61, m62, mf60, mf61, mf62⟩ := m6
  obtain ⟨m70, m71, m72, mf70, mf71, mf72⟩ := m7
  obtain ⟨m80, m81, m82, mf80, mf81, mf82⟩ := m8
  go_wp2
  refine bodyPost_ret (v := .agg #[.bool false, .slice A1 (natL 0).length c1, .slice A2 (natL 1).length c2]) (by simp [results, Try.results84, go_sem, m80, m81, m82]) rfl HRH.out
/-- a rational that is returned -/
def RV (q : Rat) (w : World) (e : Ending) (w' : World) : Prop := RtRet (decide (q < 0)) q.num.natAbs q.den w e w'
theorem RV.of_zero {w w' : World} {e : Ending} (h : RtRet false 0 1 w e w') : RV 0 w e w' := h
theorem RV.of_pos {s : Bool} {v u : Nat} {w w' : World} {e : Ending} (hv : 0 < v) (hu : 0 < u) (h : RtRet s (v / Nat.gcd v u) (u / Nat.gcd v u) w e w') : RV (qv s v u) w e w' := by
  obtain ⟨h1, h2⟩ := qv_num s (n := v) (d := u) (by omega)
  unfold RV
  rw [qv_neg (by omega) (by omega), h1, h2]
  exact h
theorem lowestG (s : Bool) (v u : Nat) (A A' : Option Addr) (c c' : Nat) (w : World) (hx : RdU w w.heap.size A (natL v)) (hy : RdU w w.heap.size A' (natL u)) (hv : (natL v).length ≤ 1000000) (hu : (natL u).length ≤ 1000000) (hu0 : 0 < u) :
    Calls Try.prog 84 #[.agg #[.bool s, .slice A (natL v).length c, .slice A' (natL u).length c']] w (RV (qv s v u) w) := by
  rcases Nat.eq_zero_or_pos v with rfl | hv0
  · rw [natL_zero, List.length_nil, qv_zero]
    exact (lowestG_zero s A A' c _ c' w).mono fun e w' h => RV.of_zero h
  · exact (lowestG_pos s v u A A' c c' w hx hy hv hu hv0 hu0).mono fun e w' h => RV.of_pos hv0 hu0 h
/-- the size of a rational, in digits -/
def szR (q : Rat) : Nat := (natL q.num.natAbs).length + (natL q.den).length
end Go.Proofs.Ytionognmgcabbaa.Ratio
/- The program's ratios: products. -/
namespace Go.Proofs.Ytionognmgcabbaa.Ratio
open Go.RowKit Go.Proofs.Ytionognmgcabbaa Go.Proofs.Ytionognmgcabbaa.Base Go.Proofs.Ytionognmgcabbaa.Mem Go.Proofs.Ytionognmgcabbaa.NatM Go.Proofs.Ytionognmgcabbaa.Nat32 Go.Proofs.Ytionognmgcabbaa.RatM
open Go.Proofs.Ytionognmgcabbaa.Inv (natOf natOf_eq len_pos Rat3 not_slice not_bool frz)
set_option linter.unusedVariables false
theorem natL_mul_len (x y : Nat) : (natL (x * y)).length ≤ (natL x).length + (natL y).length := by
  refine natL_len_le ?_
  rw [Nat.pow_add]
  have h1 := val_lt _ (natL_ok x)
  have h2 := val_lt _ (natL_ok y)
  rw [natL_val] at h1 h2
  exact Nat.mul_lt_mul_of_lt_of_le h1 (Nat.le_of_lt h2) (Nat.pow_pos (by decide))
theorem natTimes (x y : Nat) (A A' : Option Addr) (c c' : Nat) (w : World) (hx : RdU w w.heap.size A (natL x)) (hy : RdU w w.heap.size A' (natL y)) (hl : (natL x).length ≤ 500000) (hl' : (natL y).length ≤ 500000) :
    Calls Try.prog 83 #[.slice A (natL x).length c, .slice A' (natL y).length c'] w (NRet (x * y) w) := by
  have := times_any A A' c c' w.heap.size w.heap.size (natL x) (natL y) w hx (Nat.le_refl _) hy (Nat.le_refl _) (natL_ok x) (natL_ok y) (by omega) (by omega)
  rw [natL_val, natL_val] at this
  exact this
/-- the boxes of a call with two ratios -/
def TF (w : World) (s s' : Bool) (v1 v2 v3 v4 : Value) (W : World) : Prop := Rat3 W w.heap.size (.bool s) v1 v2 ∧ Rat3 W (w.heap.size + 1) (.bool s') v3 v4 ∧ Rat3 W (w.heap.size + 1 + 1) (.bool false) (.slice none 0 0) (.slice none 0 0) ∧ Below w.heap.size w W ∧ w.heap.size + 3 ≤ W.heap.size
theorem TF.below {w W W' : World} {s s' : Bool} {v1 v2 v3 v4 : Value} (h : TF w s s' v1 v2 v3 v4 W) (hb : Below W.heap.size W W') : TF w s s' v1 v2 v3 v4 W' := by
  obtain ⟨h1, h2, h3, h4, h5⟩ := h
  exact ⟨h1.below hb (by omega), h2.below hb (by omega), h3.below hb (by omega), h4.trans (hb.mono (by omega)), by have := hb.size; omega⟩
theorem TF.start (w : World) (s s' : Bool) (v1 v2 v3 v4 : Value) :
    TF w s s' v1 v2 v3 v4 ((((w.alloc (.cells #[.bool s, v1, v2] 89)).alloc (.cells #[.bool s', v3, v4] 89)).alloc (.cells #[.bool false, .slice none 0 0, .slice none 0 0] 89)).drew) := by
  have r1 := Rat3.new w (.bool s) v1 v2 89
  have r2 := Rat3.new (w.alloc (.cells #[.bool s, v1, v2] 89)) (.bool s') v3 v4 89
  have r3 := Rat3.new ((w.alloc (.cells #[.bool s, v1, v2] 89)).alloc (.cells #[.bool s', v3, v4] 89)) (.bool false) (.slice none 0 0) (.slice none 0 0) 89
  simp only [World.size_alloc] at r2 r3
  have b2 : Below (w.heap.size + 1) (w.alloc (.cells #[.bool s, v1, v2] 89)) ((((w.alloc (.cells #[.bool s, v1, v2] 89)).alloc (.cells #[.bool s', v3, v4] 89)).alloc (.cells #[.bool false, .slice none 0 0, .slice none 0 0] 89)).drew) := (((Below.refl _ _).alloc (by simp) _).alloc (by simp) _).drew
  have b3 : Below (w.heap.size + 1 + 1) ((w.alloc (.cells #[.bool s, v1, v2] 89)).alloc (.cells #[.bool s', v3, v4] 89)) ((((w.alloc (.cells #[.bool s, v1, v2] 89)).alloc (.cells #[.bool s', v3, v4] 89)).alloc (.cells #[.bool false, .slice none 0 0, .slice none 0 0] 89)).drew) := ((Below.refl _ _).alloc (by simp) _).drew
  refine ⟨r1.below b2 (Nat.lt_succ_self _), r2.below b3 (Nat.lt_succ_self _), r3.below ((Below.refl (w.heap.size + 1 + 1 + 1) _).drew) (Nat.lt_succ_self _), ?_, by simp⟩
  exact ((((Below.refl _ _).alloc (Nat.le_refl _) _).alloc (by simp) _).alloc (by simp; omega) _).drew
set_option maxHeartbeats 4000000 in
set_option maxRecDepth 100000 in
theorem rtTimes (s s' : Bool) (n d n' d' : Nat) (A1 A2 A3 A4 : Option Addr) (c1 c2 c3 c4 : Nat) (w : World) (h1 : RdU w w.heap.size A1 (natL n)) (h2 : RdU w w.heap.size A2 (natL d)) (h3 : RdU w w.heap.size A3 (natL n')) (h4 : RdU w w.heap.size A4 (natL d'))
    (l1 : (natL n).length ≤ 500000) (l2 : (natL d).length ≤ 500000) (l3 : (natL n').length ≤ 500000) (l4 : (natL d').length ≤ 500000) (hd : 0 < d) (hd' : 0 < d') :
    Calls Try.prog 52 #[.agg #[.bool s, .slice A1 (natL n).length c1, .slice A2 (natL d).length c2], .agg #[.bool s', .slice A3 (natL n').length c3, .slice A4 (natL d').length c4]] w (RV (qv s n d * qv s' n' d') w) := by
  have HQ := Lib.hid (TF.start w s s' (.slice A1 (natL n).length c1) (.slice A2 (natL d).length c2) (.slice A3 (natL n').length c3) (.slice A4 (natL d').length c4))
  obtain ⟨T, hT⟩ : ∃ T : World → Prop, T = TF w s s' (.slice A1 (natL n).length c1) (.slice A2 (natL d).length c2) (.slice A3 (natL n').length c3) (.slice A4 (natL d').length c4) := ⟨_, rfl⟩
  have rd : ∀ {X : World} {A : Option Addr} {xs : List Nat}, RdU w w.heap.size A xs → T X → RdU X X.heap.size A xs := fun h hX => by
    rw [hT] at hX
    exact (h.below hX.2.2.2.1 (Nat.le_refl _)).more hX.2.2.2.1.size
  have HN : Hid (∀ X, T X → Calls Try.prog 83 #[.slice A1 (natL n).length c1, .slice A3 (natL n').length c3] X fun e w' => ∃ A c, e = .returned (.slice A (natL (n * n')).length c) ∧ RdU w' w'.heap.size A (natL (n * n')) ∧ T w') := Lib.hid fun X hX => (natTimes n n' A1 A3 c1 c3 X (rd h1 hX) (rd h3 hX) l1 l3).mono fun e w' ⟨A, c, g1, g2, g3⟩ => ⟨A, c, g1, g2, by rw [hT] at hX ⊢; exact hX.below g3⟩
  have HD : Hid (∀ X A0 xs, T X → RdU X X.heap.size A0 xs → Calls Try.prog 83 #[.slice A2 (natL d).length c2, .slice A4 (natL d').length c4] X fun e w' => ∃ A c, e = .returned (.slice A (natL (d * d')).length c) ∧ RdU w' w'.heap.size A (natL (d * d')) ∧ RdU w' w'.heap.size A0 xs ∧ T w') := Lib.hid fun X A0 xs hX hr => (natTimes d d' A2 A4 c2 c4 X (rd h2 hX) (rd h4 hX) l2 l4).mono fun e w' ⟨A, c, g1, g2, g3⟩ => ⟨A, c, g1, g2, (hr.below g3 (Nat.le_refl _)).more g3.size, by rw [hT] at hX ⊢; exact hX.below g3⟩
  have HLw : Hid (∀ X A c A' c', T X → RdU X X.heap.size A (natL (n * n')) → RdU X X.heap.size A' (natL (d * d')) → Calls Try.prog 84 #[.agg #[.bool (s != s'), .slice A (natL (n * n')).length c, .slice A' (natL (d * d')).length c']] X fun e w' => RV (qv s n d * qv s' n' d') X e w' ∧ T w') := Lib.hid fun X A c A' c' hX g1 g2 => by
    have e := lowestG (s != s') (n * n') (d * d') A A' c c' X g1 g2 (Nat.le_trans (natL_mul_len _ _) (by omega)) (Nat.le_trans (natL_mul_len _ _) (by omega)) (Nat.mul_pos hd hd')
    rw [qv_mul s s' (by omega) (by omega)] at e
    refine e.mono fun e w' h => ⟨h, ?_⟩
    obtain ⟨_, _, _, _, _, _, _, hb⟩ := h
    rw [hT] at hX ⊢
    exact hX.below hb
  rw [← hT] at HQ
  have HT : Hid (∀ X, T X → TF w s s' (.slice A1 (natL n).length c1) (.slice A2 (natL d).length c2) (.slice A3 (natL n').length c3) (.slice A4 (natL d').length c4) X) := Lib.hid fun X h => by rw [← hT]; exact h
  clear rd h1 h2 h3 h4 hT l1 l2 l3 l4
  generalize qv s n d * qv s' n' d' = q at *
  generalize natL (n * n') = L5 at *
  generalize natL (d * d') = L6 at *
  generalize (natL n).length = k1 at *
  generalize (natL d).length = k2 at *
  generalize (natL n').length = k3 at *
  generalize (natL d').length = k4 at *
  go_enter Try.func52, Try.ntmps52
  go_wp2_with fail
  have hq0 := HT.out _ HQ.out
  have a0 := (hq0).1.c0; have a1 := (hq0).1.c1; have a2 := (hq0).1.c2; have b0 := (hq0).2.1.c0; have b1 := (hq0).2.1.c1; have b2 := (hq0).2.1.c2; have p0 := (hq0).2.2.1.c0; have p1 := (hq0).2.2.1.c1; have p2 := (hq0).2.2.1.c2; have pf0 := (hq0).2.2.1.f0; have pf1 := (hq0).2.2.1.f1; have pf2 := (hq0).2.2.1.f2
  clear hq0
  go_region_held3 (fun w' => w'.cell? ⟨w.heap.size, 0, none⟩ = some (.bool s) ∧ w'.cell? ⟨w.heap.size, 1, none⟩ = some (.slice A1 k1 c1) ∧ w'.cell? ⟨w.heap.size, 2, none⟩ = some (.slice A2 k2 c2) ∧ w'.cell? ⟨w.heap.size + 1, 0, none⟩ = some (.bool s') ∧ w'.cell? ⟨w.heap.size + 1, 1, none⟩ = some (.slice A3 k3 c3) ∧ w'.cell? ⟨w.heap.size + 1, 2, none⟩ = some (.slice A4 k4 c4))
    (first | exact ⟨a0, a1, a2, b0, b1, b2⟩ | exact ⟨(((HQ3.out.1.far (by omega) _).far (by omega) _).far (by omega) _).c0, (((HQ3.out.1.far (by omega) _).far (by omega) _).far (by omega) _).c1, (((HQ3.out.1.far (by omega) _).far (by omega) _).far (by omega) _).c2, (((HQ3.out.2.1.far (by omega) _).far (by omega) _).far (by omega) _).c0, (((HQ3.out.2.1.far (by omega) _).far (by omega) _).far (by omega) _).c1, (((HQ3.out.2.1.far (by omega) _).far (by omega) _).far (by omega) _).c2⟩ | go_keep | exact ⟨a0, a1, a2, b0, b1, b2⟩ | exact ⟨(((HQ3.out.1.far (by omega) _).far (by omega) _).far (by omega) _).c0, (((HQ3.out.1.far (by omega) _).far (by omega) _).far (by omega) _).c1, (((HQ3.out.1.far (by omega) _).far (by omega) _).far (by omega) _).c2, (((HQ3.out.2.1.far (by omega) _).far (by omega) _).far (by omega) _).c0, (((HQ3.out.2.1.far (by omega) _).far (by omega) _).far (by omega) _).c1, (((HQ3.out.2.1.far (by omega) _).far (by omega) _).far (by omega) _).c2⟩)
    (first
      | (go_at_call 84; refine (HLw.out _ _ _ _ _ HQ2.out Hr1b.out Hr2.out).mono ?_; rintro e w3 ⟨⟨A7, c7, A8, c8, rfl, hr7, hr8, hb3⟩, hq3⟩; have HQ3 := Lib.hid (HT.out _ hq3); have Hr7 := Lib.hid hr7; have Hr8 := Lib.hid hr8; clear hr7 hr8 hb3 a0 a1 a2 b0 b1 b2 p0 p1 p2 pf0 pf1 pf2; have a0 := (HQ3.out).1.c0; have a1 := (HQ3.out).1.c1; have a2 := (HQ3.out).1.c2; have b0 := (HQ3.out).2.1.c0; have b1 := (HQ3.out).2.1.c1; have b2 := (HQ3.out).2.1.c2; have p0 := (HQ3.out).2.2.1.c0; have p1 := (HQ3.out).2.2.1.c1; have p2 := (HQ3.out).2.2.1.c2; have pf0 := (HQ3.out).2.2.1.f0; have pf1 := (HQ3.out).2.2.1.f1; have pf2 := (HQ3.out).2.2.1.f2)
      | (go_at_call 83; refine (HD.out _ _ _ HQ1.out Hr1.out).mono ?_; rintro e w2 ⟨A6, c6, rfl, hr2, hr1b, hq2⟩; have Hr1b := Lib.hid hr1b; have Hr2 := Lib.hid hr2; have HQ2 := Lib.hid hq2; have hq2 := HT.out _ hq2; clear hr2 hr1b a0 a1 a2 b0 b1 b2 p0 p1 p2 pf0 pf1 pf2; have a0 := (hq2).1.c0; have a1 := (hq2).1.c1; have a2 := (hq2).1.c2; have b0 := (hq2).2.1.c0; have b1 := (hq2).2.1.c1; have b2 := (hq2).2.1.c2; have p0 := (hq2).2.2.1.c0; have p1 := (hq2).2.2.1.c1; have p2 := (hq2).2.2.1.c2; have pf0 := (hq2).2.2.1.f0; have pf1 := (hq2).2.2.1.f1; have pf2 := (hq2).2.2.1.f2; clear hq2)
      | (go_at_call 83; refine (HN.out _ HQ.out).mono ?_; rintro e w1 ⟨A5, c5, rfl, hr1, hq1⟩; have Hr1 := Lib.hid hr1; have HQ1 := Lib.hid hq1; have hq1 := HT.out _ hq1; clear hr1 a0 a1 a2 b0 b1 b2 p0 p1 p2 pf0 pf1 pf2; have a0 := (hq1).1.c0; have a1 := (hq1).1.c1; have a2 := (hq1).1.c2; have b0 := (hq1).2.1.c0; have b1 := (hq1).2.1.c1; have b2 := (hq1).2.1.c2; have p0 := (hq1).2.2.1.c0; have p1 := (hq1).2.2.1.c1; have p2 := (hq1).2.2.1.c2; have pf0 := (hq1).2.2.1.f0; have pf1 := (hq1).2.2.1.f1; have pf2 := (hq1).2.2.1.f2; clear hq1))
  all_goals
    obtain ⟨m6, m7, m8, HR⟩ := rt_store (c1 := c7) (c2 := c8) (decide (q < 0)) HQ3.out.2.2.1 Hr7.out Hr8.out HQ3.out.2.2.2.1 (by omega)
    have HRH := Lib.hid HR
    have m80 := m8.c0
    have m81 := m8.c1
    have m82 := m8.c2
    clear HR m6 m7 m8
    go_wp2
    refine bodyPost_ret (v := .agg #[.bool (decide (q < 0)), .slice A7 (natL q.num.natAbs).length c7, .slice A8 (natL q.den).length c8]) (by simp [results, Try.results52, go_sem, m80, m81, m82]) rfl HRH.out
end Go.Proofs.Ytionognmgcabbaa.Ratio

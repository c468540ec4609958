/- The program's ratios: the digits of a fraction's ratio are newly made. -/
import Derived.Test.YtionognmgcabbaaGreatMgSet03
import Derived.Deep.CutRange
namespace Go.Proofs.YtionognmgcabbaaGreat.Ratio
open Go.RowKit Go.Proofs.YtionognmgcabbaaGreat Go.Proofs.YtionognmgcabbaaGreat.Base Go.Proofs.YtionognmgcabbaaGreat.Mem Go.Proofs.YtionognmgcabbaaGreat.NatM Go.Proofs.YtionognmgcabbaaGreat.Nat32 Go.Proofs.YtionognmgcabbaaGreat.RatM
open Go.Proofs.YtionognmgcabbaaGreat.Inv (natOf natOf_eq len_pos Rat3 not_slice not_bool frz)
set_option linter.unusedVariables false
/-- digits in memory that is newer than a world -/
def RdV (w0 w : World) (A : Option Addr) (xs : List Nat) : Prop := RdU w w.heap.size A xs ∧ ∀ a, A = some a → w0.heap.size ≤ a.block
theorem RdV.below {w0 w w' : World} {A : Option Addr} {xs : List Nat} (h : RdV w0 w A xs) (hb : Below w.heap.size w w') : RdV w0 w' A xs := ⟨(h.1.below hb (Nat.le_refl _)).more hb.size, h.2⟩
theorem RdV.old {w0 w1 w : World} {A : Option Addr} {xs : List Nat} (h : RdV w1 w A xs) (hb : w0.heap.size ≤ w1.heap.size) : RdV w0 w A xs := ⟨h.1, fun a e => Nat.le_trans hb (h.2 a e)⟩
theorem RdV.non {w0 w : World} {A : Option Addr} {xs : List Nat} (h : RdV w0 w A xs) {b off : Nat} {u : Value} (hc : w.cell? ⟨b, off, none⟩ = some u) (hne : ∀ x : Int, u ≠ .int .u32 x) (v : Value) : RdV w0 (w.setCell ⟨b, off, none⟩ v) A xs := ⟨by simp only [World.size_setCell]; exact h.1.non hc hne v, h.2⟩
def NNew (n : Nat) (w : World) (e : Ending) (w' : World) : Prop := ∃ A c, e = .returned (.slice A (natL n).length c) ∧ RdV w w' A (natL n) ∧ Below w.heap.size w w'
def RtNew (s : Bool) (p q : Nat) (w : World) (e : Ending) (w' : World) : Prop := ∃ A c A' c', e = .returned (.agg #[.bool s, .slice A (natL p).length c, .slice A' (natL q).length c']) ∧ RdV w w' A (natL p) ∧ RdV w w' A' (natL q) ∧ Below w.heap.size w w'
theorem NNew.of {x : Nat} {w w' : World} {A : Option Addr} {c : Nat} {xs : List Nat} (h : RdU w' w'.heap.size A xs) (hx : xs.take (natL x).length = natL x) (hl : (natL x).length ≤ xs.length) (hb : Below w.heap.size w w') (hA : ∀ a, A = some a → w.heap.size ≤ a.block) : NNew x w (.returned (.slice A (natL x).length c)) w' :=
  ⟨A, c, rfl, ⟨by have := h.take hl; rwa [hx] at this, hA⟩, hb⟩
theorem RtNew.ret {s : Bool} {p q : Nat} {w : World} {e : Ending} {w' : World} (h : RtNew s p q w e w') : RtRet s p q w e w' := by
  obtain ⟨A, c, A', c', h1, h2, h3, h4⟩ := h
  exact ⟨A, c, A', c', h1, h2.1, h3.1, h4⟩
set_option maxHeartbeats 1000000 in
theorem naturalOf_new (n : Nat) (hn : n < 9223372036854775808) (w : World) : Calls Tryz.prog 157 #[.int .i64 (n : Int)] w (NNew n w) := by
  go_enter Tryz.func157, Tryz.ntmps157
  have hm : n % B32 < B32 := Nat.mod_lt _ (by decide)
  have hd : n / B32 < B32 := by unfold B32; omega
  have hok : okN [n % B32, n / B32] := by
    intro x hx
    simp only [List.mem_cons, List.not_mem_nil, or_false] at hx
    rcases hx with rfl | rfl
    · exact hm
    · exact hd
  have hv : val [n % B32, n / B32] = n := by
    simp only [val, Nat.mul_zero, Nat.add_zero]
    exact Nat.mod_add_div n B32
  have hW : RdU (w.alloc (.cells #[.int .u32 ((n : Int) % 4294967296), .int .u32 ((n : Int) / 4294967296)] 186)) (w.heap.size + 1) (some ⟨w.heap.size, 0, none⟩) [n % B32, n / B32] := fun _ => by
    refine ⟨w.heap.size, 0, rfl, Nat.lt_succ_self _, fun i hi => ?_⟩
    have hi2 : i < 2 := hi
    have : i = 0 ∨ i = 1 := by omega
    rcases this with rfl | rfl
    · rw [World.cell?_alloc_new]; simp [B32]
    · rw [World.cell?_alloc_new]; simp [B32]
  have HT := Lib.hid (trim_any (some ⟨w.heap.size, 0, none⟩) 2 (w.heap.size + 1) [n % B32, n / B32] _ hW hok (by simp) (by simp) (by decide))
  rw [hv] at HT
  have hB : Below w.heap.size w (w.alloc (.cells #[.int .u32 ((n : Int) % 4294967296), .int .u32 ((n : Int) / 4294967296)] 186)) := (Below.refl _ _).alloc (Nat.le_refl _) _
  have hk := natL_take hok
  rw [hv] at hk
  have HR := Lib.hid (NNew.of (x := n) (w := w) (c := 2) (hW.more (by simp)) hk.1 hk.2 hB (fun a e => by injection e with e; subst e; exact Nat.le_refl _))
  clear hm hd hok hv hW hB hk
  go_wp2_with fail
  refine HT.out.mono ?_
  rintro e w1 ⟨rfl, rfl⟩
  go_wp2
  go_ret
  exact HR.out
set_option maxHeartbeats 2000000 in
theorem ratioOf_new (n d : Int) (hn : n.natAbs ≤ 1000000000000000000) (hd : 0 ≤ d) (hd2 : d ≤ 1000000000000000000) (w : World) : Calls Tryz.prog 107 #[.agg #[.int .i64 n, .int .i64 d]] w (RtNew (decide (n < 0)) n.natAbs d.toNat w) := by
  have HQ := Lib.hid (QF.start n d w)
  go_enter Tryz.func107, Tryz.ntmps107
  go_wp2_with fail
  obtain ⟨L0, hL0⟩ : ∃ L0, natL n.natAbs = L0 := ⟨_, rfl⟩
  obtain ⟨L1, hL1⟩ : ∃ L1, natL d.toNat = L1 := ⟨_, rfl⟩
  obtain ⟨D, rfl⟩ := Int.eq_ofNat_of_zero_le hd
  rw [Int.toNat_natCast] at hL1
  have HSz := Lib.hid (fun W => size_int n hn W)
  have HN0 : Hid (∀ X, QF n (D : Int) w X → Calls Tryz.prog 157 #[.int .i64 ((n.natAbs : Nat) : Int)] X fun e w' => ∃ A c, e = .returned (.slice A L0.length c) ∧ RdV w w' A L0 ∧ QF n (D : Int) w w') := Lib.hid fun X hX => (naturalOf_new n.natAbs (by omega) X).mono fun e w' ⟨A, c, h1, h2, h3⟩ => ⟨A, c, by rw [h1, hL0], by rw [← hL0]; exact h2.old hX.2.2.2.1.size, hX.below h3⟩
  have HN1 : Hid (∀ X L0 A0, QF n (D : Int) w X → RdV w X A0 L0 → Calls Tryz.prog 157 #[.int .i64 (D : Int)] X fun e w' => ∃ A c, e = .returned (.slice A L1.length c) ∧ RdV w w' A L1 ∧ RdV w w' A0 L0 ∧ QF n (D : Int) w w') := Lib.hid fun X L0 A0 hX hr => (naturalOf_new D (by omega) X).mono fun e w' ⟨A, c, h1, h2, h3⟩ => ⟨A, c, by rw [h1, hL1], by rw [← hL1]; exact h2.old hX.2.2.2.1.size, hr.below h3, hX.below h3⟩
  have HL0 := Lib.hid hL0
  have HL1 := Lib.hid hL1
  clear hL0 hL1
  generalize n.natAbs = m at *
  go_region_held3 (fun w' => w'.cell? ⟨w.heap.size, 0, none⟩ = some (.int .i64 n) ∧ w'.cell? ⟨w.heap.size, 1, none⟩ = some (.int .i64 (D : Int)))
    (first | go_keep | (exact ⟨by assumption, by assumption⟩))
    (first | (go_at_call 153; refine (HSz.out _).mono ?_; rintro e w1 ⟨rfl, rfl⟩) | (go_at_call 157; refine (HN1.out _ _ _ HQ1.out Hr1.out).mono ?_; rintro e w2 ⟨A2, c2, rfl, hr2, hr1b, hq2⟩; have Hr1b := Lib.hid hr1b; clear hr1b; have Hr2 := Lib.hid hr2; have HQ2 := Lib.hid hq2; clear hr2 d0 d1 p0 p1 p2 pf0 pf1 pf2; have d0 := hq2.1; have d1 := hq2.2.1; have p0 := hq2.2.2.1.c0; have p1 := hq2.2.2.1.c1; have p2 := hq2.2.2.1.c2; have pf0 := hq2.2.2.1.f0; have pf1 := hq2.2.2.1.f1; have pf2 := hq2.2.2.1.f2; clear hq2) | (go_at_call 157; refine (HN0.out _ HQ.out).mono ?_; rintro e w1 ⟨A1, c1, rfl, hr1, hq1⟩; have Hr1 := Lib.hid hr1; clear hr1; have HQ1 := Lib.hid hq1; have d0 := hq1.1; have d1 := hq1.2.1; have p0 := hq1.2.2.1.c0; have p1 := hq1.2.2.1.c1; have p2 := hq1.2.2.1.c2; have pf0 := hq1.2.2.1.f0; have pf1 := hq1.2.2.1.f1; have pf2 := hq1.2.2.1.f2; clear hq1))
  all_goals
    have hq := HQ2.out.2.2.1
    have m6 := hq.set0 (.bool (decide (n < 0)))
    have m7 := m6.set1 (.slice A1 L0.length c1)
    have m8 := m7.set2 (.slice A2 L1.length c2)
    have HR : Hid (RtNew (decide (n < 0)) m D w (.returned (.agg #[.bool (decide (n < 0)), .slice A1 L0.length c1, .slice A2 L1.length c2])) (((w2.setCell ⟨w.heap.size + 1, 0, none⟩ (.bool (decide (n < 0)))).setCell ⟨w.heap.size + 1, 1, none⟩ (.slice A1 L0.length c1)).setCell ⟨w.heap.size + 1, 2, none⟩ (.slice A2 L1.length c2))) := Lib.hid (by
      refine ⟨A1, c1, A2, c2, by rw [HL0.out, HL1.out], ?_, ?_, ?_⟩
      · rw [HL0.out]
        exact ((Hr1b.out.non hq.c0 (not_bool _) _).non m6.c1 (not_slice _ _ _) _).non m7.c2 (not_slice _ _ _) _
      · rw [HL1.out]
        exact ((Hr2.out.non hq.c0 (not_bool _) _).non m6.c1 (not_slice _ _ _) _).non m7.c2 (not_slice _ _ _) _
      · exact (((HQ2.out.2.2.2.1).setCell (Nat.le_succ _) _).setCell (Nat.le_succ _) _).setCell (Nat.le_succ _) _)
    have m80 := m8.c0
    have m81 := m8.c1
    have m82 := m8.c2
    clear hq m6 m7 m8
    go_wp2
    refine bodyPost_ret (v := .agg #[.bool (decide (n < 0)), .slice A1 L0.length c1, .slice A2 L1.length c2]) (by simp [results, Tryz.results107, go_sem, m80, m81, m82]) rfl HR.out
end Go.Proofs.YtionognmgcabbaaGreat.Ratio
/- The program's ratios: integers, zero, lowest terms. -/
namespace Go.Proofs.YtionognmgcabbaaGreat.Ratio
open Go.RowKit Go.Proofs.YtionognmgcabbaaGreat Go.Proofs.YtionognmgcabbaaGreat.Base Go.Proofs.YtionognmgcabbaaGreat.Mem Go.Proofs.YtionognmgcabbaaGreat.NatM Go.Proofs.YtionognmgcabbaaGreat.Nat32 Go.Proofs.YtionognmgcabbaaGreat.RatM
open Go.Proofs.YtionognmgcabbaaGreat.Inv (natOf natOf_eq len_pos Rat3 not_slice not_bool frz)
set_option linter.unusedVariables false
/-- a ratio is laid into the three cells of a result -/
theorem rt_store {w w1 : World} {b p q : Nat} (s : Bool) {b0 : Bool} {a1 a2 : Option Addr} {n1 k1 n2 k2 : Nat} {A1 A2 : Option Addr} {c1 c2 : Nat} (hr : Rat3 w1 b (.bool b0) (.slice a1 n1 k1) (.slice a2 n2 k2)) (h1 : RdU w1 w1.heap.size A1 (natL p)) (h2 : RdU w1 w1.heap.size A2 (natL q))
    (hb : Below w.heap.size w w1) (hle : w.heap.size ≤ b) :
    Rat3 (w1.setCell ⟨b, 0, none⟩ (.bool s)) b (.bool s) (.slice a1 n1 k1) (.slice a2 n2 k2) ∧
    Rat3 ((w1.setCell ⟨b, 0, none⟩ (.bool s)).setCell ⟨b, 1, none⟩ (.slice A1 (natL p).length c1)) b (.bool s) (.slice A1 (natL p).length c1) (.slice a2 n2 k2) ∧
    Rat3 (((w1.setCell ⟨b, 0, none⟩ (.bool s)).setCell ⟨b, 1, none⟩ (.slice A1 (natL p).length c1)).setCell ⟨b, 2, none⟩ (.slice A2 (natL q).length c2)) b (.bool s) (.slice A1 (natL p).length c1) (.slice A2 (natL q).length c2) ∧
    RtRet s p q w (.returned (.agg #[.bool s, .slice A1 (natL p).length c1, .slice A2 (natL q).length c2])) (((w1.setCell ⟨b, 0, none⟩ (.bool s)).setCell ⟨b, 1, none⟩ (.slice A1 (natL p).length c1)).setCell ⟨b, 2, none⟩ (.slice A2 (natL q).length c2)) := by
  have m6 := hr.set0 (.bool s)
  have m7 := m6.set1 (.slice A1 (natL p).length c1)
  have m8 := m7.set2 (.slice A2 (natL q).length c2)
  refine ⟨m6, m7, m8, A1, c1, A2, c2, rfl, ?_, ?_, ?_⟩
  · simp only [World.size_setCell]
    exact ((h1.non hr.c0 (not_bool _) _).non m6.c1 (not_slice _ _ _) _).non m7.c2 (not_slice _ _ _) _
  · simp only [World.size_setCell]
    exact ((h2.non hr.c0 (not_bool _) _).non m6.c1 (not_slice _ _ _) _).non m7.c2 (not_slice _ _ _) _
  · exact ((hb.setCell hle _).setCell hle _).setCell hle _
set_option maxHeartbeats 1000000 in
theorem whole_any (n : Int) (hn : n.natAbs ≤ 1000000000000000000) (w : World) : Calls Tryz.prog 69 #[.int .i64 n] w (RtRet (decide (n < 0)) n.natAbs 1 w) := by
  obtain ⟨W0, hW0⟩ : ∃ W0, W0 = w.alloc (.cells #[.bool false, .slice none 0 0, .slice none 0 0] 87) := ⟨_, rfl⟩
  have hB0 : Below w.heap.size w W0 := by rw [hW0]; exact (Below.refl _ _).alloc (Nat.le_refl _) _
  have r1 : Rat3 W0 w.heap.size (.bool false) (.slice none 0 0) (.slice none 0 0) := by rw [hW0]; exact Rat3.new w _ _ _ _
  have hz0 : w.heap.size < W0.heap.size := by rw [hW0]; simp
  have HC := Lib.hid (ratioOf_any n 1 hn (by decide) (by decide) W0)
  rw [show (1 : Int).toNat = 1 from rfl] at HC
  generalize n.natAbs = m at *
  go_enter Tryz.func69, Tryz.ntmps69
  go_wp2_with fail
  rw [← hW0]
  refine HC.out.mono ?_
  rintro e w1 ⟨A1, c1, A2, c2, rfl, h1, h2, hb1⟩
  clear hW0 HC
  have q1 := r1.below hb1 hz0
  have hb := hB0.trans (hb1.mono hB0.size)
  clear r1 hb1 hB0 hz0
  obtain ⟨m6, m7, m8, HR⟩ := rt_store (decide (n < 0)) (c1 := c1) (c2 := c2) q1 h1 h2 hb (Nat.le_refl _)
  have HRH := Lib.hid HR
  clear HR
  obtain ⟨d0, d1, d2, df0, df1, df2⟩ := q1
  obtain ⟨m60, m61, m62, mf60, mf61, mf62⟩ := m6
  obtain ⟨m70, m71, m72, mf70, mf71, mf72⟩ := m7
  obtain ⟨m80, m81, m82, mf80, mf81, mf82⟩ := m8
  go_wp2
  refine bodyPost_ret (v := .agg #[.bool (decide (n < 0)), .slice A1 (natL m).length c1, .slice A2 (natL 1).length c2]) (by simp [results, Tryz.results69, go_sem, m80, m81, m82]) rfl HRH.out
set_option maxHeartbeats 1000000 in
theorem lowestG_zero (s : Bool) (A A' : Option Addr) (c n' c' : Nat) (w : World) : Calls Tryz.prog 139 #[.agg #[.bool s, .slice A 0 c, .slice A' n' c']] w (RtRet false 0 1 w) := by
  obtain ⟨W0, hW0⟩ : ∃ W0, W0 = (w.alloc (.cells #[.bool s, .slice A 0 c, .slice A' n' c'] 87)).alloc (.cells #[.bool false, .slice none 0 0, .slice none 0 0] 87) := ⟨_, rfl⟩
  have hB0 : Below w.heap.size w W0 := by rw [hW0]; exact ((Below.refl _ _).alloc (Nat.le_refl _) _).alloc (by simp) _
  have r1 : Rat3 W0 (w.heap.size + 1) (.bool false) (.slice none 0 0) (.slice none 0 0) := by
    rw [hW0]
    have := Rat3.new (w.alloc (.cells #[.bool s, .slice A 0 c, .slice A' n' c'] 87)) (.bool false) (.slice none 0 0) (.slice none 0 0) 87
    simpa using this
  have hz0 : w.heap.size + 1 < W0.heap.size := by rw [hW0]; simp
  have HC := Lib.hid (whole_any 0 (by decide) W0)
  rw [show decide ((0 : Int) < 0) = false from rfl, show (0 : Int).natAbs = 0 from rfl] at HC
  go_enter Tryz.func139, Tryz.ntmps139
  go_wp2_with fail
  rw [← hW0]
  refine HC.out.mono ?_
  rintro e w1 ⟨A1, c1, A2, c2, rfl, h1, h2, hb1⟩
  clear hW0 HC
  have q1 := r1.below hb1 hz0
  have hb := hB0.trans (hb1.mono hB0.size)
  clear r1 hb1 hB0 hz0
  obtain ⟨m6, m7, m8, HR⟩ := rt_store false (c1 := c1) (c2 := c2) q1 h1 h2 hb (Nat.le_succ _)
  have HRH := Lib.hid HR
  clear HR
  obtain ⟨d0, d1, d2, df0, df1, df2⟩ := q1
  obtain ⟨m60, m61, m62, mf60, mf61, mf62⟩ := m6
  obtain ⟨m70, m71, m72, mf70, mf71, mf72⟩ := m7
  obtain ⟨m80, m81, m82, mf80, mf81, mf82⟩ := m8
  go_wp2
  refine bodyPost_ret (v := .agg #[.bool false, .slice A1 (natL 0).length c1, .slice A2 (natL 1).length c2]) (by simp [results, Tryz.results139, go_sem, m80, m81, m82]) rfl HRH.out
/-- a rational that is returned -/
def RV (q : Rat) (w : World) (e : Ending) (w' : World) : Prop := RtRet (decide (q < 0)) q.num.natAbs q.den w e w'
theorem RV.of_zero {w w' : World} {e : Ending} (h : RtRet false 0 1 w e w') : RV 0 w e w' := h
theorem RV.of_pos {s : Bool} {v u : Nat} {w w' : World} {e : Ending} (hv : 0 < v) (hu : 0 < u) (h : RtRet s (v / Nat.gcd v u) (u / Nat.gcd v u) w e w') : RV (qv s v u) w e w' := by
  obtain ⟨h1, h2⟩ := qv_num s (n := v) (d := u) (by omega)
  unfold RV
  rw [qv_neg (by omega) (by omega), h1, h2]
  exact h
theorem lowestG (s : Bool) (v u : Nat) (A A' : Option Addr) (c c' : Nat) (w : World) (hx : RdU w w.heap.size A (natL v)) (hy : RdU w w.heap.size A' (natL u)) (hv : (natL v).length ≤ 1000000) (hu : (natL u).length ≤ 1000000) (hu0 : 0 < u) :
    Calls Tryz.prog 139 #[.agg #[.bool s, .slice A (natL v).length c, .slice A' (natL u).length c']] w (RV (qv s v u) w) := by
  rcases Nat.eq_zero_or_pos v with rfl | hv0
  · rw [natL_zero, List.length_nil, qv_zero]
    exact (lowestG_zero s A A' c _ c' w).mono fun e w' h => RV.of_zero h
  · exact (lowestG_pos s v u A A' c c' w hx hy hv hu hv0 hu0).mono fun e w' h => RV.of_pos hv0 hu0 h
/-- the size of a rational, in digits -/
def szR (q : Rat) : Nat := (natL q.num.natAbs).length + (natL q.den).length
end Go.Proofs.YtionognmgcabbaaGreat.Ratio
/- The program's ratios: products. -/
namespace Go.Proofs.YtionognmgcabbaaGreat.Ratio
open Go.RowKit Go.Proofs.YtionognmgcabbaaGreat Go.Proofs.YtionognmgcabbaaGreat.Base Go.Proofs.YtionognmgcabbaaGreat.Mem Go.Proofs.YtionognmgcabbaaGreat.NatM Go.Proofs.YtionognmgcabbaaGreat.Nat32 Go.Proofs.YtionognmgcabbaaGreat.RatM
open Go.Proofs.YtionognmgcabbaaGreat.Inv (natOf natOf_eq len_pos Rat3 not_slice not_bool frz)
set_option linter.unusedVariables false
theorem natL_mul_len (x y : Nat) : (natL (x * y)).length ≤ (natL x).length + (natL y).length := by
  refine natL_len_le ?_
  rw [Nat.pow_add]
  have h1 := val_lt _ (natL_ok x)
  have h2 := val_lt _ (natL_ok y)
  rw [natL_val] at h1 h2
  exact Nat.mul_lt_mul_of_lt_of_le h1 (Nat.le_of_lt h2) (Nat.pow_pos (by decide))
theorem natTimes (x y : Nat) (A A' : Option Addr) (c c' : Nat) (w : World) (hx : RdU w w.heap.size A (natL x)) (hy : RdU w w.heap.size A' (natL y)) (hl : (natL x).length ≤ 500000) (hl' : (natL y).length ≤ 500000) :
    Calls Tryz.prog 135 #[.slice A (natL x).length c, .slice A' (natL y).length c'] w (NRet (x * y) w) := by
  have := times_any A A' c c' w.heap.size w.heap.size (natL x) (natL y) w hx (Nat.le_refl _) hy (Nat.le_refl _) (natL_ok x) (natL_ok y) (by omega) (by omega)
  rw [natL_val, natL_val] at this
  exact this
/-- the boxes of a call with two ratios -/
def TF (w : World) (s s' : Bool) (v1 v2 v3 v4 : Value) (W : World) : Prop := Rat3 W w.heap.size (.bool s) v1 v2 ∧ Rat3 W (w.heap.size + 1) (.bool s') v3 v4 ∧ Rat3 W (w.heap.size + 1 + 1) (.bool false) (.slice none 0 0) (.slice none 0 0) ∧ Below w.heap.size w W ∧ w.heap.size + 3 ≤ W.heap.size
theorem TF.below {w W W' : World} {s s' : Bool} {v1 v2 v3 v4 : Value} (h : TF w s s' v1 v2 v3 v4 W) (hb : Below W.heap.size W W') : TF w s s' v1 v2 v3 v4 W' := by
  obtain ⟨h1, h2, h3, h4, h5⟩ := h
  exact ⟨h1.below hb (by omega), h2.below hb (by omega), h3.below hb (by omega), h4.trans (hb.mono (by omega)), by have := hb.size; omega⟩
theorem TF.start (w : World) (s s' : Bool) (v1 v2 v3 v4 : Value) :
    TF w s s' v1 v2 v3 v4 ((((w.alloc (.cells #[.bool s, v1, v2] 87)).alloc (.cells #[.bool s', v3, v4] 87)).alloc (.cells #[.bool false, .slice none 0 0, .slice none 0 0] 87)).drew) := by
  have r1 := Rat3.new w (.bool s) v1 v2 87
  have r2 := Rat3.new (w.alloc (.cells #[.bool s, v1, v2] 87)) (.bool s') v3 v4 87
  have r3 := Rat3.new ((w.alloc (.cells #[.bool s, v1, v2] 87)).alloc (.cells #[.bool s', v3, v4] 87)) (.bool false) (.slice none 0 0) (.slice none 0 0) 87
  simp only [World.size_alloc] at r2 r3
  have b2 : Below (w.heap.size + 1) (w.alloc (.cells #[.bool s, v1, v2] 87)) ((((w.alloc (.cells #[.bool s, v1, v2] 87)).alloc (.cells #[.bool s', v3, v4] 87)).alloc (.cells #[.bool false, .slice none 0 0, .slice none 0 0] 87)).drew) := (((Below.refl _ _).alloc (by simp) _).alloc (by simp) _).drew
  have b3 : Below (w.heap.size + 1 + 1) ((w.alloc (.cells #[.bool s, v1, v2] 87)).alloc (.cells #[.bool s', v3, v4] 87)) ((((w.alloc (.cells #[.bool s, v1, v2] 87)).alloc (.cells #[.bool s', v3, v4] 87)).alloc (.cells #[.bool false, .slice none 0 0, .slice none 0 0] 87)).drew) := ((Below.refl _ _).alloc (by simp) _).drew
  refine ⟨r1.below b2 (Nat.lt_succ_self _), r2.below b3 (Nat.lt_succ_self _), r3.below ((Below.refl (w.heap.size + 1 + 1 + 1) _).drew) (Nat.lt_succ_self _), ?_, by simp⟩
  exact ((((Below.refl _ _).alloc (Nat.le_refl _) _).alloc (by simp) _).alloc (by simp; omega) _).drew
set_option maxHeartbeats 4000000 in
set_option maxRecDepth 100000 in
theorem rtTimes (s s' : Bool) (n d n' d' : Nat) (A1 A2 A3 A4 : Option Addr) (c1 c2 c3 c4 : Nat) (w : World) (h1 : RdU w w.heap.size A1 (natL n)) (h2 : RdU w w.heap.size A2 (natL d)) (h3 : RdU w w.heap.size A3 (natL n')) (h4 : RdU w w.heap.size A4 (natL d'))
    (l1 : (natL n).length ≤ 500000) (l2 : (natL d).length ≤ 500000) (l3 : (natL n').length ≤ 500000) (l4 : (natL d').length ≤ 500000) (hd : 0 < d) (hd' : 0 < d') :
    Calls Tryz.prog 112 #[.agg #[.bool s, .slice A1 (natL n).length c1, .slice A2 (natL d).length c2], .agg #[.bool s', .slice A3 (natL n').length c3, .slice A4 (natL d').length c4]] w (RV (qv s n d * qv s' n' d') w) := by
  have HQ := Lib.hid (TF.start w s s' (.slice A1 (natL n).length c1) (.slice A2 (natL d).length c2) (.slice A3 (natL n').length c3) (.slice A4 (natL d').length c4))
  obtain ⟨T, hT⟩ : ∃ T : World → Prop, T = TF w s s' (.slice A1 (natL n).length c1) (.slice A2 (natL d).length c2) (.slice A3 (natL n').length c3) (.slice A4 (natL d').length c4) := ⟨_, rfl⟩
  have rd : ∀ {X : World} {A : Option Addr} {xs : List Nat}, RdU w w.heap.size A xs → T X → RdU X X.heap.size A xs := fun h hX => by
    rw [hT] at hX
    exact (h.below hX.2.2.2.1 (Nat.le_refl _)).more hX.2.2.2.1.size
  have HN : Hid (∀ X, T X → Calls Tryz.prog 135 #[.slice A1 (natL n).length c1, .slice A3 (natL n').length c3] X fun e w' => ∃ A c, e = .returned (.slice A (natL (n * n')).length c) ∧ RdU w' w'.heap.size A (natL (n * n')) ∧ T w') := Lib.hid fun X hX => (natTimes n n' A1 A3 c1 c3 X (rd h1 hX) (rd h3 hX) l1 l3).mono fun e w' ⟨A, c, g1, g2, g3⟩ => ⟨A, c, g1, g2, by rw [hT] at hX ⊢; exact hX.below g3⟩
  have HD : Hid (∀ X A0 xs, T X → RdU X X.heap.size A0 xs → Calls Tryz.prog 135 #[.slice A2 (natL d).length c2, .slice A4 (natL d').length c4] X fun e w' => ∃ A c, e = .returned (.slice A (natL (d * d')).length c) ∧ RdU w' w'.heap.size A (natL (d * d')) ∧ RdU w' w'.heap.size A0 xs ∧ T w') := Lib.hid fun X A0 xs hX hr => (natTimes d d' A2 A4 c2 c4 X (rd h2 hX) (rd h4 hX) l2 l4).mono fun e w' ⟨A, c, g1, g2, g3⟩ => ⟨A, c, g1, g2, (hr.below g3 (Nat.le_refl _)).more g3.size, by rw [hT] at hX ⊢; exact hX.below g3⟩
  have HLw : Hid (∀ X A c A' c', T X → RdU X X.heap.size A (natL (n * n')) → RdU X X.heap.size A' (natL (d * d')) → Calls Tryz.prog 139 #[.agg #[.bool (s != s'), .slice A (natL (n * n')).length c, .slice A' (natL (d * d')).length c']] X fun e w' => RV (qv s n d * qv s' n' d') X e w' ∧ T w') := Lib.hid fun X A c A' c' hX g1 g2 => by
    have e := lowestG (s != s') (n * n') (d * d') A A' c c' X g1 g2 (Nat.le_trans (natL_mul_len _ _) (by omega)) (Nat.le_trans (natL_mul_len _ _) (by omega)) (Nat.mul_pos hd hd')
    rw [qv_mul s s' (by omega) (by omega)] at e
    refine e.mono fun e w' h => ⟨h, ?_⟩
    obtain ⟨_, _, _, _, _, _, _, hb⟩ := h
    rw [hT] at hX ⊢
    exact hX.below hb
  rw [← hT] at HQ
  have HT : Hid (∀ X, T X → TF w s s' (.slice A1 (natL n).length c1) (.slice A2 (natL d).length c2) (.slice A3 (natL n').length c3) (.slice A4 (natL d').length c4) X) := Lib.hid fun X h => by rw [← hT]; exact h
  clear rd h1 h2 h3 h4 hT l1 l2 l3 l4
  generalize qv s n d * qv s' n' d' = q at *
  generalize natL (n * n') = L5 at *
  generalize natL (d * d') = L6 at *
  generalize (natL n).length = k1 at *
  generalize (natL d).length = k2 at *
  generalize (natL n').length = k3 at *
  generalize (natL d').length = k4 at *
  go_enter Tryz.func112, Tryz.ntmps112
  go_wp2_with fail
  have hq0 := HT.out _ HQ.out
  have a0 := (hq0).1.c0; have a1 := (hq0).1.c1; have a2 := (hq0).1.c2; have b0 := (hq0).2.1.c0; have b1 := (hq0).2.1.c1; have b2 := (hq0).2.1.c2; have p0 := (hq0).2.2.1.c0; have p1 := (hq0).2.2.1.c1; have p2 := (hq0).2.2.1.c2; have pf0 := (hq0).2.2.1.f0; have pf1 := (hq0).2.2.1.f1; have pf2 := (hq0).2.2.1.f2
  clear hq0
  go_region_held3 (fun w' => w'.cell? ⟨w.heap.size, 0, none⟩ = some (.bool s) ∧ w'.cell? ⟨w.heap.size, 1, none⟩ = some (.slice A1 k1 c1) ∧ w'.cell? ⟨w.heap.size, 2, none⟩ = some (.slice A2 k2 c2) ∧ w'.cell? ⟨w.heap.size + 1, 0, none⟩ = some (.bool s') ∧ w'.cell? ⟨w.heap.size + 1, 1, none⟩ = some (.slice A3 k3 c3) ∧ w'.cell? ⟨w.heap.size + 1, 2, none⟩ = some (.slice A4 k4 c4))
    (first | exact ⟨a0, a1, a2, b0, b1, b2⟩ | exact ⟨(((HQ3.out.1.far (by omega) _).far (by omega) _).far (by omega) _).c0, (((HQ3.out.1.far (by omega) _).far (by omega) _).far (by omega) _).c1, (((HQ3.out.1.far (by omega) _).far (by omega) _).far (by omega) _).c2, (((HQ3.out.2.1.far (by omega) _).far (by omega) _).far (by omega) _).c0, (((HQ3.out.2.1.far (by omega) _).far (by omega) _).far (by omega) _).c1, (((HQ3.out.2.1.far (by omega) _).far (by omega) _).far (by omega) _).c2⟩ | go_keep | exact ⟨a0, a1, a2, b0, b1, b2⟩ | exact ⟨(((HQ3.out.1.far (by omega) _).far (by omega) _).far (by omega) _).c0, (((HQ3.out.1.far (by omega) _).far (by omega) _).far (by omega) _).c1, (((HQ3.out.1.far (by omega) _).far (by omega) _).far (by omega) _).c2, (((HQ3.out.2.1.far (by omega) _).far (by omega) _).far (by omega) _).c0, (((HQ3.out.2.1.far (by omega) _).far (by omega) _).far (by omega) _).c1, (((HQ3.out.2.1.far (by omega) _).far (by omega) _).far (by omega) _).c2⟩)
    (first
      | (go_at_call 139; refine (HLw.out _ _ _ _ _ HQ2.out Hr1b.out Hr2.out).mono ?_; rintro e w3 ⟨⟨A7, c7, A8, c8, rfl, hr7, hr8, hb3⟩, hq3⟩; have HQ3 := Lib.hid (HT.out _ hq3); have Hr7 := Lib.hid hr7; have Hr8 := Lib.hid hr8; clear hr7 hr8 hb3 a0 a1 a2 b0 b1 b2 p0 p1 p2 pf0 pf1 pf2; have a0 := (HQ3.out).1.c0; have a1 := (HQ3.out).1.c1; have a2 := (HQ3.out).1.c2; have b0 := (HQ3.out).2.1.c0; have b1 := (HQ3.out).2.1.c1; have b2 := (HQ3.out).2.1.c2; have p0 := (HQ3.out).2.2.1.c0; have p1 := (HQ3.out).2.2.1.c1; have p2 := (HQ3.out).2.2.1.c2; have pf0 := (HQ3.out).2.2.1.f0; have pf1 := (HQ3.out).2.2.1.f1; have pf2 := (HQ3.out).2.2.1.f2)
      | (go_at_call 135; refine (HD.out _ _ _ HQ1.out Hr1.out).mono ?_; rintro e w2 ⟨A6, c6, rfl, hr2, hr1b, hq2⟩; have Hr1b := Lib.hid hr1b; have Hr2 := Lib.hid hr2; have HQ2 := Lib.hid hq2; have hq2 := HT.out _ hq2; clear hr2 hr1b a0 a1 a2 b0 b1 b2 p0 p1 p2 pf0 pf1 pf2; have a0 := (hq2).1.c0; have a1 := (hq2).1.c1; have a2 := (hq2).1.c2; have b0 := (hq2).2.1.c0; have b1 := (hq2).2.1.c1; have b2 := (hq2).2.1.c2; have p0 := (hq2).2.2.1.c0; have p1 := (hq2).2.2.1.c1; have p2 := (hq2).2.2.1.c2; have pf0 := (hq2).2.2.1.f0; have pf1 := (hq2).2.2.1.f1; have pf2 := (hq2).2.2.1.f2; clear hq2)
      | (go_at_call 135; refine (HN.out _ HQ.out).mono ?_; rintro e w1 ⟨A5, c5, rfl, hr1, hq1⟩; have Hr1 := Lib.hid hr1; have HQ1 := Lib.hid hq1; have hq1 := HT.out _ hq1; clear hr1 a0 a1 a2 b0 b1 b2 p0 p1 p2 pf0 pf1 pf2; have a0 := (hq1).1.c0; have a1 := (hq1).1.c1; have a2 := (hq1).1.c2; have b0 := (hq1).2.1.c0; have b1 := (hq1).2.1.c1; have b2 := (hq1).2.1.c2; have p0 := (hq1).2.2.1.c0; have p1 := (hq1).2.2.1.c1; have p2 := (hq1).2.2.1.c2; have pf0 := (hq1).2.2.1.f0; have pf1 := (hq1).2.2.1.f1; have pf2 := (hq1).2.2.1.f2; clear hq1))
  all_goals
    obtain ⟨m6, m7, m8, HR⟩ := rt_store (c1 := c7) (c2 := c8) (decide (q < 0)) HQ3.out.2.2.1 Hr7.out Hr8.out HQ3.out.2.2.2.1 (by omega)
    have HRH := Lib.hid HR
    have m80 := m8.c0
    have m81 := m8.c1
    have m82 := m8.c2
    clear HR m6 m7 m8
    go_wp2
    refine bodyPost_ret (v := .agg #[.bool (decide (q < 0)), .slice A7 (natL q.num.natAbs).length c7, .slice A8 (natL q.den).length c8]) (by simp [results, Tryz.results112, go_sem, m80, m81, m82]) rfl HRH.out
end Go.Proofs.YtionognmgcabbaaGreat.Ratio
/- The program's ratios: sums. -/
namespace Go.Proofs.YtionognmgcabbaaGreat.Ratio
open Go.RowKit Go.Proofs.YtionognmgcabbaaGreat Go.Proofs.YtionognmgcabbaaGreat.Base Go.Proofs.YtionognmgcabbaaGreat.Mem Go.Proofs.YtionognmgcabbaaGreat.NatM Go.Proofs.YtionognmgcabbaaGreat.Nat32 Go.Proofs.YtionognmgcabbaaGreat.RatM
open Go.Proofs.YtionognmgcabbaaGreat.Inv (natOf natOf_eq len_pos Rat3 not_slice not_bool frz)
set_option linter.unusedVariables false
theorem natPlus (x y : Nat) (A A' : Option Addr) (c c' : Nat) (w : World) (hx : RdU w w.heap.size A (natL x)) (hy : RdU w w.heap.size A' (natL y)) (hl : (natL x).length ≤ 1000000) (hl' : (natL y).length ≤ 1000000) :
    Calls Tryz.prog 136 #[.slice A (natL x).length c, .slice A' (natL y).length c'] w (NRet (x + y) w) := by
  have := plus_any A A' c c' w.heap.size w.heap.size (natL x) (natL y) w hx (Nat.le_refl _) hy (Nat.le_refl _) (natL_ok x) (natL_ok y) (by omega) (by omega)
  rw [natL_val, natL_val] at this
  exact this
theorem natMinus (x y : Nat) (A A' : Option Addr) (c c' : Nat) (w : World) (hx : RdU w w.heap.size A (natL x)) (hy : RdU w w.heap.size A' (natL y)) (hl : (natL x).length ≤ 1000000) (hle : y ≤ x) :
    Calls Tryz.prog 138 #[.slice A (natL x).length c, .slice A' (natL y).length c'] w (NRet (x - y) w) := by
  have := minus_any A A' c c' w.heap.size w.heap.size (natL x) (natL y) w hx (Nat.le_refl _) hy (Nat.le_refl _) (natL_ok x) (natL_ok y) (by omega) (natL_mono hle) (by rw [natL_val, natL_val]; exact hle)
  rw [natL_val, natL_val] at this
  exact this
theorem natL_add_len (x y : Nat) : (natL (x + y)).length ≤ (natL x).length + (natL y).length + 1 := by
  refine natL_len_le ?_
  have h1 := val_lt _ (natL_ok x)
  have h2 := val_lt _ (natL_ok y)
  rw [natL_val] at h1 h2
  have h3 : B32 ^ (natL x).length ≤ B32 ^ ((natL x).length + (natL y).length) := Nat.pow_le_pow_right (by decide) (by omega)
  have h4 : B32 ^ (natL y).length ≤ B32 ^ ((natL x).length + (natL y).length) := Nat.pow_le_pow_right (by decide) (by omega)
  have h5 : B32 ^ ((natL x).length + (natL y).length) * 2 ≤ B32 ^ ((natL x).length + (natL y).length) * B32 := Nat.mul_le_mul_left _ (by decide)
  rw [Nat.pow_succ]
  generalize B32 ^ ((natL x).length + (natL y).length) * B32 = M at *
  generalize B32 ^ ((natL x).length + (natL y).length) = N at *
  generalize B32 ^ (natL x).length = P at *
  generalize B32 ^ (natL y).length = Q at *
  omega
/-- behind the three products: the sum's box, and the products -/
def PCut (T : World → Prop) (w : World) (s : Bool) (LA LB LD : List Nat) (s5 s6 s7 : Value) (wx : World) : Prop :=
  ∃ (p c5 c6 c8 : Nat) (A5 A6 A8 : Option Addr), s5 = .slice A5 LA.length c5 ∧ s6 = .slice A6 LB.length c6 ∧ s7 = .pointer (some ⟨p, 0, none⟩) ∧ T wx ∧ w.heap.size + 3 ≤ p ∧ p < wx.heap.size ∧ Rat3 wx p (.bool s) (.slice none 0 0) (.slice A8 LD.length c8) ∧
    RdU wx wx.heap.size A5 LA ∧ RdU wx wx.heap.size A6 LB ∧ RdU wx wx.heap.size A8 LD
theorem TF.set {w W : World} {s s' : Bool} {v1 v2 v3 v4 : Value} {p : Nat} (h : TF w s s' v1 v2 v3 v4 W) (hp : w.heap.size + 3 ≤ p) (i : Nat) (v : Value) : TF w s s' v1 v2 v3 v4 (W.setCell ⟨p, i, none⟩ v) := by
  obtain ⟨h1, h2, h3, h4, h5⟩ := h
  exact ⟨h1.far (by omega) v, h2.far (by omega) v, h3.far (by omega) v, h4.setCell (by show w.heap.size ≤ p; omega) v, by simp; omega⟩
theorem frzc {W : World} {p b i j : Nat} {v : Value} (h : p ≠ b) : (W.setCell ⟨p, i, none⟩ v).cell? ⟨b, j, none⟩ = W.cell? ⟨b, j, none⟩ := World.cell?_setCell_far _ _ _ _ h
/-- behind the two products of the numerators -/
def PCut1 (T : World → Prop) (LA LB : List Nat) (s5 s6 : Value) (wx : World) : Prop :=
  ∃ (c5 c6 : Nat) (A5 A6 : Option Addr), s5 = .slice A5 LA.length c5 ∧ s6 = .slice A6 LB.length c6 ∧ T wx ∧ RdU wx wx.heap.size A5 LA ∧ RdU wx wx.heap.size A6 LB
set_option maxHeartbeats 4000000 in
set_option maxRecDepth 100000 in
theorem rtPlus (s s' : Bool) (n d n' d' : Nat) (A1 A2 A3 A4 : Option Addr) (c1 c2 c3 c4 : Nat) (w : World) (h1 : RdU w w.heap.size A1 (natL n)) (h2 : RdU w w.heap.size A2 (natL d)) (h3 : RdU w w.heap.size A3 (natL n')) (h4 : RdU w w.heap.size A4 (natL d'))
    (l1 : (natL n).length ≤ 200000) (l2 : (natL d).length ≤ 200000) (l3 : (natL n').length ≤ 200000) (l4 : (natL d').length ≤ 200000) (hd : 0 < d) (hd' : 0 < d') :
    Calls Tryz.prog 72 #[.agg #[.bool s, .slice A1 (natL n).length c1, .slice A2 (natL d).length c2], .agg #[.bool s', .slice A3 (natL n').length c3, .slice A4 (natL d').length c4]] w (RV (qv s n d + qv s' n' d') w) := by
  have HQ := Lib.hid (TF.start w s s' (.slice A1 (natL n).length c1) (.slice A2 (natL d).length c2) (.slice A3 (natL n').length c3) (.slice A4 (natL d').length c4))
  obtain ⟨T, hT⟩ : ∃ T : World → Prop, T = TF w s s' (.slice A1 (natL n).length c1) (.slice A2 (natL d).length c2) (.slice A3 (natL n').length c3) (.slice A4 (natL d').length c4) := ⟨_, rfl⟩
  have rd : ∀ {X : World} {A : Option Addr} {xs : List Nat}, RdU w w.heap.size A xs → T X → RdU X X.heap.size A xs := fun h hX => by
    rw [hT] at hX
    exact (h.below hX.2.2.2.1 (Nat.le_refl _)).more hX.2.2.2.1.size
  have TB : ∀ {X Y : World}, T X → Below X.heap.size X Y → T Y := fun hX hb => by rw [hT] at hX ⊢; exact hX.below hb
  have HN : Hid (∀ X, T X → Calls Tryz.prog 135 #[.slice A1 (natL n).length c1, .slice A4 (natL d').length c4] X fun e w' => ∃ A c, e = .returned (.slice A (natL (n * d')).length c) ∧ RdU w' w'.heap.size A (natL (n * d')) ∧ T w') := Lib.hid fun X hX => (natTimes n d' A1 A4 c1 c4 X (rd h1 hX) (rd h4 hX) (by omega) (by omega)).mono fun e w' ⟨A, c, g1, g2, g3⟩ => ⟨A, c, g1, g2, TB hX g3⟩
  have HB : Hid (∀ X A0 xs, T X → RdU X X.heap.size A0 xs → Calls Tryz.prog 135 #[.slice A3 (natL n').length c3, .slice A2 (natL d).length c2] X fun e w' => ∃ A c, e = .returned (.slice A (natL (n' * d)).length c) ∧ RdU w' w'.heap.size A (natL (n' * d)) ∧ RdU w' w'.heap.size A0 xs ∧ T w') := Lib.hid fun X A0 xs hX hr => (natTimes n' d A3 A2 c3 c2 X (rd h3 hX) (rd h2 hX) (by omega) (by omega)).mono fun e w' ⟨A, c, g1, g2, g3⟩ => ⟨A, c, g1, g2, (hr.below g3 (Nat.le_refl _)).more g3.size, TB hX g3⟩
  have HD : Hid (∀ X A0 xs A9 ys, T X → RdU X X.heap.size A0 xs → RdU X X.heap.size A9 ys → Calls Tryz.prog 135 #[.slice A2 (natL d).length c2, .slice A4 (natL d').length c4] X fun e w' => ∃ A c, e = .returned (.slice A (natL (d * d')).length c) ∧ RdU w' w'.heap.size A (natL (d * d')) ∧ RdU w' w'.heap.size A0 xs ∧ RdU w' w'.heap.size A9 ys ∧ T w' ∧ Below X.heap.size X w') := Lib.hid fun X A0 xs A9 ys hX hr hr9 => (natTimes d d' A2 A4 c2 c4 X (rd h2 hX) (rd h4 hX) (by omega) (by omega)).mono fun e w' ⟨A, c, g1, g2, g3⟩ => ⟨A, c, g1, g2, (hr.below g3 (Nat.le_refl _)).more g3.size, (hr9.below g3 (Nat.le_refl _)).more g3.size, TB hX g3, g3⟩
  rw [← hT] at HQ
  have HT : Hid (∀ X, T X → TF w s s' (.slice A1 (natL n).length c1) (.slice A2 (natL d).length c2) (.slice A3 (natL n').length c3) (.slice A4 (natL d').length c4) X) := Lib.hid fun X h => by rw [← hT]; exact h
  have HTB : Hid (∀ X Y, T X → Below X.heap.size X Y → T Y) := Lib.hid fun X Y h hb => TB h hb
  have HTS : Hid (∀ X p i v, T X → w.heap.size + 3 ≤ p → T (X.setCell ⟨p, i, none⟩ v)) := Lib.hid fun X p i v h hp => by rw [hT] at h ⊢; exact h.set hp i v
  clear rd h1 h2 h3 h4 TB hT
  obtain ⟨LA, hLA⟩ : ∃ LA, LA = natL (n * d') := ⟨_, rfl⟩
  obtain ⟨LB, hLB⟩ : ∃ LB, LB = natL (n' * d) := ⟨_, rfl⟩
  obtain ⟨LD, hLD⟩ : ∃ LD, LD = natL (d * d') := ⟨_, rfl⟩
  have m1 := natL_mul_len n d'
  have m2 := natL_mul_len n' d
  have m3 := natL_mul_len d d'
  have la : LA.length ≤ 400000 := by rw [hLA]; omega
  have lb : LB.length ≤ 400000 := by rw [hLB]; omega
  have ld : LD.length ≤ 400000 := by rw [hLD]; omega
  have HL := Lib.hid (And.intro hLA (And.intro hLB hLD))
  obtain ⟨q, hq⟩ : ∃ q, q = qv s n d + qv s' n' d' := ⟨_, rfl⟩
  have HPl : Hid (∀ X A5 A6 A8 c5 c6, T X → RdU X X.heap.size A5 LA → RdU X X.heap.size A6 LB → RdU X X.heap.size A8 LD → Calls Tryz.prog 136 #[.slice A5 LA.length c5, .slice A6 LB.length c6] X fun e w' => ∃ A9 c9, e = .returned (.slice A9 (natL (n * d' + n' * d)).length c9) ∧ RdU w' w'.heap.size A9 (natL (n * d' + n' * d)) ∧ RdU w' w'.heap.size A8 LD ∧ T w' ∧ Below X.heap.size X w') := Lib.hid fun X A5 A6 A8 c5 c6 hX g5 g6 g8 => by
    rw [hLA] at g5 la ⊢
    rw [hLB] at g6 lb ⊢
    refine (natPlus _ _ A5 A6 c5 c6 X g5 g6 (by omega) (by omega)).mono ?_
    rintro e w' ⟨A9, c9, rfl, r9, b9⟩
    exact ⟨A9, c9, rfl, r9, (g8.below b9 (Nat.le_refl _)).more b9.size, HTB.out _ _ hX b9, b9⟩
  have HMi : Hid (∀ X A5 A6 A8 c5 c6, n' * d ≤ n * d' → T X → RdU X X.heap.size A5 LA → RdU X X.heap.size A6 LB → RdU X X.heap.size A8 LD → Calls Tryz.prog 138 #[.slice A5 LA.length c5, .slice A6 LB.length c6] X fun e w' => ∃ A9 c9, e = .returned (.slice A9 (natL (n * d' - n' * d)).length c9) ∧ RdU w' w'.heap.size A9 (natL (n * d' - n' * d)) ∧ RdU w' w'.heap.size A8 LD ∧ T w' ∧ Below X.heap.size X w') := Lib.hid fun X A5 A6 A8 c5 c6 hle hX g5 g6 g8 => by
    rw [hLA] at g5 la ⊢
    rw [hLB] at g6 lb ⊢
    refine (natMinus _ _ A5 A6 c5 c6 X g5 g6 (by omega) hle).mono ?_
    rintro e w' ⟨A9, c9, rfl, r9, b9⟩
    exact ⟨A9, c9, rfl, r9, (g8.below b9 (Nat.le_refl _)).more b9.size, HTB.out _ _ hX b9, b9⟩
  have HMj : Hid (∀ X A5 A6 A8 c5 c6, n * d' ≤ n' * d → T X → RdU X X.heap.size A5 LA → RdU X X.heap.size A6 LB → RdU X X.heap.size A8 LD → Calls Tryz.prog 138 #[.slice A6 LB.length c6, .slice A5 LA.length c5] X fun e w' => ∃ A9 c9, e = .returned (.slice A9 (natL (n' * d - n * d')).length c9) ∧ RdU w' w'.heap.size A9 (natL (n' * d - n * d')) ∧ RdU w' w'.heap.size A8 LD ∧ T w' ∧ Below X.heap.size X w') := Lib.hid fun X A5 A6 A8 c5 c6 hle hX g5 g6 g8 => by
    rw [hLA] at g5 la ⊢
    rw [hLB] at g6 lb ⊢
    refine (natMinus _ _ A6 A5 c6 c5 X g6 g5 (by omega) hle).mono ?_
    rintro e w' ⟨A9, c9, rfl, r9, b9⟩
    exact ⟨A9, c9, rfl, r9, (g8.below b9 (Nat.le_refl _)).more b9.size, HTB.out _ _ hX b9, b9⟩
  have HCm : Hid (∀ X A5 A6 c5 c6, RdU X X.heap.size A5 LA → RdU X X.heap.size A6 LB → Calls Tryz.prog 137 #[.slice A5 LA.length c5, .slice A6 LB.length c6] X (CmpRet (n * d') (n' * d) X)) := Lib.hid fun X A5 A6 c5 c6 g5 g6 => by
    rw [hLA] at g5 la ⊢
    rw [hLB] at g6 lb ⊢
    exact compare_any _ _ A5 A6 c5 c6 X.heap.size X.heap.size X g5 g6 (by omega) (by omega)
  have HLw : Hid (∀ X S v A9 A8 c9 c8, qv S v (d * d') = q → (natL v).length ≤ 1000000 → T X → RdU X X.heap.size A9 (natL v) → RdU X X.heap.size A8 LD → Calls Tryz.prog 139 #[.agg #[.bool S, .slice A9 (natL v).length c9, .slice A8 LD.length c8]] X fun e w' => RV q X e w' ∧ T w') := Lib.hid fun X S v A9 A8 c9 c8 hqv hv hX g9 g8 => by
    rw [hLD] at g8 ld ⊢
    have e := lowestG S v (d * d') A9 A8 c9 c8 X g9 g8 hv (by omega) (Nat.mul_pos hd hd')
    rw [hqv] at e
    refine e.mono fun e w' h => ⟨h, ?_⟩
    obtain ⟨_, _, _, _, _, _, _, hb⟩ := h
    exact HTB.out _ _ hX hb
  have HV1 : Hid ((natL (n * d' + n' * d)).length ≤ 1000000 ∧ (natL (n * d' - n' * d)).length ≤ 1000000 ∧ (natL (n' * d - n * d')).length ≤ 1000000) := Lib.hid (by
    rw [hLA] at la
    rw [hLB] at lb
    exact ⟨Nat.le_trans (natL_add_len _ _) (by omega), Nat.le_trans (natL_mono (Nat.sub_le _ _)) (by omega), Nat.le_trans (natL_mono (Nat.sub_le _ _)) (by omega)⟩)
  have HE1 : Hid (s = s' → qv s (n * d' + n' * d) (d * d') = q) := Lib.hid fun h => by
    subst h
    rw [hq]; exact qv_add_same s (by omega) (by omega)
  have HE2 : Hid (s ≠ s' → n' * d ≤ n * d' → qv s (n * d' - n' * d) (d * d') = q) := Lib.hid fun h hle => by
    have h2 : s' = !s := by cases s <;> cases s' <;> simp_all
    rw [hq, h2]; exact qv_add_diff s (by omega) (by omega) hle
  have HE3 : Hid (s ≠ s' → n * d' ≤ n' * d → qv s' (n' * d - n * d') (d * d') = q) := Lib.hid fun h hle => by
    have h2 : s = !s' := by cases s <;> cases s' <;> simp_all
    have h3 := qv_add_diff s' (n := n') (d := d') (n' := n) (d' := d) (by omega) (by omega) hle
    rw [hq, h2, Nat.mul_comm d d', h3, Rat.add_comm]
  rw [← hq]
  rw [← hLA] at HN
  rw [← hLB] at HB
  rw [← hLD] at HD
  clear hLA hLB hLD m1 m2 m3 l1 l2 l3 l4 hq
  obtain ⟨va, hva⟩ : ∃ va, va = n * d' + n' * d := ⟨_, rfl⟩
  obtain ⟨vb, hvb⟩ : ∃ vb, vb = n * d' - n' * d := ⟨_, rfl⟩
  obtain ⟨vc, hvc⟩ : ∃ vc, vc = n' * d - n * d' := ⟨_, rfl⟩
  rw [← hva] at HPl HV1 HE1
  rw [← hvb] at HMi HV1 HE2
  rw [← hvc] at HMj HV1 HE3
  clear hva hvb hvc
  generalize n * d' = x at *
  generalize n' * d = y at *
  generalize (natL n).length = k1 at *
  generalize (natL d).length = k2 at *
  generalize (natL n').length = k3 at *
  generalize (natL d').length = k4 at *
  go_enter Tryz.func72, Tryz.ntmps72
  go_wp2_with fail
  have hq0 := HT.out _ HQ.out
  have a0 := (hq0).1.c0; have a1 := (hq0).1.c1; have a2 := (hq0).1.c2; have b0 := (hq0).2.1.c0; have b1 := (hq0).2.1.c1; have b2 := (hq0).2.1.c2; have p0 := (hq0).2.2.1.c0; have p1 := (hq0).2.2.1.c1; have p2 := (hq0).2.2.1.c2; have pf0 := (hq0).2.2.1.f0; have pf1 := (hq0).2.2.1.f1; have pf2 := (hq0).2.2.1.f2
  clear hq0
  go_cut [5, 6] from 8 to 17 (fun s5 s6 wx => PCut1 T LA LB s5 s6 wx)
  case first =>
    go_region_held3 (fun w' => w'.cell? ⟨w.heap.size, 0, none⟩ = some (.bool s) ∧ w'.cell? ⟨w.heap.size, 1, none⟩ = some (.slice A1 k1 c1) ∧ w'.cell? ⟨w.heap.size, 2, none⟩ = some (.slice A2 k2 c2) ∧ w'.cell? ⟨w.heap.size + 1, 0, none⟩ = some (.bool s') ∧ w'.cell? ⟨w.heap.size + 1, 1, none⟩ = some (.slice A3 k3 c3) ∧ w'.cell? ⟨w.heap.size + 1, 2, none⟩ = some (.slice A4 k4 c4))
      (first | exact ⟨a0, a1, a2, b0, b1, b2⟩ | go_keep)
      (first
        | (go_at_call 135; refine (HB.out _ _ _ HQ1.out Hr1.out).mono ?_; rintro e w2 ⟨A6, c6, rfl, hr2, hr1b, hq2⟩; have Hr1b := Lib.hid hr1b; have Hr2 := Lib.hid hr2; have HQ2 := Lib.hid hq2; have hq2 := HT.out _ hq2; clear hr2 hr1b a0 a1 a2 b0 b1 b2 p0 p1 p2 pf0 pf1 pf2; have a0 := (hq2).1.c0; have a1 := (hq2).1.c1; have a2 := (hq2).1.c2; have b0 := (hq2).2.1.c0; have b1 := (hq2).2.1.c1; have b2 := (hq2).2.1.c2; have p0 := (hq2).2.2.1.c0; have p1 := (hq2).2.2.1.c1; have p2 := (hq2).2.2.1.c2; have pf0 := (hq2).2.2.1.f0; have pf1 := (hq2).2.2.1.f1; have pf2 := (hq2).2.2.1.f2; clear hq2)
        | (go_at_call 135; refine (HN.out _ HQ.out).mono ?_; rintro e w1 ⟨A5, c5, rfl, hr1, hq1⟩; have Hr1 := Lib.hid hr1; have HQ1 := Lib.hid hq1; have hq1 := HT.out _ hq1; clear hr1 a0 a1 a2 b0 b1 b2 p0 p1 p2 pf0 pf1 pf2; have a0 := (hq1).1.c0; have a1 := (hq1).1.c1; have a2 := (hq1).1.c2; have b0 := (hq1).2.1.c0; have b1 := (hq1).2.1.c1; have b2 := (hq1).2.1.c2; have p0 := (hq1).2.2.1.c0; have p1 := (hq1).2.2.1.c1; have p2 := (hq1).2.2.1.c2; have pf0 := (hq1).2.2.1.f0; have pf1 := (hq1).2.2.1.f1; have pf2 := (hq1).2.2.1.f2; clear hq1))
    all_goals
      have HC : Hid (PCut1 T LA LB (.slice A5 LA.length c5) (.slice A6 LB.length c6) w2) := Lib.hid ⟨c5, c6, A5, A6, rfl, rfl, HQ2.out, Hr1b.out, Hr2.out⟩
      go_wp2_with fail
      go_meet
      exact HC.out
  case rest =>
    obtain ⟨c5, c6, A5, A6, rfl, rfl, hTc, hr5, hr6⟩ := hcut
    clear a0 a1 a2 b0 b1 b2 p0 p1 p2 pf0 pf1 pf2
    have HTc := Lib.hid hTc
    have HR5 := Lib.hid hr5
    have HR6 := Lib.hid hr6
    have hq0 := HT.out _ hTc
    have hsz := hq0.2.2.2.2
    have a0 := (hq0).1.c0; have a1 := (hq0).1.c1; have a2 := (hq0).1.c2; have b0 := (hq0).2.1.c0; have b1 := (hq0).2.1.c1; have b2 := (hq0).2.1.c2; have p0 := (hq0).2.2.1.c0; have p1 := (hq0).2.2.1.c1; have p2 := (hq0).2.2.1.c2; have pf0 := (hq0).2.2.1.f0; have pf1 := (hq0).2.2.1.f1; have pf2 := (hq0).2.2.1.f2
    clear hq0 hTc hr5 hr6 HN HB
    have HTD : Hid (∀ Y, Below wc.heap.size wc Y → T Y ∧ RdU Y Y.heap.size A5 LA ∧ RdU Y Y.heap.size A6 LB) := Lib.hid fun Y hb => ⟨HTB.out _ _ HTc.out hb, (HR5.out.below hb (Nat.le_refl _)).more hb.size, (HR6.out.below hb (Nat.le_refl _)).more hb.size⟩
    go_wp2
    go_cut [7] from 18 to 25 (fun s7 wx => PCut T w s LA LB LD (.slice A5 LA.length c5) (.slice A6 LB.length c6) s7 wx)
    case first =>
      go_region_held3 (fun w' => w'.cell? ⟨w.heap.size, 0, none⟩ = some (.bool s) ∧ w'.cell? ⟨w.heap.size, 2, none⟩ = some (.slice A2 k2 c2) ∧ w'.cell? ⟨w.heap.size + 1, 2, none⟩ = some (.slice A4 k4 c4))
        (first | exact ⟨a0, a2, b2⟩ | go_keep | exact ⟨(by rw [frzc hnp, frzc hnp, frzc hnp]; exact a0), (by rw [frzc hnp, frzc hnp, frzc hnp]; exact a2), (by rw [frzc hnp1, frzc hnp1, frzc hnp1]; exact b2)⟩)
        (first
          | (go_at_call 135; refine (HD.out wc.drew _ _ _ _ (HTD.out _ ((Below.refl _ _).drew)).1 (HTD.out _ ((Below.refl _ _).drew)).2.1 (HTD.out _ ((Below.refl _ _).drew)).2.2).mono ?_; rintro e w3 ⟨A8, c8, rfl, g8, g5, g6, gT, gb⟩; have G8 := Lib.hid g8; have G5 := Lib.hid g5; have G6 := Lib.hid g6; have GT := Lib.hid gT; have hq3 := HT.out _ gT; clear a0 a1 a2 b0 b1 b2 p0 p1 p2 pf0 pf1 pf2; have a0 := (hq3).1.c0; have a1 := (hq3).1.c1; have a2 := (hq3).1.c2; have b0 := (hq3).2.1.c0; have b1 := (hq3).2.1.c1; have b2 := (hq3).2.1.c2; have p0 := (hq3).2.2.1.c0; have p1 := (hq3).2.2.1.c1; have p2 := (hq3).2.2.1.c2; have pf0 := (hq3).2.2.1.f0; have pf1 := (hq3).2.2.1.f1; have pf2 := (hq3).2.2.1.f2; clear hq3 g8 g5 g6 gT gb)
          | (go_at_call 135; refine (HD.out ((wc.alloc (.cells #[.bool false, .slice none 0 0, .slice none 0 0] 87)).drew) _ _ _ _ (HTD.out _ (((Below.refl _ _).alloc (Nat.le_refl _) _).drew)).1 (HTD.out _ (((Below.refl _ _).alloc (Nat.le_refl _) _).drew)).2.1 (HTD.out _ (((Below.refl _ _).alloc (Nat.le_refl _) _).drew)).2.2).mono ?_; rintro e w3 ⟨A8, c8, rfl, g8, g5, g6, gT, gb⟩; have RB := (Inv.Rat3.newd wc (.bool false) (.slice none 0 0) (.slice none 0 0) 87).below gb (by simp); have hnp : wc.heap.size ≠ w.heap.size := (by omega); have hnp1 : wc.heap.size ≠ w.heap.size + 1 := (by omega); have G8 := Lib.hid g8; have G5 := Lib.hid g5; have G6 := Lib.hid g6; have GT := Lib.hid gT; have HRB := Lib.hid RB; have r0 := RB.c0; have r1 := RB.c1; have r2 := RB.c2; have rf0 := RB.f0; have rf1 := RB.f1; have rf2 := RB.f2; have hlt3 : wc.heap.size < w3.heap.size := (by have := gb.size; simp at this; omega); have hq3 := HT.out _ gT; clear RB a0 a1 a2 b0 b1 b2 p0 p1 p2 pf0 pf1 pf2; have a0 := (hq3).1.c0; have a1 := (hq3).1.c1; have a2 := (hq3).1.c2; have b0 := (hq3).2.1.c0; have b1 := (hq3).2.1.c1; have b2 := (hq3).2.1.c2; have p0 := (hq3).2.2.1.c0; have p1 := (hq3).2.2.1.c1; have p2 := (hq3).2.2.1.c2; have pf0 := (hq3).2.2.1.f0; have pf1 := (hq3).2.2.1.f1; have pf2 := (hq3).2.2.1.f2; clear hq3 g8 g5 g6 gT gb))
      all_goals
        first
          | (have HC : Hid (PCut T w s LA LB LD (.slice A5 LA.length c5) (.slice A6 LB.length c6) (.pointer (some ⟨wc.heap.size, 0, none⟩)) (((w3.setCell ⟨wc.heap.size, 0, none⟩ (.bool s)).setCell ⟨wc.heap.size, 1, none⟩ (.slice none 0 0)).setCell ⟨wc.heap.size, 2, none⟩ (.slice A8 LD.length c8))) := Lib.hid (by
              have m6 := HRB.out.set0 (.bool s)
              have m7 := m6.set1 (.slice none 0 0)
              have m8 := m7.set2 (.slice A8 LD.length c8)
              have nn : ∀ {A : Option Addr} {L : List Nat}, RdU w3 w3.heap.size A L → RdU (((w3.setCell ⟨wc.heap.size, 0, none⟩ (.bool s)).setCell ⟨wc.heap.size, 1, none⟩ (.slice none 0 0)).setCell ⟨wc.heap.size, 2, none⟩ (.slice A8 LD.length c8)) w3.heap.size A L := fun h => ((h.non HRB.out.c0 (not_bool _) _).non m6.c1 (not_slice _ _ _) _).non m7.c2 (not_slice _ _ _) _
              refine ⟨wc.heap.size, c5, c6, c8, A5, A6, A8, rfl, rfl, rfl, HTS.out _ _ _ _ (HTS.out _ _ _ _ (HTS.out _ _ _ _ GT.out hsz) hsz) hsz, hsz, by simp only [World.size_setCell]; exact hlt3, m8, ?_, ?_, ?_⟩
              all_goals simp only [World.size_setCell]
              · exact nn G5.out
              · exact nn G6.out
              · exact nn G8.out)
             go_wp2_with fail
             go_meet
             exact HC.out)
          | (have HC : Hid (PCut T w s LA LB LD (.slice A5 LA.length c5) (.slice A6 LB.length c6) (.pointer (some ⟨w3.heap.size, 0, none⟩)) (w3.alloc (.cells #[.bool s, .slice none 0 0, .slice A8 LD.length c8] 87))) := Lib.hid (by
              have bA : Below w3.heap.size w3 (w3.alloc (.cells #[.bool s, .slice none 0 0, .slice A8 LD.length c8] 87)) := (Below.refl _ _).alloc (Nat.le_refl _) _
              have hz3 := (HT.out _ GT.out).2.2.2.2
              exact ⟨w3.heap.size, c5, c6, c8, A5, A6, A8, rfl, rfl, rfl, HTB.out _ _ GT.out bA, hz3, by simp, Rat3.new w3 _ _ _ _, (G5.out.below bA (Nat.le_refl _)).more bA.size, (G6.out.below bA (Nat.le_refl _)).more bA.size, (G8.out.below bA (Nat.le_refl _)).more bA.size⟩)
             go_wp2_with fail
             go_meet
             exact HC.out)
    case rest =>
      obtain ⟨p, c5', c6', c8, A5', A6', A8, e5, e6, rfl, hTp, hp1, hp2, hR, g5, g6, g8⟩ := hcut
      cases e5
      cases e6
      clear a0 a1 a2 b0 b1 b2 p0 p1 p2 pf0 pf1 pf2 HTD HR5 HR6 HTc hsz HD
      have HTp := Lib.hid hTp
      have HRx := Lib.hid hR
      have G5 := Lib.hid g5
      have G6 := Lib.hid g6
      have G8 := Lib.hid g8
      have hq0 := HT.out _ hTp
      have a0 := (hq0).1.c0; have a1 := (hq0).1.c1; have a2 := (hq0).1.c2; have b0 := (hq0).2.1.c0; have b1 := (hq0).2.1.c1; have b2 := (hq0).2.1.c2; have p0 := (hq0).2.2.1.c0; have p1 := (hq0).2.2.1.c1; have p2 := (hq0).2.2.1.c2; have pf0 := (hq0).2.2.1.f0; have pf1 := (hq0).2.2.1.f1; have pf2 := (hq0).2.2.1.f2
      have r0 := hR.c0
      have r1 := hR.c1
      have r2 := hR.c2
      have rf0 := hR.f0
      have rf1 := hR.f1
      have rf2 := hR.f2
      clear hq0 hTp hR g5 g6 g8
      by_cases hss : s = s'
      · have hsb : (s == s') = true := by simp [hss]
        have HQ1 := Lib.hid (HE1.out hss)
        have HC := Lib.hid (HPl.out _ A5 A6 A8 c5 c6 HTp.out G5.out G6.out G8.out)
        clear hss HE1 HE2 HE3 HMi HMj HCm
        go_wp2_with fail
        refine HC.out.mono ?_
        rintro e w9 ⟨A9, c9, rfl, k9, k8, t9, bb9⟩
        clear a0 a1 a2 b0 b1 b2 p0 p1 p2 pf0 pf1 pf2 r0 r1 r2 rf0 rf1 rf2
        have R9 := HRx.out.below bb9 hp2
        have hp9 : p < w9.heap.size := Nat.lt_of_lt_of_le hp2 bb9.size
        obtain ⟨W9, hW9⟩ : ∃ W9, W9 = w9.setCell ⟨p, 1, none⟩ (.slice A9 (natL va).length c9) := ⟨_, rfl⟩
        have R10 := R9.set1 (.slice A9 (natL va).length c9)
        have T10 := HTS.out _ _ 1 (.slice A9 (natL va).length c9) t9 hp1
        have k9' := k9.non R9.c1 (not_slice _ _ _) (.slice A9 (natL va).length c9)
        have k8' := k8.non R9.c1 (not_slice _ _ _) (.slice A9 (natL va).length c9)
        have z9 : (w9.setCell ⟨p, 1, none⟩ (.slice A9 (natL va).length c9)).heap.size = w9.heap.size := by simp
        rw [← z9] at k9' k8'
        have q9 := HT.out _ t9
        have a0 := (q9).1.c0; have a1 := (q9).1.c1; have a2 := (q9).1.c2; have b0 := (q9).2.1.c0; have b1 := (q9).2.1.c1; have b2 := (q9).2.1.c2; have p0 := (q9).2.2.1.c0; have p1 := (q9).2.2.1.c1; have p2 := (q9).2.2.1.c2; have pf0 := (q9).2.2.1.f0; have pf1 := (q9).2.2.1.f1; have pf2 := (q9).2.2.1.f2
        have r0 := R9.c0
        have r1 := R9.c1
        have r2 := R9.c2
        have rf0 := R9.f0
        have rf1 := R9.f1
        have rf2 := R9.f2
        have x0 := R10.c0
        have x1 := R10.c1
        have x2 := R10.c2
        have HL2 := Lib.hid (HLw.out _ s va A9 A8 c9 c8 HQ1.out HV1.out.1 T10 k9' k8')
        clear q9 R9 k9 k8 z9 k9' k8' R10
        have HT10 := Lib.hid T10
        clear T10 t9 bb9 hW9
        go_wp2_with fail
        refine HL2.out.mono ?_
        rintro e w10 ⟨⟨A10, c10, A11, c11, rfl, hr10, hr11, hb10⟩, hT10⟩
        have hq10 := HT.out _ hT10
        obtain ⟨m6, m7, m8, HR⟩ := rt_store (c1 := c10) (c2 := c11) (decide (q < 0)) hq10.2.2.1 hr10 hr11 hq10.2.2.2.1 (by omega)
        have HRH := Lib.hid HR
        have m80 := m8.c0
        have m81 := m8.c1
        have m82 := m8.c2
        clear a0 a1 a2 b0 b1 b2 p0 p1 p2 pf0 pf1 pf2 r0 r1 r2 rf0 rf1 rf2 x0 x1 x2
        have a0 := (hq10).1.c0; have a1 := (hq10).1.c1; have a2 := (hq10).1.c2; have b0 := (hq10).2.1.c0; have b1 := (hq10).2.1.c1; have b2 := (hq10).2.1.c2; have p0 := (hq10).2.2.1.c0; have p1 := (hq10).2.2.1.c1; have p2 := (hq10).2.2.1.c2; have pf0 := (hq10).2.2.1.f0; have pf1 := (hq10).2.2.1.f1; have pf2 := (hq10).2.2.1.f2
        clear HR m6 m7 m8 hr10 hr11 hb10 hT10 hq10
        go_wp2
        refine bodyPost_ret (v := .agg #[.bool (decide (q < 0)), .slice A10 (natL q.num.natAbs).length c10, .slice A11 (natL q.den).length c11]) (by simp [results, Tryz.results72, go_sem, m80, m81, m82]) rfl HRH.out
      · have hsb : (s == s') = false := by simp [hss]
        have HC := Lib.hid (HCm.out _ A5 A6 c5 c6 G5.out G6.out)
        clear HPl HE1 HCm
        go_wp2_with fail
        refine HC.out.mono ?_
        rintro e w8 ⟨r, rfl, hcr, hD⟩
        have HTD : Hid (T w8 ∧ RdU w8 w8.heap.size A5 LA ∧ RdU w8 w8.heap.size A6 LB ∧ RdU w8 w8.heap.size A8 LD ∧ Rat3 w8 p (.bool s) (.slice none 0 0) (.slice A8 LD.length c8) ∧ p < w8.heap.size) := Lib.hid (by
          obtain ⟨mD, rfl⟩ := hD
          have bD := below_drewN (Below.refl wc.heap.size wc) mD
          exact ⟨HTB.out _ _ HTp.out bD, (G5.out.below bD (Nat.le_refl _)).more bD.size, (G6.out.below bD (Nat.le_refl _)).more bD.size, (G8.out.below bD (Nat.le_refl _)).more bD.size, HRx.out.below bD hp2, Nat.lt_of_lt_of_le hp2 bD.size⟩)
        clear hD HC a0 a1 a2 b0 b1 b2 p0 p1 p2 pf0 pf1 pf2 r0 r1 r2 rf0 rf1 rf2 HRx hp2 HTp G5 G6 G8
        have HRx := Lib.hid HTD.out.2.2.2.2.1
        have hp2 := HTD.out.2.2.2.2.2
        have hq0 := HT.out _ HTD.out.1
        have a0 := (hq0).1.c0; have a1 := (hq0).1.c1; have a2 := (hq0).1.c2; have b0 := (hq0).2.1.c0; have b1 := (hq0).2.1.c1; have b2 := (hq0).2.1.c2; have p0 := (hq0).2.2.1.c0; have p1 := (hq0).2.2.1.c1; have p2 := (hq0).2.2.1.c2; have pf0 := (hq0).2.2.1.f0; have pf1 := (hq0).2.2.1.f1; have pf2 := (hq0).2.2.1.f2
        have r0 := HRx.out.c0
        have r1 := HRx.out.c1
        have r2 := HRx.out.c2
        have rf0 := HRx.out.f0
        have rf1 := HRx.out.f1
        have rf2 := HRx.out.f2
        clear hq0
        by_cases hle : y ≤ x
        · have hr0 : 0 ≤ r := by
            rcases Nat.lt_or_ge y x with h | h
            · have := hcr.2.2 h; omega
            · have := hcr.2.1 (by omega); omega
          have HQ1 := Lib.hid (HE2.out hss hle)
          have HC := Lib.hid (HMi.out _ A5 A6 A8 c5 c6 hle HTD.out.1 HTD.out.2.1 HTD.out.2.2.1 HTD.out.2.2.2.1)
          clear hss HE2 HE3 HMi HMj hcr hle
          go_wp2_with fail
          refine HC.out.mono ?_
          rintro e w9 ⟨A9, c9, rfl, k9, k8, t9, bb9⟩
          clear a0 a1 a2 b0 b1 b2 p0 p1 p2 pf0 pf1 pf2 r0 r1 r2 rf0 rf1 rf2
          have R9 := HRx.out.below bb9 hp2
          have hp9 : p < w9.heap.size := Nat.lt_of_lt_of_le hp2 bb9.size
          obtain ⟨W9, hW9⟩ : ∃ W9, W9 = w9.setCell ⟨p, 1, none⟩ (.slice A9 (natL vb).length c9) := ⟨_, rfl⟩
          have R10 := R9.set1 (.slice A9 (natL vb).length c9)
          have T10 := HTS.out _ _ 1 (.slice A9 (natL vb).length c9) t9 hp1
          have k9' := k9.non R9.c1 (not_slice _ _ _) (.slice A9 (natL vb).length c9)
          have k8' := k8.non R9.c1 (not_slice _ _ _) (.slice A9 (natL vb).length c9)
          have z9 : (w9.setCell ⟨p, 1, none⟩ (.slice A9 (natL vb).length c9)).heap.size = w9.heap.size := by simp
          rw [← z9] at k9' k8'
          have q9 := HT.out _ t9
          have a0 := (q9).1.c0; have a1 := (q9).1.c1; have a2 := (q9).1.c2; have b0 := (q9).2.1.c0; have b1 := (q9).2.1.c1; have b2 := (q9).2.1.c2; have p0 := (q9).2.2.1.c0; have p1 := (q9).2.2.1.c1; have p2 := (q9).2.2.1.c2; have pf0 := (q9).2.2.1.f0; have pf1 := (q9).2.2.1.f1; have pf2 := (q9).2.2.1.f2
          have r0 := R9.c0
          have r1 := R9.c1
          have r2 := R9.c2
          have rf0 := R9.f0
          have rf1 := R9.f1
          have rf2 := R9.f2
          have x0 := R10.c0
          have x1 := R10.c1
          have x2 := R10.c2
          have HL2 := Lib.hid (HLw.out _ s vb A9 A8 c9 c8 HQ1.out HV1.out.2.1 T10 k9' k8')
          clear q9 R9 k9 k8 z9 k9' k8' R10
          have HT10 := Lib.hid T10
          clear T10 t9 bb9 hW9
          go_wp2_with fail
          refine HL2.out.mono ?_
          rintro e w10 ⟨⟨A10, c10, A11, c11, rfl, hr10, hr11, hb10⟩, hT10⟩
          have hq10 := HT.out _ hT10
          obtain ⟨m6, m7, m8, HR⟩ := rt_store (c1 := c10) (c2 := c11) (decide (q < 0)) hq10.2.2.1 hr10 hr11 hq10.2.2.2.1 (by omega)
          have HRH := Lib.hid HR
          have m80 := m8.c0
          have m81 := m8.c1
          have m82 := m8.c2
          clear a0 a1 a2 b0 b1 b2 p0 p1 p2 pf0 pf1 pf2 r0 r1 r2 rf0 rf1 rf2 x0 x1 x2
          have a0 := (hq10).1.c0; have a1 := (hq10).1.c1; have a2 := (hq10).1.c2; have b0 := (hq10).2.1.c0; have b1 := (hq10).2.1.c1; have b2 := (hq10).2.1.c2; have p0 := (hq10).2.2.1.c0; have p1 := (hq10).2.2.1.c1; have p2 := (hq10).2.2.1.c2; have pf0 := (hq10).2.2.1.f0; have pf1 := (hq10).2.2.1.f1; have pf2 := (hq10).2.2.1.f2
          clear HR m6 m7 m8 hr10 hr11 hb10 hT10 hq10
          go_wp2
          refine bodyPost_ret (v := .agg #[.bool (decide (q < 0)), .slice A10 (natL q.num.natAbs).length c10, .slice A11 (natL q.den).length c11]) (by simp [results, Tryz.results72, go_sem, m80, m81, m82]) rfl HRH.out
        · have hr0 : r < 0 := hcr.1 (by omega)
          have HQ1 := Lib.hid (HE3.out hss (by omega))
          have bW : Below w8.heap.size w8 w8.drew := (Below.refl _ _).drew
          have HC := Lib.hid (HMj.out w8.drew A5 A6 A8 c5 c6 (by omega) (HTB.out _ _ HTD.out.1 bW) ((HTD.out.2.1.below bW (Nat.le_refl _)).more bW.size) ((HTD.out.2.2.1.below bW (Nat.le_refl _)).more bW.size) ((HTD.out.2.2.2.1.below bW (Nat.le_refl _)).more bW.size))
          have HRd := Lib.hid (HRx.out.below bW hp2)
          have hpd : p < w8.drew.heap.size := Nat.lt_of_lt_of_le hp2 bW.size
          have hnp1 : p ≠ w.heap.size + 1 := by omega
          clear hss HE2 HE3 HMi HMj hcr hle bW
          go_wp2
          go_region_held3 (fun w' => w'.cell? ⟨w.heap.size + 1, 0, none⟩ = some (.bool s'))
            (first | exact b0 | go_keep | (rw [frzc hnp1]; exact b0) | (rw [frzc hnp1, frzc hnp1]; exact b0))
            (first
              | (go_at_call 138; refine HC.out.mono ?_; rintro e w9 ⟨A9, c9, rfl, k9, k8, t9, bb9⟩; have K9 := Lib.hid k9; have K8 := Lib.hid k8; have T9 := Lib.hid t9; have R9 := Lib.hid (HRd.out.below bb9 hpd); have hq9 := HT.out _ t9; have z9 := bb9.size; have m1 := R9.out.set1 (.slice A9 (natL vc).length c9); clear a0 a1 a2 b0 b1 b2 p0 p1 p2 pf0 pf1 pf2 r0 r1 r2 rf0 rf1 rf2 k9 k8 t9; have a0 := (hq9).1.c0; have a1 := (hq9).1.c1; have a2 := (hq9).1.c2; have b0 := (hq9).2.1.c0; have b1 := (hq9).2.1.c1; have b2 := (hq9).2.1.c2; have p0 := (hq9).2.2.1.c0; have p1 := (hq9).2.2.1.c1; have p2 := (hq9).2.2.1.c2; have pf0 := (hq9).2.2.1.f0; have pf1 := (hq9).2.2.1.f1; have pf2 := (hq9).2.2.1.f2; have r0 := R9.out.c0; have r1 := R9.out.c1; have r2 := R9.out.c2; have rf0 := R9.out.f0; have rf1 := R9.out.f1; have rf2 := R9.out.f2; have n0 := m1.c0; have nf0 := m1.f0; clear hq9 bb9 m1))
          all_goals
            have R10 := (R9.out.set1 (.slice A9 (natL vc).length c9)).set0 (.bool s')
            have R9b := R9.out.set1 (.slice A9 (natL vc).length c9)
            have T10 := HTS.out _ _ 0 (.bool s') (HTS.out _ _ 1 (.slice A9 (natL vc).length c9) T9.out hp1) hp1
            have k9' := (K9.out.non R9.out.c1 (not_slice _ _ _) (.slice A9 (natL vc).length c9)).non R9b.c0 (not_bool _) (.bool s')
            have k8' := (K8.out.non R9.out.c1 (not_slice _ _ _) (.slice A9 (natL vc).length c9)).non R9b.c0 (not_bool _) (.bool s')
            have z10 : ((w9.setCell ⟨p, 1, none⟩ (.slice A9 (natL vc).length c9)).setCell ⟨p, 0, none⟩ (.bool s')).heap.size = w9.heap.size := by simp
            rw [← z10] at k9' k8'
            have x0 := R10.c0
            have x1 := R10.c1
            have x2 := R10.c2
            have HL2 := Lib.hid (HLw.out _ s' vc A9 A8 c9 c8 HQ1.out HV1.out.2.2 T10 k9' k8')
            clear R10 R9b T10 k9' k8' z10
            go_wp2_with fail
            refine HL2.out.mono ?_
            rintro e w10 ⟨⟨A10, c10, A11, c11, rfl, hr10, hr11, hb10⟩, hT10⟩
            have hq10 := HT.out _ hT10
            obtain ⟨m6, m7, m8, HR⟩ := rt_store (c1 := c10) (c2 := c11) (decide (q < 0)) hq10.2.2.1 hr10 hr11 hq10.2.2.2.1 (by omega)
            have HRH := Lib.hid HR
            have m80 := m8.c0
            have m81 := m8.c1
            have m82 := m8.c2
            clear a0 a1 a2 b0 b1 b2 p0 p1 p2 pf0 pf1 pf2 r0 r1 r2 rf0 rf1 rf2 x0 x1 x2
            have a0 := (hq10).1.c0; have a1 := (hq10).1.c1; have a2 := (hq10).1.c2; have b0 := (hq10).2.1.c0; have b1 := (hq10).2.1.c1; have b2 := (hq10).2.1.c2; have p0 := (hq10).2.2.1.c0; have p1 := (hq10).2.2.1.c1; have p2 := (hq10).2.2.1.c2; have pf0 := (hq10).2.2.1.f0; have pf1 := (hq10).2.2.1.f1; have pf2 := (hq10).2.2.1.f2
            clear HR m6 m7 m8 hr10 hr11 hb10 hT10 hq10
            go_wp2
            refine bodyPost_ret (v := .agg #[.bool (decide (q < 0)), .slice A10 (natL q.num.natAbs).length c10, .slice A11 (natL q.den).length c11]) (by simp [results, Tryz.results72, go_sem, m80, m81, m82]) rfl HRH.out
end Go.Proofs.YtionognmgcabbaaGreat.Ratio

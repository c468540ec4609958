/- The program: a list of one ratio over and over. -/
import Derived.Test.YtionognmgcabbaaMgRun10
import Derived.Deep.Cut
import Derived.Test.YtionognmgcabbaaMgRun00
import Derived.Test.YtionognmgcabbaaMgRun09
import Derived.Shelf.Lay
import Derived.Shelf.Strconv.Itoa0
import Derived.Lib.ItoaNum
import Derived.Test.YtionognmgcabbaaMgRun07
namespace Go.Proofs.Ytionognmgcabbaa.Ratio
open Go.RowKit Go.Proofs.Ytionognmgcabbaa Go.Proofs.Ytionognmgcabbaa.Base Go.Proofs.Ytionognmgcabbaa.Mem Go.Proofs.Ytionognmgcabbaa.NatM Go.Proofs.Ytionognmgcabbaa.Nat32 Go.Proofs.Ytionognmgcabbaa.RatM Go.Proofs.Ytionognmgcabbaa.Blk
open Go.Proofs.Ytionognmgcabbaa.Inv (natOf natOf_eq len_pos Rat3 not_slice not_bool frz)
set_option linter.unusedVariables false
/-- a list that is made of one ratio -/
def RepRet (n : Nat) (q : Rat) (w : World) (e : Ending) (w' : World) : Prop := ∃ cs, e = .returned (.slice (some ⟨w.heap.size, 0, none⟩) n n) ∧ RowR w' w.heap.size n (fun _ => q) cs ∧ Below w.heap.size w w'
def RepRel (N g : Nat) (v0 v1 v2 : Value) (w : World) (nv : Value) (wr : World) : Prop :=
  ∃ n : Nat, nv = .int .i64 (n : Int) ∧ 1 ≤ n ∧ n ≤ N ∧ Hid (RepB wr g N n v0 v1 v2) ∧ Hid (Below w.heap.size w wr)
theorem infoR3 : (Try.prog.info? 89).map (·.size) = some 3 := by kernel_rfl
theorem below_setCellsG {B g : Nat} (hg : B ≤ g) : ∀ (vs : List Value) (o : Nat) {w0 w : World}, Below B w0 w → Below B w0 (w.setCells g o vs)
  | [], _, _, _, h => h
  | v :: vs, o, _, _, h => below_setCellsG hg vs (o + 1) (h.setCell (p := ⟨g, o, none⟩) hg v)
theorem RepB.drew {w : World} {g N n : Nat} {v0 v1 v2 : Value} (h : RepB w g N n v0 v1 v2) : RepB w.drew g N n v0 v1 v2 := by
  obtain ⟨cs, K, r⟩ := h.blk
  exact ⟨cs, K.drew, r⟩
/-- the copy onto itself -/
theorem run_self {wr : World} {g N n : Nat} {s : Bool} {A1 A2 : Option Addr} {k1 c1 k2 c2 : Nat} (h : RepB wr g N n (.bool s) (.slice A1 k1 c1) (.slice A2 k2 c2)) (hn : n < N) (m : Nat) (hm : m = Nat.min n (N - n)) :
    (Builtin.copy_ #[72, 72] 3 #[.slice (some ⟨g, n * 3, none⟩) (N - n) (N - n), .slice (some ⟨g, 0, none⟩) n N]).run Try.prog wr = .ok (goInt m) (wr.setCells g (n * 3) (rep (.bool s) (.slice A1 k1 c1) (.slice A2 k2 c2) m)) := by
  have h1 : m ≤ n := by rw [hm]; exact Nat.min_le_left _ _
  have h2 : m ≤ N - n := by rw [hm]; exact Nat.min_le_right _ _
  exact CopyR.run_copy_wide (P := Try.prog) wr 72 72 3 89 3 m g (n * 3) (N - n) (N - n) ⟨g, 0, none⟩ n N (rep (.bool s) (.slice A1 k1 c1) (.slice A2 k2 c2) m) Try.underlying72
    infoR3
    hm (rep_len _ _ _ _) (fun j v hj => by rw [Addr.add_lit, Nat.zero_add]; exact h.cells h1 j v hj)
    (fun j hj => by rw [rep_len] at hj; exact h.some (by omega)) (fun j hj => h.frz _) (rep_one rfl rfl rfl)
set_option maxHeartbeats 4000000 in
set_option maxRecDepth 100000 in
theorem repeat_any {c b0 N : Nat} {q : Rat} {s : Bool} {A1 A2 : Option Addr} {k1 c1 k2 c2 : Nat} (w : World) (x0 : w.cell? ⟨b0, 0, none⟩ = some (.bool s)) (x1 : w.cell? ⟨b0, 1, none⟩ = some (.slice A1 k1 c1)) (x2 : w.cell? ⟨b0, 2, none⟩ = some (.slice A2 k2 c2)) (hb0 : b0 < w.heap.size) (hq : IsRt w q (.agg #[.bool s, .slice A1 k1 c1, .slice A2 k2 c2])) (h1 : 1 ≤ N) (hN : N ≤ 1000) :
    Calls Try.prog 73 #[.slice (some ⟨b0, 0, none⟩) 1 c, .int .i64 (N : Int)] w (RepRet N q w) := by
  have HM : Hid (∀ W, Calls Try.prog 103 #[.int .u64 1, .int .u64 (N : Int)] W fun e w' => e = .returned (.tuple #[.int .u64 0, .int .u64 (N : Nat)]) ∧ W = w') := Lib.hid (fun W => by have := MulW.mulW_any 1 N W (by decide) (by omega) (by omega); rwa [Nat.one_mul] at this)
  have hmk := fun w => run_make3 N (by omega) w
  obtain ⟨g, hg⟩ : ∃ g, g = w.heap.size := ⟨_, rfl⟩
  obtain ⟨W1, hW1⟩ : ∃ W1, W1 = w.alloc (.cells (madeCells (Value.agg #[.bool false, .slice none 0 0, .slice none 0 0]).cells (N * 3)) 89) := ⟨_, rfl⟩
  have HB1 : Hid (Below w.heap.size w W1) := Lib.hid (by rw [hW1]; exact (Below.refl _ _).alloc (Nat.le_refl _) _)
  have K0 : Hid (RepB W1 g N 0 (.bool s) (.slice A1 k1 c1) (.slice A2 k2 c2)) := Lib.hid (by rw [hW1, hg]; exact RepB.made w N _ _ _)
  obtain ⟨W2, hcp, hK2, hB2⟩ : ∃ W2, (Builtin.copy_ #[72, 72] 3 #[.slice (some ⟨w.heap.size, 0, none⟩) N N, .slice (some ⟨b0, 0, none⟩) 1 c]).run Try.prog (w.alloc (.cells (madeCells #[.bool false, .slice none 0 0, .slice none 0 0] (N * 3)) 89)) = .ok (.int .i64 1) W2 ∧ RepB W2 g N 1 (.bool s) (.slice A1 k1 c1) (.slice A2 k2 c2) ∧ Below w.heap.size w W2 := by
    have hr := CopyR.run_copy_wide (P := Try.prog) W1 72 72 3 89 3 1 g 0 N N ⟨b0, 0, none⟩ 1 c (rep (.bool s) (.slice A1 k1 c1) (.slice A2 k2 c2) 1) Try.underlying72 infoR3
      (Nat.min_eq_left h1).symm (rep_len _ _ _ _) (fun j v hj => by
        have hl : j < 1 * 3 := by have := (List.getElem?_eq_some_iff.1 hj).1; rwa [rep_len] at this
        rw [rep_get _ _ _ hl] at hj
        rw [Addr.add_lit, Nat.zero_add]
        refine (HB1.out.cell (p := ⟨b0, j, none⟩) hb0).trans ?_
        rw [← hj]
        match j, hl with
        | 0, _ => exact x0
        | 1, _ => exact x1
        | 2, _ => exact x2
        | j + 3, h => exact absurd h (by omega))
      (fun j hj => by rw [rep_len] at hj; rw [Nat.zero_add]; exact K0.out.some (by omega)) (fun j hj => K0.out.frz _) (rep_one rfl rfl rfl)
    refine ⟨W1.setCells g 0 (rep (.bool s) (.slice A1 k1 c1) (.slice A2 k2 c2) 1), ?_, ?_, ?_⟩
    · rw [← hg]
      rw [hW1] at hr ⊢
      exact hr
    · have := K0.out.copied (m := 1) (by omega)
      rwa [Nat.zero_mul, Nat.zero_add] at this
    · exact below_setCellsG (Nat.le_of_eq hg.symm) _ _ HB1.out
  have HK2 := Lib.hid hK2
  have HB2 := Lib.hid hB2
  have HG := Lib.hid hg
  have HQ := Lib.hid hq
  clear hq hW1 hg x0 x1 x2 hK2 hB2 K0 HB1
  go_enter Try.func73, Try.ntmps73
  go_wp2_with fail
  refine (HM.out _).mono ?_
  rintro e w' ⟨rfl, rfl⟩
  go_wp2
  clear hcp hmk
  rw [← HG.out]
  go_loopw [8] (fun nv wr => RepRel N g (.bool s) (.slice A1 k1 c1) (.slice A2 k2 c2) w nv wr) (fun nv _ => N - (intOf nv).toNat)
  case atStart => exact ⟨1, rfl, Nat.le_refl _, h1, HK2, HB2⟩
  case round =>
    obtain ⟨n, rfl, hn1, hn, HK, HB⟩ := hrel
    by_cases hlt : n < N
    · obtain ⟨m, hm⟩ : ∃ m, m = Nat.min n (N - n) := ⟨_, rfl⟩
      have hm1 : m ≤ N - n := by rw [hm]; exact Nat.min_le_right _ _
      have hm0 : 1 ≤ m := by rw [hm]; exact (Nat.le_min).2 ⟨hn1, by omega⟩
      have hcp := run_self HK.out.drew hlt m hm
      have HK3 : Hid (RepB (wr.drew.setCells g (n * 3) (rep (.bool s) (.slice A1 k1 c1) (.slice A2 k2 c2) m)) g N (n + m) (.bool s) (.slice A1 k1 c1) (.slice A2 k2 c2)) := Lib.hid (HK.out.drew.copied (by omega))
      have HB3 : Hid (Below w.heap.size w (wr.drew.setCells g (n * 3) (rep (.bool s) (.slice A1 k1 c1) (.slice A2 k2 c2) m))) := Lib.hid (below_setCellsG (Nat.le_of_eq HG.out.symm) _ _ HB.out.drew)
      generalize wr.drew.setCells g (n * 3) (rep (.bool s) (.slice A1 k1 c1) (.slice A2 k2 c2) m) = W3 at *
      clear hm HK HB
      go_wp2
      go_region
      all_goals
        go_wp2
        go_roundw
        case rel => exact ⟨n + m, by go_num, by omega, by omega, HK3, HB3⟩
        case measure => simp [intOf]; omega
    · obtain rfl : n = N := by omega
      obtain ⟨cs, hR⟩ := HK.out.row (HQ.out.below HB.out)
      have HR : Hid (RepRet n q w (.returned (.slice (some ⟨g, 0, none⟩) n n)) wr) := Lib.hid ⟨cs, by rw [HG.out], by rw [← HG.out]; exact hR, HB.out⟩
      clear hR
      go_wp2
      go_ret
      exact HR.out
end Go.Proofs.Ytionognmgcabbaa.Ratio
/- The number that rows make of a state: both sides. -/
namespace Go.Proofs.Ytionognmgcabbaa.RowN
open Go.RowKit Go.Proofs.Ytionognmgcabbaa Go.Proofs.Ytionognmgcabbaa.Base Go.Proofs.Ytionognmgcabbaa.Mem Go.Proofs.Ytionognmgcabbaa.Bits
set_option linter.unusedVariables false
/-- what the first n rows make of x -/
def rowK (xs : List Int) (x : Nat) : Nat → Nat
  | 0 => 0
  | n + 1 => rowK xs x n ||| (PopM.par ((xs.getD n 0).toNat &&& x) <<< n)
theorem or_fin : ∀ (a : Fin 8) (p : Fin 2) (i : Fin 3), bits .or .i64 (a.val : Int) (wrap64 ((p.val : Int) * (2 : Int) ^ i.val)) = ((a.val ||| (p.val <<< i.val) : Nat) : Int) := by decide +kernel
theorem or_lt : ∀ (i : Fin 3) (a : Fin 8) (p : Fin 2), a.val < 2 ^ i.val → a.val ||| (p.val <<< i.val) < 2 ^ (i.val + 1) := by decide +kernel
theorem rowK_lt (xs : List Int) (x : Nat) : ∀ n, n ≤ 3 → rowK xs x n < 2 ^ n
  | 0, _ => Nat.lt_succ_self 0
  | n + 1, h => by
    have ih := rowK_lt xs x n (by omega)
    have hp : 2 ^ n ≤ 2 ^ 3 := Nat.pow_le_pow_right (by decide) (by omega)
    exact or_lt ⟨n, by omega⟩ ⟨rowK xs x n, by omega⟩ ⟨PopM.par ((xs.getD n 0).toNat &&& x), PopM.par_lt _⟩ ih
theorem par_step : ∀ m : Fin 16, 0 < m.val → m.val &&& (m.val - 1) < m.val ∧ PopM.par m.val = 1 - PopM.par (m.val &&& (m.val - 1)) := by decide +kernel
theorem and_fin : ∀ (a b : Fin 16), bits .and .i64 (a.val : Int) (b.val : Int) = ((a.val &&& b.val : Nat) : Int) := by decide +kernel
theorem and16 {a b : Nat} (ha : a < 16) (hb : b < 16) : bits .and .i64 (a : Int) (b : Int) = ((a &&& b : Nat) : Int) := and_fin ⟨a, ha⟩ ⟨b, hb⟩
theorem and_lt {a b : Nat} (ha : a < 16) : a &&& b < 16 := Nat.lt_of_le_of_lt Nat.and_le_left ha
set_option maxHeartbeats 1000000 in
theorem parS_any (x m : Nat) (hx : x < 16) (hm : m < 16) (w : World) : Calls Try.prog 87 #[.int .i64 (x : Int), .int .i64 (m : Int)] w fun e w' => e = .returned (.int .i64 (PopM.par (x &&& m) : Nat)) ∧ w = w' := by
  have hA := and16 hx hm
  have hAl := and_lt (b := m) hx
  obtain ⟨R, hR⟩ : ∃ R, R = x &&& m := ⟨_, rfl⟩
  rw [← hR] at hA hAl ⊢
  clear hR
  go_enter Try.func87, Try.ntmps87
  go_wp2
  go_loopw [5, 6] (fun p r wr => ∃ a b : Nat, p = .int .i64 (a : Int) ∧ r = .int .i64 (b : Int) ∧ a < 2 ∧ b < 16 ∧ Hid ((a + PopM.par b) % 2 = PopM.par R) ∧ wr = w) (fun _ r _ => (intOf r).toNat)
  case atStart => exact ⟨0, R, rfl, rfl, by omega, hAl, Lib.hid (by have := PopM.par_lt R; omega), rfl⟩
  case round =>
    obtain ⟨a, b, rfl, rfl, ha, hb, hpar, rfl⟩ := hrel
    by_cases h0 : 0 < b
    · obtain ⟨s1, s2⟩ := par_step ⟨b, hb⟩ h0
      have s1 : b &&& (b - 1) < b := s1
      have s2 : PopM.par b = 1 - PopM.par (b &&& (b - 1)) := s2
      have e1 : bits .and .i64 (b : Int) ((b : Int) - 1) = ((b &&& (b - 1) : Nat) : Int) := by
        have hb1 : ((b - 1 : Nat) : Int) = (b : Int) - 1 := by omega
        rw [← hb1]; exact and16 hb (by omega)
      have HP : Hid ((1 - a + PopM.par (b &&& (b - 1))) % 2 = PopM.par R) := Lib.hid (by
        have := hpar.out
        have := PopM.par_lt (b &&& (b - 1))
        omega)
      have ea : (1 : Int) - (a : Int) = ((1 - a : Nat) : Int) := by omega
      clear hpar s2
      generalize b &&& (b - 1) = b' at *
      go_wp2
      go_roundw
      case rel => exact ⟨1 - a, b', by first | rfl | exact congrArg _ ea | (rw [ea]), by first | rfl | rw [e1], by omega, by omega, HP, by first | trivial | rfl⟩
      case measure => first | (simp [intOf]; omega) | (rw [e1]; simp [intOf]; omega)
    · obtain rfl : b = 0 := by omega
      have HE : Hid (PopM.par R = a) := Lib.hid (by have := hpar.out; rw [show PopM.par 0 = 0 by decide] at this; omega)
      clear hpar
      go_wp2
      go_ret
      exact ⟨ret_int (by rw [HE.out]), rfl⟩
set_option maxHeartbeats 1000000 in
theorem apply_any {A : Option Addr} {c B x : Nat} {xs : List Int} (w : World) (hx : RdI w B A xs) (hl : xs.length ≤ 3) (hr : ∀ i, i < xs.length → 0 ≤ xs.getD i 0 ∧ xs.getD i 0 ≤ 15) (hx16 : x < 16) : Calls Try.prog 91 #[.slice A xs.length c, .int .i64 (x : Int)] w fun e w' => e = .returned (.int .i64 ((rowK xs x xs.length : Nat) : Int)) ∧ w = w' := by
  have HX := Lib.hid hx
  clear hx
  go_enter Try.func91, Try.ntmps91
  go_wp2
  go_loopw [5, 10] (fun p iv wr => ∃ i : Nat, iv = .int .i64 (i : Int) ∧ i ≤ xs.length ∧ p = .int .i64 ((rowK xs x i : Nat) : Int) ∧ wr = w) (fun _ iv _ => xs.length - (intOf iv).toNat)
  case atStart => exact ⟨0, rfl, Nat.zero_le _, rfl, rfl⟩
  case round =>
    obtain ⟨i, rfl, hi, rfl, rfl⟩ := hrel
    by_cases hlt : i < xs.length
    · obtain ⟨b, off, rfl, _, hc⟩ := HX.out (by omega)
      have g := hc i hlt
      obtain ⟨r1, r2⟩ := hr i hlt
      have HK : Hid (rowK xs x (i + 1) = rowK xs x i ||| (PopM.par ((xs.getD i 0).toNat &&& x) <<< i)) := Lib.hid rfl
      have hk := rowK_lt xs x i (by omega)
      have hp8 : 2 ^ i ≤ 2 ^ 3 := Nat.pow_le_pow_right (by decide) (by omega)
      clear hc hr
      obtain ⟨k', hk'⟩ : ∃ k', k' = rowK xs x (i + 1) := ⟨_, rfl⟩
      rw [← hk'] at HK
      have HK2 := Lib.hid hk'
      clear hk'
      generalize rowK xs x i = k at *
      generalize xs.getD i 0 = y at *
      obtain ⟨Y, rfl⟩ : ∃ Y : Nat, y = (Y : Int) := ⟨y.toNat, by omega⟩
      rw [Int.toNat_natCast] at HK
      have hA := and16 (show Y < 16 by omega) hx16
      have hal := and_lt (b := x) (show Y < 16 by omega)
      have hpl := PopM.par_lt (Y &&& x)
      have hor := or_fin ⟨k, by omega⟩ ⟨PopM.par (Y &&& x), hpl⟩ ⟨i, by omega⟩
      replace hor : bits .or .i64 (k : Int) (wrap64 ((PopM.par (Y &&& x) : Int) * (2 : Int) ^ i)) = ((k ||| (PopM.par (Y &&& x) <<< i) : Nat) : Int) := hor
      rw [← HK.out] at hor
      have HPA := Lib.hid (fun W => parity_any (Y &&& x) (by omega) W)
      go_wp2_with fail
      refine (HPA.out _).mono ?_
      rintro e w1 ⟨rfl, rfl⟩
      go_wp2
      go_roundw
      case rel => exact ⟨i + 1, by simp, hlt, by rw [← HK2.out], by first | trivial | rfl⟩
      case measure => simp [intOf]; omega
    · obtain rfl : i = xs.length := by omega
      go_wp2
      go_ret
      exact ⟨rfl, rfl⟩
end Go.Proofs.Ytionognmgcabbaa.RowN
/- Plain: what rows make of a source. -/
namespace Go.Proofs.Ytionognmgcabbaa.ExtM
open Go.RowKit Go.Proofs.Ytionognmgcabbaa Go.Proofs.Ytionognmgcabbaa.Base Go.Proofs.Ytionognmgcabbaa.RatM Go.Proofs.Ytionognmgcabbaa.GaussM Go.Proofs.Ytionognmgcabbaa.ChM Go.Proofs.Ytionognmgcabbaa.RowN
set_option linter.unusedVariables false
/-- the chances of the first n numbers of a source that rows make y of, one after another -/
def sel (xs fs : List Int) (y : Nat) : Nat → List Rat
  | 0 => []
  | n + 1 => if rowK xs n xs.length = y then sel xs fs y n ++ [fq fs n] else sel xs fs y n
/-- their sum -/
def exQ (xs fs : List Int) (n y : Nat) : Rat := sumR n (fun x => if rowK xs x xs.length = y then fq fs x else 0)
def lsum (l : List Rat) : Rat := sumR l.length (fun i => l.getD i 0)
theorem lsum_snoc (l : List Rat) (q : Rat) : lsum (l ++ [q]) = lsum l + q := by
  unfold lsum
  rw [List.length_append, List.length_singleton, sumR]
  have e1 : (l ++ [q]).getD l.length 0 = q := by simp [List.getD_eq_getElem?_getD]
  have e2 : sumR l.length (fun i => (l ++ [q]).getD i 0) = sumR l.length (fun i => l.getD i 0) := sumR_congr fun j hj => by
    simp only [List.getD_eq_getElem?_getD]
    rw [List.getElem?_append_left hj]
  rw [e2]
  show _ + (l ++ [q]).getD l.length 0 = _
  rw [e1]
theorem sel_sum (xs fs : List Int) (y : Nat) : ∀ n, lsum (sel xs fs y n) = exQ xs fs n y
  | 0 => rfl
  | n + 1 => by
    have ih := sel_sum xs fs y n
    show lsum (sel xs fs y (n + 1)) = sumR n _ + _
    unfold sel
    split
    · rename_i h
      rw [lsum_snoc, ih]
      simp only [h, if_true]
      rfl
    · rename_i h
      rw [ih]
      simp only [h, if_false]
      rw [exQ]; grind
theorem sel_len (xs fs : List Int) (y : Nat) : ∀ n, (sel xs fs y n).length ≤ n
  | 0 => Nat.le_refl _
  | n + 1 => by
    have ih := sel_len xs fs y n
    unfold sel
    split
    · rw [List.length_append, List.length_singleton]; omega
    · omega
theorem sel_hit {xs fs : List Int} {y n : Nat} (h : rowK xs n xs.length = y) : sel xs fs y (n + 1) = sel xs fs y n ++ [fq fs n] := by rw [sel, if_pos h]
theorem sel_miss {xs fs : List Int} {y n : Nat} (h : rowK xs n xs.length ≠ y) : sel xs fs y (n + 1) = sel xs fs y n := by rw [sel, if_neg h]
theorem exQ_hit {xs fs : List Int} {y n : Nat} (h : rowK xs n xs.length = y) : exQ xs fs (n + 1) y = exQ xs fs n y + fq fs n := by
  show sumR n _ + _ = _
  simp only [h, if_true]; rfl
theorem exQ_miss {xs fs : List Int} {y n : Nat} (h : rowK xs n xs.length ≠ y) : exQ xs fs (n + 1) y = exQ xs fs n y := by
  show sumR n _ + _ = _
  simp only [h, if_false]; rw [exQ]; grind
/-- sizes of the partial sums -/
theorem dgb_exQ {xs fs : List Int} {n y : Nat} (hv : AllVF fs n) (hn : n ≤ 16) : Dg (NatM.B32 ^ 49) (exQ xs fs n y) := by
  have h := Ratio.dgb_sum (n := n) (m := 2) (f := fun x => if rowK xs x xs.length = y then fq fs x else 0) (fun i hi => by
    show Dg _ (if _ then _ else _)
    split
    · exact Ratio.dgb_vf (hv i hi)
    · exact Ratio.dgb_zero (by omega))
  exact Ratio.dgb_more h (by omega)
theorem AllVF.less {fs : List Int} {n m : Nat} (h : AllVF fs n) (hm : m ≤ n) : AllVF fs m := fun i hi => h i (by omega)
end Go.Proofs.Ytionognmgcabbaa.ExtM
/- The degree of a number as the program counts it. -/
namespace Go.Proofs
open Go.Shelf
def Ytionognmgcabbaa.layd129_ren : Go.Shelf.Ren := ⟨fun | 129 => 133 | n => n, fun | 53 => 140 | 3 => 3 | 4 => 4 | 46 => 103 | 5 => 5 | 9 => 9 | n => n, fun | n => n⟩
theorem Ytionognmgcabbaa.layd129 : Go.Proofs.Lays.n129 Try.prog Ytionognmgcabbaa.layd129_ren := {
  mixed := by kernel_rfl
  f129 := Try.func133.trans (congrArg some (by kernel_rfl))
  t3 := Try.underlying3
  a3 := Try.isAgg3
  z3 := Try.sizeOf3
  v3 := Try.zeroValue3
  t4 := Try.underlying4
  a4 := Try.isAgg4
  z4 := Try.sizeOf4
  v4 := Try.zeroValue4
  t5 := Try.underlying5
  a5 := Try.isAgg5
  z5 := Try.sizeOf5
  v5 := Try.zeroValue5
  t9 := Try.underlying9
  a9 := Try.isAgg9
  z9 := Try.sizeOf9
  v9 := Try.zeroValue9
  t46 := Try.underlying103
  a46 := Try.isAgg103
  z46 := Try.sizeOf103
  v46 := Try.zeroValue103
  t53 := Try.underlying140
  a53 := Try.isAgg140
  z53 := Try.sizeOf140
  v53 := Try.zeroValue140 }
end Go.Proofs
namespace Go.Proofs.Ytionognmgcabbaa.Deg
open Go.RowKit Go.Proofs.Ytionognmgcabbaa Go.Proofs.Ytionognmgcabbaa.Base
theorem bitLen_le (p : Nat) (h : p < 9223372036854775808) : Lib.bitLen p ≤ 64 := by
  by_cases h0 : p = 0
  · subst h0; decide
  · have hb := Lib.bitLenAux_bounds 64 p (by omega) (by omega)
    have e0 : Lib.bitLenAux 64 p = Lib.bitLen p := rfl
    rw [e0] at hb
    rcases Nat.lt_or_ge 64 (Lib.bitLen p) with h | h
    · have := Nat.pow_le_pow_right (n := 2) (by decide) (show 64 ≤ Lib.bitLen p - 1 by omega)
      have e : (2 : Nat) ^ 64 = 18446744073709551616 := by decide
      omega
    · exact h
theorem degree_of (p : Nat) (h : p < 9223372036854775808) (w : World) : Calls Try.prog 115 #[.int .i64 (p : Int)] w fun e w' => e = .returned (.int .i64 ((Lib.bitLen p : Int) - 1)) ∧ w = w' := by
  have hb := bitLen_le p h
  have HL := Lib.hid (fun w => (Any.bits_Len64 Ytionognmgcabbaa.layd129 (p : Int) w (by omega) (by omega)))
  rw [Int.toNat_natCast] at HL
  go_enter Try.func115, Try.ntmps115
  go_wp2_with fail
  refine (HL.out _).mono ?_
  rintro e w' ⟨rfl, rfl⟩
  go_wp2
  go_ret
  exact ⟨rfl, rfl⟩
end Go.Proofs.Ytionognmgcabbaa.Deg
/- The program: the bits of a source. -/
namespace Go.Proofs.Ytionognmgcabbaa.Ratio
open Go.RowKit Go.Proofs.Ytionognmgcabbaa Go.Proofs.Ytionognmgcabbaa.Base Go.Proofs.Ytionognmgcabbaa.Mem Go.Proofs.Ytionognmgcabbaa.NatM Go.Proofs.Ytionognmgcabbaa.Nat32 Go.Proofs.Ytionognmgcabbaa.RatM Go.Proofs.Ytionognmgcabbaa.Blk Go.Proofs.Ytionognmgcabbaa.MemF Go.Proofs.Ytionognmgcabbaa.ChM Go.Proofs.Ytionognmgcabbaa.ValF Go.Proofs.Ytionognmgcabbaa.GaussM Go.Proofs.Ytionognmgcabbaa.Deg
set_option linter.unusedVariables false
theorem chB_range {fs : List Int} {n : Nat} (h : chB fs n = true) : 1 ≤ n ∧ n ≤ 16 := by
  simp only [chB, Bool.and_eq_true, decide_eq_true_eq] at h
  exact ⟨h.1, h.2.1⟩
/-- what is said of a source -/
def SrcRet (fs : List Int) (n : Nat) (w : World) (e : Ending) (w' : World) : Prop := ∃ d : Int, e = .returned (.tuple #[.int .i64 d, .bool (decide (bitsQ fs n ≠ 0))]) ∧ (bitsQ fs n ≠ 0 → d = ((bitsQ fs n : Nat) : Int)) ∧ Below w.heap.size w w'
theorem SrcRet.no {fs : List Int} {n : Nat} {w w' : World} {d : Int} (h : bitsQ fs n = 0) (hb : Below w.heap.size w w') : SrcRet fs n w (.returned (.tuple #[.int .i64 d, .bool false])) w' :=
  ⟨d, by rw [h]; rfl, fun h' => absurd h h', hb⟩
theorem SrcRet.yes {fs : List Int} {n k : Nat} {w w' : World} {d : Int} (h : bitsQ fs n = k) (hk : k ≠ 0) (hd : d = (k : Int)) (hb : Below w.heap.size w w') : SrcRet fs n w (.returned (.tuple #[.int .i64 d, .bool true])) w' :=
  ⟨d, by rw [h, decide_eq_true hk], fun _ => by rw [h]; exact hd, hb⟩
set_option maxHeartbeats 4000000 in
set_option maxRecDepth 100000 in
theorem src_any {A : Option Addr} {c B n : Nat} {fs : List Int} (w : World) (hx : RdF w B A n fs) (hB : B ≤ w.heap.size) (hn : n ≤ 1099511627776) : Calls Try.prog 88 #[.slice A n c] w (SrcRet fs n w) := by
  have HC := Lib.hid (fun W (h : Below w.heap.size w W) => areCh_any (c := c) W (hx.below h hB) (Nat.le_trans hB h.size) hn)
  have HL := Lib.hid (fun W => lenF_any A n c W (by omega))
  clear hx
  cases hc : chB fs n with
  | false =>
    rw [hc] at HC
    have HE : Hid (bitsQ fs n = 0) := Lib.hid (by unfold bitsQ; rw [hc]; rfl)
    have HD := Lib.hid (fun W => degree_of n (by omega) W)
    clear hc
    have hbl := bitLen_le n (by omega)
    generalize Lib.bitLen n = d at *
    go_enter Try.func88, Try.ntmps88
    go_wp2_with fail
    refine (HL.out _).mono ?_
    rintro e w1 ⟨rfl, rfl⟩
    go_wp2_with fail
    refine (HD.out _).mono ?_
    rintro e w1 ⟨rfl, rfl⟩
    go_wp2_with fail
    (refine wp_region_below (by kernel_rfl) (by kernel_rfl) ?_; (repeat (refine wpQuiet_step (fun K hK => ?_); go_simp; first | (refine hK _ ?_; clear hK K) | (apply Exists.intro; refine ⟨fun wq hq => ?_, hK _ ?_⟩; (first | rfl | (skip; first | (go_simp; done) | (go_simp; rfl) | (go_at_call 36; refine (HC.out _ hq).mono ?_; rintro e w1 ⟨rfl, hb1⟩; exact ⟨rfl, Base.Below.nextA hq hb1⟩))); clear hK K))); refine wpQuiet_nil ?_; intro wq hq)
    have HB := Lib.hid hq
    go_wp2
    go_ret2
    exact SrcRet.no HE.out HB.out
  | true =>
    obtain ⟨h1, h2⟩ := chB_range hc
    have HCH := Lib.hid hc
    rw [hc] at HC
    clear hc hn
    have h : n = 1 ∨ n = 2 ∨ n = 3 ∨ n = 4 ∨ n = 5 ∨ n = 6 ∨ n = 7 ∨ n = 8 ∨ n = 9 ∨ n = 10 ∨ n = 11 ∨ n = 12 ∨ n = 13 ∨ n = 14 ∨ n = 15 ∨ n = 16 := by omega
    rcases h with rfl | rfl | rfl | rfl | rfl | rfl | rfl | rfl | rfl | rfl | rfl | rfl | rfl | rfl | rfl | rfl
    · have HE : Hid (bitsQ fs 1 = 0) := Lib.hid (by unfold bitsQ; rw [if_pos HCH.out]; rfl)
      have e0 : ((Lib.bitLen 1 : Nat) : Int) - 1 = 0 := by decide
      have HD := Lib.hid (fun W => degree_of 1 (by decide) W)
      rw [e0] at HD
      clear e0
      go_enter Try.func88, Try.ntmps88
      go_wp2_with fail
      refine (HL.out _).mono ?_
      rintro e w1 ⟨rfl, rfl⟩
      go_wp2_with fail
      refine (HD.out _).mono ?_
      rintro e w1 ⟨rfl, rfl⟩
      go_wp2_with fail
      (refine wp_region_below (by kernel_rfl) (by kernel_rfl) ?_; (repeat (refine wpQuiet_step (fun K hK => ?_); go_simp; first | (refine hK _ ?_; clear hK K) | (apply Exists.intro; refine ⟨fun wq hq => ?_, hK _ ?_⟩; (first | rfl | (skip; first | (go_simp; done) | (go_simp; rfl) | (go_at_call 36; refine (HC.out _ hq).mono ?_; rintro e w1 ⟨rfl, hb1⟩; exact ⟨rfl, Base.Below.nextA hq hb1⟩))); clear hK K))); refine wpQuiet_nil ?_; intro wq hq)
      have HB := Lib.hid hq
      go_wp2
      go_ret2
      first | exact SrcRet.no HE.out HB.out | exact SrcRet.yes HE.out (by decide) rfl HB.out
    · have HE : Hid (bitsQ fs 2 = 1) := Lib.hid (by unfold bitsQ; rw [if_pos HCH.out]; rfl)
      have e0 : ((Lib.bitLen 2 : Nat) : Int) - 1 = 1 := by decide
      have HD := Lib.hid (fun W => degree_of 2 (by decide) W)
      rw [e0] at HD
      clear e0
      go_enter Try.func88, Try.ntmps88
      go_wp2_with fail
      refine (HL.out _).mono ?_
      rintro e w1 ⟨rfl, rfl⟩
      go_wp2_with fail
      refine (HD.out _).mono ?_
      rintro e w1 ⟨rfl, rfl⟩
      go_wp2_with fail
      (refine wp_region_below (by kernel_rfl) (by kernel_rfl) ?_; (repeat (refine wpQuiet_step (fun K hK => ?_); go_simp; first | (refine hK _ ?_; clear hK K) | (apply Exists.intro; refine ⟨fun wq hq => ?_, hK _ ?_⟩; (first | rfl | (skip; first | (go_simp; done) | (go_simp; rfl) | (go_at_call 36; refine (HC.out _ hq).mono ?_; rintro e w1 ⟨rfl, hb1⟩; exact ⟨rfl, Base.Below.nextA hq hb1⟩))); clear hK K))); refine wpQuiet_nil ?_; intro wq hq)
      have HB := Lib.hid hq
      go_wp2
      go_ret2
      first | exact SrcRet.no HE.out HB.out | exact SrcRet.yes HE.out (by decide) rfl HB.out
    · have HE : Hid (bitsQ fs 3 = 0) := Lib.hid (by unfold bitsQ; rw [if_pos HCH.out]; rfl)
      have e0 : ((Lib.bitLen 3 : Nat) : Int) - 1 = 1 := by decide
      have HD := Lib.hid (fun W => degree_of 3 (by decide) W)
      rw [e0] at HD
      clear e0
      go_enter Try.func88, Try.ntmps88
      go_wp2_with fail
      refine (HL.out _).mono ?_
      rintro e w1 ⟨rfl, rfl⟩
      go_wp2_with fail
      refine (HD.out _).mono ?_
      rintro e w1 ⟨rfl, rfl⟩
      go_wp2_with fail
      (refine wp_region_below (by kernel_rfl) (by kernel_rfl) ?_; (repeat (refine wpQuiet_step (fun K hK => ?_); go_simp; first | (refine hK _ ?_; clear hK K) | (apply Exists.intro; refine ⟨fun wq hq => ?_, hK _ ?_⟩; (first | rfl | (skip; first | (go_simp; done) | (go_simp; rfl) | (go_at_call 36; refine (HC.out _ hq).mono ?_; rintro e w1 ⟨rfl, hb1⟩; exact ⟨rfl, Base.Below.nextA hq hb1⟩))); clear hK K))); refine wpQuiet_nil ?_; intro wq hq)
      have HB := Lib.hid hq
      go_wp2
      go_ret2
      first | exact SrcRet.no HE.out HB.out | exact SrcRet.yes HE.out (by decide) rfl HB.out
    · have HE : Hid (bitsQ fs 4 = 2) := Lib.hid (by unfold bitsQ; rw [if_pos HCH.out]; rfl)
      have e0 : ((Lib.bitLen 4 : Nat) : Int) - 1 = 2 := by decide
      have HD := Lib.hid (fun W => degree_of 4 (by decide) W)
      rw [e0] at HD
      clear e0
      go_enter Try.func88, Try.ntmps88
      go_wp2_with fail
      refine (HL.out _).mono ?_
      rintro e w1 ⟨rfl, rfl⟩
      go_wp2_with fail
      refine (HD.out _).mono ?_
      rintro e w1 ⟨rfl, rfl⟩
      go_wp2_with fail
      (refine wp_region_below (by kernel_rfl) (by kernel_rfl) ?_; (repeat (refine wpQuiet_step (fun K hK => ?_); go_simp; first | (refine hK _ ?_; clear hK K) | (apply Exists.intro; refine ⟨fun wq hq => ?_, hK _ ?_⟩; (first | rfl | (skip; first | (go_simp; done) | (go_simp; rfl) | (go_at_call 36; refine (HC.out _ hq).mono ?_; rintro e w1 ⟨rfl, hb1⟩; exact ⟨rfl, Base.Below.nextA hq hb1⟩))); clear hK K))); refine wpQuiet_nil ?_; intro wq hq)
      have HB := Lib.hid hq
      go_wp2
      go_ret2
      first | exact SrcRet.no HE.out HB.out | exact SrcRet.yes HE.out (by decide) rfl HB.out
    · have HE : Hid (bitsQ fs 5 = 0) := Lib.hid (by unfold bitsQ; rw [if_pos HCH.out]; rfl)
      have e0 : ((Lib.bitLen 5 : Nat) : Int) - 1 = 2 := by decide
      have HD := Lib.hid (fun W => degree_of 5 (by decide) W)
      rw [e0] at HD
      clear e0
      go_enter Try.func88, Try.ntmps88
      go_wp2_with fail
      refine (HL.out _).mono ?_
      rintro e w1 ⟨rfl, rfl⟩
      go_wp2_with fail
      refine (HD.out _).mono ?_
      rintro e w1 ⟨rfl, rfl⟩
      go_wp2_with fail
      (refine wp_region_below (by kernel_rfl) (by kernel_rfl) ?_; (repeat (refine wpQuiet_step (fun K hK => ?_); go_simp; first | (refine hK _ ?_; clear hK K) | (apply Exists.intro; refine ⟨fun wq hq => ?_, hK _ ?_⟩; (first | rfl | (skip; first | (go_simp; done) | (go_simp; rfl) | (go_at_call 36; refine (HC.out _ hq).mono ?_; rintro e w1 ⟨rfl, hb1⟩; exact ⟨rfl, Base.Below.nextA hq hb1⟩))); clear hK K))); refine wpQuiet_nil ?_; intro wq hq)
      have HB := Lib.hid hq
      go_wp2
      go_ret2
      first | exact SrcRet.no HE.out HB.out | exact SrcRet.yes HE.out (by decide) rfl HB.out
    · have HE : Hid (bitsQ fs 6 = 0) := Lib.hid (by unfold bitsQ; rw [if_pos HCH.out]; rfl)
      have e0 : ((Lib.bitLen 6 : Nat) : Int) - 1 = 2 := by decide
      have HD := Lib.hid (fun W => degree_of 6 (by decide) W)
      rw [e0] at HD
      clear e0
      go_enter Try.func88, Try.ntmps88
      go_wp2_with fail
      refine (HL.out _).mono ?_
      rintro e w1 ⟨rfl, rfl⟩
      go_wp2_with fail
      refine (HD.out _).mono ?_
      rintro e w1 ⟨rfl, rfl⟩
      go_wp2_with fail
      (refine wp_region_below (by kernel_rfl) (by kernel_rfl) ?_; (repeat (refine wpQuiet_step (fun K hK => ?_); go_simp; first | (refine hK _ ?_; clear hK K) | (apply Exists.intro; refine ⟨fun wq hq => ?_, hK _ ?_⟩; (first | rfl | (skip; first | (go_simp; done) | (go_simp; rfl) | (go_at_call 36; refine (HC.out _ hq).mono ?_; rintro e w1 ⟨rfl, hb1⟩; exact ⟨rfl, Base.Below.nextA hq hb1⟩))); clear hK K))); refine wpQuiet_nil ?_; intro wq hq)
      have HB := Lib.hid hq
      go_wp2
      go_ret2
      first | exact SrcRet.no HE.out HB.out | exact SrcRet.yes HE.out (by decide) rfl HB.out
    · have HE : Hid (bitsQ fs 7 = 0) := Lib.hid (by unfold bitsQ; rw [if_pos HCH.out]; rfl)
      have e0 : ((Lib.bitLen 7 : Nat) : Int) - 1 = 2 := by decide
      have HD := Lib.hid (fun W => degree_of 7 (by decide) W)
      rw [e0] at HD
      clear e0
      go_enter Try.func88, Try.ntmps88
      go_wp2_with fail
      refine (HL.out _).mono ?_
      rintro e w1 ⟨rfl, rfl⟩
      go_wp2_with fail
      refine (HD.out _).mono ?_
      rintro e w1 ⟨rfl, rfl⟩
      go_wp2_with fail
      (refine wp_region_below (by kernel_rfl) (by kernel_rfl) ?_; (repeat (refine wpQuiet_step (fun K hK => ?_); go_simp; first | (refine hK _ ?_; clear hK K) | (apply Exists.intro; refine ⟨fun wq hq => ?_, hK _ ?_⟩; (first | rfl | (skip; first | (go_simp; done) | (go_simp; rfl) | (go_at_call 36; refine (HC.out _ hq).mono ?_; rintro e w1 ⟨rfl, hb1⟩; exact ⟨rfl, Base.Below.nextA hq hb1⟩))); clear hK K))); refine wpQuiet_nil ?_; intro wq hq)
      have HB := Lib.hid hq
      go_wp2
      go_ret2
      first | exact SrcRet.no HE.out HB.out | exact SrcRet.yes HE.out (by decide) rfl HB.out
    · have HE : Hid (bitsQ fs 8 = 3) := Lib.hid (by unfold bitsQ; rw [if_pos HCH.out]; rfl)
      have e0 : ((Lib.bitLen 8 : Nat) : Int) - 1 = 3 := by decide
      have HD := Lib.hid (fun W => degree_of 8 (by decide) W)
      rw [e0] at HD
      clear e0
      go_enter Try.func88, Try.ntmps88
      go_wp2_with fail
      refine (HL.out _).mono ?_
      rintro e w1 ⟨rfl, rfl⟩
      go_wp2_with fail
      refine (HD.out _).mono ?_
      rintro e w1 ⟨rfl, rfl⟩
      go_wp2_with fail
      (refine wp_region_below (by kernel_rfl) (by kernel_rfl) ?_; (repeat (refine wpQuiet_step (fun K hK => ?_); go_simp; first | (refine hK _ ?_; clear hK K) | (apply Exists.intro; refine ⟨fun wq hq => ?_, hK _ ?_⟩; (first | rfl | (skip; first | (go_simp; done) | (go_simp; rfl) | (go_at_call 36; refine (HC.out _ hq).mono ?_; rintro e w1 ⟨rfl, hb1⟩; exact ⟨rfl, Base.Below.nextA hq hb1⟩))); clear hK K))); refine wpQuiet_nil ?_; intro wq hq)
      have HB := Lib.hid hq
      go_wp2
      go_ret2
      first | exact SrcRet.no HE.out HB.out | exact SrcRet.yes HE.out (by decide) rfl HB.out
    · have HE : Hid (bitsQ fs 9 = 0) := Lib.hid (by unfold bitsQ; rw [if_pos HCH.out]; rfl)
      have e0 : ((Lib.bitLen 9 : Nat) : Int) - 1 = 3 := by decide
      have HD := Lib.hid (fun W => degree_of 9 (by decide) W)
      rw [e0] at HD
      clear e0
      go_enter Try.func88, Try.ntmps88
      go_wp2_with fail
      refine (HL.out _).mono ?_
      rintro e w1 ⟨rfl, rfl⟩
      go_wp2_with fail
      refine (HD.out _).mono ?_
      rintro e w1 ⟨rfl, rfl⟩
      go_wp2_with fail
      (refine wp_region_below (by kernel_rfl) (by kernel_rfl) ?_; (repeat (refine wpQuiet_step (fun K hK => ?_); go_simp; first | (refine hK _ ?_; clear hK K) | (apply Exists.intro; refine ⟨fun wq hq => ?_, hK _ ?_⟩; (first | rfl | (skip; first | (go_simp; done) | (go_simp; rfl) | (go_at_call 36; refine (HC.out _ hq).mono ?_; rintro e w1 ⟨rfl, hb1⟩; exact ⟨rfl, Base.Below.nextA hq hb1⟩))); clear hK K))); refine wpQuiet_nil ?_; intro wq hq)
      have HB := Lib.hid hq
      go_wp2
      go_ret2
      first | exact SrcRet.no HE.out HB.out | exact SrcRet.yes HE.out (by decide) rfl HB.out
    · have HE : Hid (bitsQ fs 10 = 0) := Lib.hid (by unfold bitsQ; rw [if_pos HCH.out]; rfl)
      have e0 : ((Lib.bitLen 10 : Nat) : Int) - 1 = 3 := by decide
      have HD := Lib.hid (fun W => degree_of 10 (by decide) W)
      rw [e0] at HD
      clear e0
      go_enter Try.func88, Try.ntmps88
      go_wp2_with fail
      refine (HL.out _).mono ?_
      rintro e w1 ⟨rfl, rfl⟩
      go_wp2_with fail
      refine (HD.out _).mono ?_
      rintro e w1 ⟨rfl, rfl⟩
      go_wp2_with fail
      (refine wp_region_below (by kernel_rfl) (by kernel_rfl) ?_; (repeat (refine wpQuiet_step (fun K hK => ?_); go_simp; first | (refine hK _ ?_; clear hK K) | (apply Exists.intro; refine ⟨fun wq hq => ?_, hK _ ?_⟩; (first | rfl | (skip; first | (go_simp; done) | (go_simp; rfl) | (go_at_call 36; refine (HC.out _ hq).mono ?_; rintro e w1 ⟨rfl, hb1⟩; exact ⟨rfl, Base.Below.nextA hq hb1⟩))); clear hK K))); refine wpQuiet_nil ?_; intro wq hq)
      have HB := Lib.hid hq
      go_wp2
      go_ret2
      first | exact SrcRet.no HE.out HB.out | exact SrcRet.yes HE.out (by decide) rfl HB.out
    · have HE : Hid (bitsQ fs 11 = 0) := Lib.hid (by unfold bitsQ; rw [if_pos HCH.out]; rfl)
      have e0 : ((Lib.bitLen 11 : Nat) : Int) - 1 = 3 := by decide
      have HD := Lib.hid (fun W => degree_of 11 (by decide) W)
      rw [e0] at HD
      clear e0
      go_enter Try.func88, Try.ntmps88
      go_wp2_with fail
      refine (HL.out _).mono ?_
      rintro e w1 ⟨rfl, rfl⟩
      go_wp2_with fail
      refine (HD.out _).mono ?_
      rintro e w1 ⟨rfl, rfl⟩
      go_wp2_with fail
      (refine wp_region_below (by kernel_rfl) (by kernel_rfl) ?_; (repeat (refine wpQuiet_step (fun K hK => ?_); go_simp; first | (refine hK _ ?_; clear hK K) | (apply Exists.intro; refine ⟨fun wq hq => ?_, hK _ ?_⟩; (first | rfl | (skip; first | (go_simp; done) | (go_simp; rfl) | (go_at_call 36; refine (HC.out _ hq).mono ?_; rintro e w1 ⟨rfl, hb1⟩; exact ⟨rfl, Base.Below.nextA hq hb1⟩))); clear hK K))); refine wpQuiet_nil ?_; intro wq hq)
      have HB := Lib.hid hq
      go_wp2
      go_ret2
      first | exact SrcRet.no HE.out HB.out | exact SrcRet.yes HE.out (by decide) rfl HB.out
    · have HE : Hid (bitsQ fs 12 = 0) := Lib.hid (by unfold bitsQ; rw [if_pos HCH.out]; rfl)
      have e0 : ((Lib.bitLen 12 : Nat) : Int) - 1 = 3 := by decide
      have HD := Lib.hid (fun W => degree_of 12 (by decide) W)
      rw [e0] at HD
      clear e0
      go_enter Try.func88, Try.ntmps88
      go_wp2_with fail
      refine (HL.out _).mono ?_
      rintro e w1 ⟨rfl, rfl⟩
      go_wp2_with fail
      refine (HD.out _).mono ?_
      rintro e w1 ⟨rfl, rfl⟩
      go_wp2_with fail
      (refine wp_region_below (by kernel_rfl) (by kernel_rfl) ?_; (repeat (refine wpQuiet_step (fun K hK => ?_); go_simp; first | (refine hK _ ?_; clear hK K) | (apply Exists.intro; refine ⟨fun wq hq => ?_, hK _ ?_⟩; (first | rfl | (skip; first | (go_simp; done) | (go_simp; rfl) | (go_at_call 36; refine (HC.out _ hq).mono ?_; rintro e w1 ⟨rfl, hb1⟩; exact ⟨rfl, Base.Below.nextA hq hb1⟩))); clear hK K))); refine wpQuiet_nil ?_; intro wq hq)
      have HB := Lib.hid hq
      go_wp2
      go_ret2
      first | exact SrcRet.no HE.out HB.out | exact SrcRet.yes HE.out (by decide) rfl HB.out
    · have HE : Hid (bitsQ fs 13 = 0) := Lib.hid (by unfold bitsQ; rw [if_pos HCH.out]; rfl)
      have e0 : ((Lib.bitLen 13 : Nat) : Int) - 1 = 3 := by decide
      have HD := Lib.hid (fun W => degree_of 13 (by decide) W)
      rw [e0] at HD
      clear e0
      go_enter Try.func88, Try.ntmps88
      go_wp2_with fail
      refine (HL.out _).mono ?_
      rintro e w1 ⟨rfl, rfl⟩
      go_wp2_with fail
      refine (HD.out _).mono ?_
      rintro e w1 ⟨rfl, rfl⟩
      go_wp2_with fail
      (refine wp_region_below (by kernel_rfl) (by kernel_rfl) ?_; (repeat (refine wpQuiet_step (fun K hK => ?_); go_simp; first | (refine hK _ ?_; clear hK K) | (apply Exists.intro; refine ⟨fun wq hq => ?_, hK _ ?_⟩; (first | rfl | (skip; first | (go_simp; done) | (go_simp; rfl) | (go_at_call 36; refine (HC.out _ hq).mono ?_; rintro e w1 ⟨rfl, hb1⟩; exact ⟨rfl, Base.Below.nextA hq hb1⟩))); clear hK K))); refine wpQuiet_nil ?_; intro wq hq)
      have HB := Lib.hid hq
      go_wp2
      go_ret2
      first | exact SrcRet.no HE.out HB.out | exact SrcRet.yes HE.out (by decide) rfl HB.out
    · have HE : Hid (bitsQ fs 14 = 0) := Lib.hid (by unfold bitsQ; rw [if_pos HCH.out]; rfl)
      have e0 : ((Lib.bitLen 14 : Nat) : Int) - 1 = 3 := by decide
      have HD := Lib.hid (fun W => degree_of 14 (by decide) W)
      rw [e0] at HD
      clear e0
      go_enter Try.func88, Try.ntmps88
      go_wp2_with fail
      refine (HL.out _).mono ?_
      rintro e w1 ⟨rfl, rfl⟩
      go_wp2_with fail
      refine (HD.out _).mono ?_
      rintro e w1 ⟨rfl, rfl⟩
      go_wp2_with fail
      (refine wp_region_below (by kernel_rfl) (by kernel_rfl) ?_; (repeat (refine wpQuiet_step (fun K hK => ?_); go_simp; first | (refine hK _ ?_; clear hK K) | (apply Exists.intro; refine ⟨fun wq hq => ?_, hK _ ?_⟩; (first | rfl | (skip; first | (go_simp; done) | (go_simp; rfl) | (go_at_call 36; refine (HC.out _ hq).mono ?_; rintro e w1 ⟨rfl, hb1⟩; exact ⟨rfl, Base.Below.nextA hq hb1⟩))); clear hK K))); refine wpQuiet_nil ?_; intro wq hq)
      have HB := Lib.hid hq
      go_wp2
      go_ret2
      first | exact SrcRet.no HE.out HB.out | exact SrcRet.yes HE.out (by decide) rfl HB.out
    · have HE : Hid (bitsQ fs 15 = 0) := Lib.hid (by unfold bitsQ; rw [if_pos HCH.out]; rfl)
      have e0 : ((Lib.bitLen 15 : Nat) : Int) - 1 = 3 := by decide
      have HD := Lib.hid (fun W => degree_of 15 (by decide) W)
      rw [e0] at HD
      clear e0
      go_enter Try.func88, Try.ntmps88
      go_wp2_with fail
      refine (HL.out _).mono ?_
      rintro e w1 ⟨rfl, rfl⟩
      go_wp2_with fail
      refine (HD.out _).mono ?_
      rintro e w1 ⟨rfl, rfl⟩
      go_wp2_with fail
      (refine wp_region_below (by kernel_rfl) (by kernel_rfl) ?_; (repeat (refine wpQuiet_step (fun K hK => ?_); go_simp; first | (refine hK _ ?_; clear hK K) | (apply Exists.intro; refine ⟨fun wq hq => ?_, hK _ ?_⟩; (first | rfl | (skip; first | (go_simp; done) | (go_simp; rfl) | (go_at_call 36; refine (HC.out _ hq).mono ?_; rintro e w1 ⟨rfl, hb1⟩; exact ⟨rfl, Base.Below.nextA hq hb1⟩))); clear hK K))); refine wpQuiet_nil ?_; intro wq hq)
      have HB := Lib.hid hq
      go_wp2
      go_ret2
      first | exact SrcRet.no HE.out HB.out | exact SrcRet.yes HE.out (by decide) rfl HB.out
    · have HE : Hid (bitsQ fs 16 = 4) := Lib.hid (by unfold bitsQ; rw [if_pos HCH.out]; rfl)
      have e0 : ((Lib.bitLen 16 : Nat) : Int) - 1 = 4 := by decide
      have HD := Lib.hid (fun W => degree_of 16 (by decide) W)
      rw [e0] at HD
      clear e0
      go_enter Try.func88, Try.ntmps88
      go_wp2_with fail
      refine (HL.out _).mono ?_
      rintro e w1 ⟨rfl, rfl⟩
      go_wp2_with fail
      refine (HD.out _).mono ?_
      rintro e w1 ⟨rfl, rfl⟩
      go_wp2_with fail
      (refine wp_region_below (by kernel_rfl) (by kernel_rfl) ?_; (repeat (refine wpQuiet_step (fun K hK => ?_); go_simp; first | (refine hK _ ?_; clear hK K) | (apply Exists.intro; refine ⟨fun wq hq => ?_, hK _ ?_⟩; (first | rfl | (skip; first | (go_simp; done) | (go_simp; rfl) | (go_at_call 36; refine (HC.out _ hq).mono ?_; rintro e w1 ⟨rfl, hb1⟩; exact ⟨rfl, Base.Below.nextA hq hb1⟩))); clear hK K))); refine wpQuiet_nil ?_; intro wq hq)
      have HB := Lib.hid hq
      go_wp2
      go_ret2
      first | exact SrcRet.no HE.out HB.out | exact SrcRet.yes HE.out (by decide) rfl HB.out
/-- whether rows are some for a source -/
def isE (xs fs : List Int) (n : Nat) : Bool := decide (bitsQ fs n ≠ 0) && (inR (xs.length : Int) 1 3 && AllIn.allInB xs 0 ((2 ^ bitsQ fs n : Nat) - 1 : Int))
set_option maxHeartbeats 4000000 in
set_option maxRecDepth 100000 in
theorem isE_any {A A' : Option Addr} {c c' B B' n : Nat} {fs xs : List Int} (w : World) (hx : RdF w B A n fs) (hB : B ≤ w.heap.size) (hn : n ≤ 1099511627776) (hy : RdI w B' A' xs) (hB' : B' ≤ w.heap.size) (hm : xs.length ≤ 9223372036854775807) :
    Calls Try.prog 57 #[.slice A' xs.length c', .slice A n c] w fun e w' => e = .returned (.bool (isE xs fs n)) ∧ Below w.heap.size w w' := by
  have HS := Lib.hid (src_any (c := c) w hx hB hn)
  have HL := Lib.hid (fun W => AllIn.lenI_any A' xs.length c' W hm)
  clear hx
  have hb4 := bitsQ_le fs n
  have h : bitsQ fs n = 0 ∨ bitsQ fs n = 1 ∨ bitsQ fs n = 2 ∨ bitsQ fs n = 3 ∨ bitsQ fs n = 4 := by omega
  rcases h with h | h | h | h | h
  · have HE : Hid (isE xs fs n = false) := Lib.hid (by unfold isE; rw [h]; rfl)
    have HK := Lib.hid h
    clear h hb4
    go_enter Try.func57, Try.ntmps57
    go_wp2_with fail
    refine HS.out.mono ?_
    rintro e w1 ⟨d, rfl, hd, hb1⟩
    have HB1 := Lib.hid hb1
    rw [HK.out] at *
    clear hd hb1
    go_wp2
    go_ret
    exact ⟨by rw [HE.out]; rfl, HB1.out⟩
  · have HE : Hid (isE xs fs n = (inR (xs.length : Int) 1 3 && AllIn.allInB xs 0 (2 - 1))) := Lib.hid (by unfold isE; rw [h]; rfl)
    have HK := Lib.hid h
    clear h hb4
    · have HI := Lib.hid (fun W (h : Below w.heap.size w W) => AllIn.allIn_any A' c' B' xs 0 (2 - 1) W (hy.below h hB') (Nat.le_trans hB' h.size) hm)
      clear hy
      go_enter Try.func57, Try.ntmps57
      go_wp2_with fail
      refine HS.out.mono ?_
      rintro e w1 ⟨d, rfl, hd, hb1⟩
      have HB1 := Lib.hid hb1
      rw [HK.out] at hd
      obtain rfl := hd (by decide)
      rw [HK.out] at *
      clear hd hb1
      go_wp2_with fail
      refine (HL.out _).mono ?_
      rintro e w2 ⟨rfl, rfl⟩
      go_wp2_with fail
      refine (inRange_any _ _ _ _).mono ?_
      rintro e w2 ⟨rfl, rfl⟩
      cases hr : inR (xs.length : Int) 1 3 with
      | false =>
        rw [hr] at HE
        go_wp2
        go_ret
        exact ⟨ret_bool HE.out.symm, HB1.out⟩
      | true =>
        rw [hr] at HE
        go_wp2_with fail
        refine (HI.out _ HB1.out).mono ?_
        rintro e w2 ⟨rfl, hb2⟩
        have HB2 := Lib.hid (Base.Below.nextA HB1.out hb2)
        clear hb2
        go_wp2
        go_ret
        exact ⟨ret_bool HE.out.symm, HB2.out⟩
  · have HE : Hid (isE xs fs n = (inR (xs.length : Int) 1 3 && AllIn.allInB xs 0 (4 - 1))) := Lib.hid (by unfold isE; rw [h]; rfl)
    have HK := Lib.hid h
    clear h hb4
    · have HI := Lib.hid (fun W (h : Below w.heap.size w W) => AllIn.allIn_any A' c' B' xs 0 (4 - 1) W (hy.below h hB') (Nat.le_trans hB' h.size) hm)
      clear hy
      go_enter Try.func57, Try.ntmps57
      go_wp2_with fail
      refine HS.out.mono ?_
      rintro e w1 ⟨d, rfl, hd, hb1⟩
      have HB1 := Lib.hid hb1
      rw [HK.out] at hd
      obtain rfl := hd (by decide)
      rw [HK.out] at *
      clear hd hb1
      go_wp2_with fail
      refine (HL.out _).mono ?_
      rintro e w2 ⟨rfl, rfl⟩
      go_wp2_with fail
      refine (inRange_any _ _ _ _).mono ?_
      rintro e w2 ⟨rfl, rfl⟩
      cases hr : inR (xs.length : Int) 1 3 with
      | false =>
        rw [hr] at HE
        go_wp2
        go_ret
        exact ⟨ret_bool HE.out.symm, HB1.out⟩
      | true =>
        rw [hr] at HE
        go_wp2_with fail
        refine (HI.out _ HB1.out).mono ?_
        rintro e w2 ⟨rfl, hb2⟩
        have HB2 := Lib.hid (Base.Below.nextA HB1.out hb2)
        clear hb2
        go_wp2
        go_ret
        exact ⟨ret_bool HE.out.symm, HB2.out⟩
  · have HE : Hid (isE xs fs n = (inR (xs.length : Int) 1 3 && AllIn.allInB xs 0 (8 - 1))) := Lib.hid (by unfold isE; rw [h]; rfl)
    have HK := Lib.hid h
    clear h hb4
    · have HI := Lib.hid (fun W (h : Below w.heap.size w W) => AllIn.allIn_any A' c' B' xs 0 (8 - 1) W (hy.below h hB') (Nat.le_trans hB' h.size) hm)
      clear hy
      go_enter Try.func57, Try.ntmps57
      go_wp2_with fail
      refine HS.out.mono ?_
      rintro e w1 ⟨d, rfl, hd, hb1⟩
      have HB1 := Lib.hid hb1
      rw [HK.out] at hd
      obtain rfl := hd (by decide)
      rw [HK.out] at *
      clear hd hb1
      go_wp2_with fail
      refine (HL.out _).mono ?_
      rintro e w2 ⟨rfl, rfl⟩
      go_wp2_with fail
      refine (inRange_any _ _ _ _).mono ?_
      rintro e w2 ⟨rfl, rfl⟩
      cases hr : inR (xs.length : Int) 1 3 with
      | false =>
        rw [hr] at HE
        go_wp2
        go_ret
        exact ⟨ret_bool HE.out.symm, HB1.out⟩
      | true =>
        rw [hr] at HE
        go_wp2_with fail
        refine (HI.out _ HB1.out).mono ?_
        rintro e w2 ⟨rfl, hb2⟩
        have HB2 := Lib.hid (Base.Below.nextA HB1.out hb2)
        clear hb2
        go_wp2
        go_ret
        exact ⟨ret_bool HE.out.symm, HB2.out⟩
  · have HE : Hid (isE xs fs n = (inR (xs.length : Int) 1 3 && AllIn.allInB xs 0 (16 - 1))) := Lib.hid (by unfold isE; rw [h]; rfl)
    have HK := Lib.hid h
    clear h hb4
    · have HI := Lib.hid (fun W (h : Below w.heap.size w W) => AllIn.allIn_any A' c' B' xs 0 (16 - 1) W (hy.below h hB') (Nat.le_trans hB' h.size) hm)
      clear hy
      go_enter Try.func57, Try.ntmps57
      go_wp2_with fail
      refine HS.out.mono ?_
      rintro e w1 ⟨d, rfl, hd, hb1⟩
      have HB1 := Lib.hid hb1
      rw [HK.out] at hd
      obtain rfl := hd (by decide)
      rw [HK.out] at *
      clear hd hb1
      go_wp2_with fail
      refine (HL.out _).mono ?_
      rintro e w2 ⟨rfl, rfl⟩
      go_wp2_with fail
      refine (inRange_any _ _ _ _).mono ?_
      rintro e w2 ⟨rfl, rfl⟩
      cases hr : inR (xs.length : Int) 1 3 with
      | false =>
        rw [hr] at HE
        go_wp2
        go_ret
        exact ⟨ret_bool HE.out.symm, HB1.out⟩
      | true =>
        rw [hr] at HE
        go_wp2_with fail
        refine (HI.out _ HB1.out).mono ?_
        rintro e w2 ⟨rfl, hb2⟩
        have HB2 := Lib.hid (Base.Below.nextA HB1.out hb2)
        clear hb2
        go_wp2
        go_ret
        exact ⟨ret_bool HE.out.symm, HB2.out⟩
end Go.Proofs.Ytionognmgcabbaa.Ratio
/- Plain: what is known where rows are some for a source. -/
namespace Go.Proofs.Ytionognmgcabbaa.ExtM
open Go.RowKit Go.Proofs.Ytionognmgcabbaa Go.Proofs.Ytionognmgcabbaa.Base Go.Proofs.Ytionognmgcabbaa.RatM Go.Proofs.Ytionognmgcabbaa.GaussM Go.Proofs.Ytionognmgcabbaa.ChM Go.Proofs.Ytionognmgcabbaa.RowN Go.Proofs.Ytionognmgcabbaa.Ratio Go.Proofs.Ytionognmgcabbaa.GiveM
set_option linter.unusedVariables false
theorem chB_all {fs : List Int} {n : Nat} (h : chB fs n = true) : AllVF fs n := by
  unfold chB at h
  simp only [Bool.and_eq_true] at h
  exact vfAll_true.1 h.2.2.1
theorem isE_true {xs fs : List Int} {n : Nat} (h : isE xs fs n = true) : AllVF fs n ∧ n ≤ 16 ∧ 1 ≤ xs.length ∧ xs.length ≤ 3 ∧ (∀ i, i < xs.length → 0 ≤ xs.getD i 0 ∧ xs.getD i 0 ≤ 15) ∧ bitsQ fs n ≠ 0 ∧ inR (xs.length : Int) 1 3 = true ∧ AllIn.allInB xs 0 ((2 ^ bitsQ fs n : Nat) - 1 : Int) = true := by
  unfold isE at h
  simp only [Bool.and_eq_true, decide_eq_true_eq] at h
  obtain ⟨h1, h2, h3⟩ := h
  obtain ⟨g1, g2, g3⟩ := bitsQ_pos h1
  have h4 := bitsQ_le fs n
  have h5 := inR_true h2
  refine ⟨chB_all g1, (chB_range g1).2, by omega, by omega, fun i hi => ?_, h1, h2, h3⟩
  have h6 := AllIn.allInB_true h3 i hi
  have h7 : (2 : Nat) ^ bitsQ fs n ≤ 2 ^ 4 := Nat.pow_le_pow_right (by decide) h4
  refine ⟨h6.1, Int.le_trans h6.2 ?_⟩
  omega
/-- what is returned -/
def extN (xs fs : List Int) (n : Nat) : Nat := if isE xs fs n then gN (exQ xs fs n) (2 ^ xs.length) else 0
def extR (xs fs : List Int) (n : Nat) : List Int := if isE xs fs n then gR (exQ xs fs n) (2 ^ xs.length) else []
def extB (xs fs : List Int) (n : Nat) : Bool := if isE xs fs n then smallAll (exQ xs fs n) (2 ^ xs.length) else false
theorem pow_len {k : Nat} (h : k ≤ 3) : 2 ^ k ≤ 8 := Nat.pow_le_pow_right (n := 2) (by decide) h
theorem extN_le (xs fs : List Int) (n : Nat) : extN xs fs n ≤ 8 := by
  unfold extN
  split
  · rename_i h
    obtain ⟨_, _, _, h3, _⟩ := isE_true h
    exact Nat.le_trans (gN_le _ _) (pow_len h3)
  · omega
theorem ext_yes {xs fs : List Int} {n : Nat} (h : isE xs fs n = true) : extN xs fs n = gN (exQ xs fs n) (2 ^ xs.length) ∧ extR xs fs n = gR (exQ xs fs n) (2 ^ xs.length) ∧ extB xs fs n = smallAll (exQ xs fs n) (2 ^ xs.length) := by
  unfold extN extR extB
  simp only [h, if_true, and_self]
theorem ext_no {xs fs : List Int} {n : Nat} (h : isE xs fs n = false) : extN xs fs n = 0 ∧ extR xs fs n = [] ∧ extB xs fs n = false := by
  unfold extN extR extB
  simp [h]
end Go.Proofs.Ytionognmgcabbaa.ExtM
/- The program: what rows make of a source. -/
namespace Go.Proofs.Ytionognmgcabbaa.Ratio
open Go.RowKit Go.Proofs.Ytionognmgcabbaa Go.Proofs.Ytionognmgcabbaa.Base Go.Proofs.Ytionognmgcabbaa.Mem Go.Proofs.Ytionognmgcabbaa.NatM Go.Proofs.Ytionognmgcabbaa.Nat32 Go.Proofs.Ytionognmgcabbaa.RatM Go.Proofs.Ytionognmgcabbaa.Blk Go.Proofs.Ytionognmgcabbaa.MemF Go.Proofs.Ytionognmgcabbaa.ChM Go.Proofs.Ytionognmgcabbaa.GaussM Go.Proofs.Ytionognmgcabbaa.ExtM Go.Proofs.Ytionognmgcabbaa.RowN
open Go.Proofs.Ytionognmgcabbaa.Inv (natOf natOf_eq len_pos Rat3 not_slice not_bool frz)
set_option linter.unusedVariables false
/-- a list of one ratio -/
def OneR (q : Rat) (v : Value) (w : World) : Prop := ∃ b s A1 k1 c1 A2 k2 c2, v = .slice (some ⟨b, 0, none⟩) 1 1 ∧ b < w.heap.size ∧ w.cell? ⟨b, 0, none⟩ = some (.bool s) ∧ w.cell? ⟨b, 1, none⟩ = some (.slice A1 k1 c1) ∧ w.cell? ⟨b, 2, none⟩ = some (.slice A2 k2 c2) ∧ IsRt w q (.agg #[.bool s, .slice A1 k1 c1, .slice A2 k2 c2])
theorem oneR_mono (q : Rat) : Rel.Mono (fun v w => OneR q v w) := fun v w w' h hb => by
  obtain ⟨b, s, A1, k1, c1, A2, k2, c2, e, hlt, x0, x1, x2, hI⟩ := h
  exact ⟨b, s, A1, k1, c1, A2, k2, c2, e, Nat.lt_of_lt_of_le hlt hb.size, (hb.cell (p := ⟨b, 0, none⟩) hlt).trans x0, (hb.cell (p := ⟨b, 1, none⟩) hlt).trans x1, (hb.cell (p := ⟨b, 2, none⟩) hlt).trans x2, hI.below hb⟩
theorem OneR.new {q : Rat} {s : Bool} {A1 A2 : Option Addr} {k1 c1 k2 c2 : Nat} {w : World} {t : TypeId} (h : IsRt w q (.agg #[.bool s, .slice A1 k1 c1, .slice A2 k2 c2])) : OneR q (.slice (some ⟨w.heap.size, 0, none⟩) 1 1) (w.alloc (.cells #[.bool s, .slice A1 k1 c1, .slice A2 k2 c2] t)) ∧ Below w.heap.size w (w.alloc (.cells #[.bool s, .slice A1 k1 c1, .slice A2 k2 c2] t)) := by
  have hb : Below w.heap.size w (w.alloc (.cells #[.bool s, .slice A1 k1 c1, .slice A2 k2 c2] t)) := (Below.refl _ _).alloc (Nat.le_refl _) _
  have K := Blk.new w t #[.bool s, .slice A1 k1 c1, .slice A2 k2 c2]
  exact ⟨⟨_, s, A1, k1, c1, A2, k2, c2, rfl, K.lt, K.at 0 rfl, K.at 1 rfl, K.at 2 rfl, h.below hb⟩, hb⟩
/-- a new block of alike ratios -/
def NewRow (B N : Nat) (q : Rat) (v : Value) (w : World) : Prop := ∃ g cs, v = .slice (some ⟨g, 0, none⟩) N N ∧ RowR w g N (fun _ => q) cs ∧ B ≤ g
theorem newRow_mono (B N : Nat) (q : Rat) : Rel.Mono (fun v w => NewRow B N q v w) := fun v w w' h hb => by
  obtain ⟨g, cs, e, hR, hB⟩ := h
  exact ⟨g, cs, e, hR.below hb, hB⟩
/-- a block of ratios that is returned -/
def RowRet (N : Nat) (f : Nat → Rat) (w : World) (e : Ending) (w' : World) : Prop := ∃ g cs, e = .returned (.slice (some ⟨g, 0, none⟩) N N) ∧ RowR w' g N f cs ∧ w.heap.size ≤ g ∧ Below w.heap.size w w'
def ExRel (xs fs : List Int) (n N g : Nat) (w : World) (iv : Value) (wr : World) : Prop :=
  ∃ (i : Nat) (cs : Array Value), iv = .int .i64 (i : Int) ∧ i ≤ n ∧ Hid (RowR wr g N (exQ xs fs i) cs) ∧ Hid (Below w.heap.size w wr)
theorem exQ_step {xs fs : List Int} {i k : Nat} (hk : rowK xs i xs.length = k) : (fun y => if y = k then exQ xs fs i k + fq fs i else exQ xs fs i y) = exQ xs fs (i + 1) := by
  funext y
  by_cases e : y = k
  · subst e; rw [if_pos rfl, exQ_hit hk]
  · rw [if_neg e, exQ_miss (fun h => e (h.symm.trans hk))]
theorem exQ_zero (xs fs : List Int) : (fun _ => (0 : Rat)) = exQ xs fs 0 := by funext y; rfl
set_option maxHeartbeats 1000000 in
set_option maxRecDepth 100000 in
theorem extI_any {A A' : Option Addr} {c c' B' n : Nat} {fs xs : List Int} (w : World) (hx : RdR w A n (fq fs)) (hv : AllVF fs n) (hn : n ≤ 16) (hy : RdI w B' A' xs) (hB' : B' ≤ w.heap.size) (h1 : 1 ≤ xs.length) (h3 : xs.length ≤ 3) (hr : ∀ i, i < xs.length → 0 ≤ xs.getD i 0 ∧ xs.getD i 0 ≤ 15) :
    Calls Try.prog 58 #[.slice A' xs.length c', .slice A n c] w (RowRet (2 ^ xs.length) (exQ xs fs n) w) := by
  have hN := pow_len h3
  have hN1 : 1 ≤ 2 ^ xs.length := Nat.pow_pos (by decide)
  have HK := Lib.hid (fun x => rowK_lt xs x xs.length h3)
  have hp : (2 : Int) ^ xs.length = ((2 ^ xs.length : Nat) : Int) := by simp
  have HAP := Lib.hid (fun W x (hb : Below w.heap.size w W) (hx16 : x < 16) => apply_any (c := c') (x := x) W (hy.below hb hB') h3 hr hx16)
  have HX := Lib.hid hx
  have HV := Lib.hid hv
  clear hx hv hy hr
  generalize 2 ^ xs.length = N at *
  have HN : Hid (1 ≤ N ∧ N ≤ 1000) := Lib.hid ⟨hN1, by omega⟩
  have hws : IntKind.i64.wrap ((2 : Int) ^ xs.length) = (N : Int) := by rw [hp, IntKind.wrap_i64]; omega
  clear hp
  go_enter Try.func58, Try.ntmps58
  go_upto_region 1 with (fail)
  refine Rel.wp_region_rel 6 (by kernel_rfl) (by kernel_rfl) (fun F hF => ?_)
  simp only [List.take_succ_cons, List.take_zero, List.drop_succ_cons, List.drop_zero, Rel.putL] at hF ⊢
  have HF := Lib.hid hF
  clear hF
  have uv := @Rel.upon_value Try.prog
  have ue := @Rel.upon_enter Try.prog
  refine Rel.rel_law (S := fun v w' => IsRt w' 0 v) (isRt_mono _) (fun vs wq hq hdp => ?_) ?_
  · (rw [HF.out, Rel.stepAt_eq]; clear hdp; skip; go_simp; exact whole_rt 0 0 (by decide) ⟨rfl, rfl, by decide⟩ _)
  refine Rel.rel_law (S := fun v w' => OneR 0 v w') (oneR_mono _) (fun vs wq hq hdp => ?_) ?_
  · (rw [HF.out, Rel.stepAt_eq]; have qd0 : IsRt wq _ (vs 0) := Rel.dep hdp 0 (by kernel_rfl); clear hdp; obtain ⟨s0, A1, k1, c1, A2, k2, c2, ev, hI⟩ := qd0.open; go_simp; exact OneR.new hI)
  apply Rel.rel_pure
  apply Exists.intro
  refine ⟨fun vs wq hq hdp R hR => ?_, ?_⟩
  · (rw [HF.out, Rel.stepAt_eq]; clear hdp; skip; go_simp; exact hR)
  apply Rel.rel_pure
  apply Exists.intro
  refine ⟨fun vs wq hq hdp R hR => ?_, ?_⟩
  · (rw [HF.out, Rel.stepAt_eq]; have qd2 : vs 2 = _ := Rel.dep hdp 2 (by kernel_rfl); clear hdp; skip; go_simp; exact hR)
  apply Rel.rel_pure
  apply Exists.intro
  refine ⟨fun vs wq hq hdp R hR => ?_, ?_⟩
  · (rw [HF.out, Rel.stepAt_eq]; have qd3 : vs 3 = _ := Rel.dep hdp 3 (by kernel_rfl); clear hdp; skip; go_simp; exact hR)
  refine Rel.rel_law (S := fun v w' => NewRow w.heap.size N 0 v w') (newRow_mono _ _ _) (fun vs wq hq hdp => ?_) ?_
  · (rw [HF.out, Rel.stepAt_eq]; have qd1 : OneR _ (vs 1) wq := Rel.dep hdp 1 (by kernel_rfl); have qd4 : vs 4 = _ := Rel.dep hdp 4 (by kernel_rfl); clear hdp; obtain ⟨b, s0, A1, k1, c1, A2, k2, c2, ev, hb, y0, y1, y2, hI⟩ := qd1; go_simp; refine (repeat_any wq y0 y1 y2 hb hI HN.out.1 HN.out.2).mono ?_; rintro e w7 ⟨cs, rfl, hR, hb7⟩; exact ⟨_, rfl, ⟨_, cs, rfl, hR, hq.size⟩, hb7⟩)
  refine Rel.rel_end (fun vs wq hq hall => ?_)
  rw [HF.out]
  have qe0 : IsRt wq _ (vs 0) := Rel.fin hall 0 (by decide)
  have qe1 : OneR _ (vs 1) wq := Rel.fin hall 1 (by decide)
  have qe2 : vs 2 = _ := Rel.fin hall 2 (by decide)
  have qe3 : vs 3 = _ := Rel.fin hall 3 (by decide)
  have qe4 : vs 4 = _ := Rel.fin hall 4 (by decide)
  have qe5 : NewRow _ _ _ (vs 5) wq := Rel.fin hall 5 (by decide)
  clear hall HF uv ue
  obtain ⟨g, cs, ev, hR, hgB⟩ := qe5
  have H0 : Hid (ExRel xs fs n N g w (.int .i64 0) wq) := Lib.hid ⟨0, cs, rfl, Nat.zero_le _, Lib.hid (by rw [← exQ_zero]; exact hR), Lib.hid hq⟩
  clear hR qe0 qe1 hq hws
  go_wp2
  go_loopw [17] (fun iv wr => ExRel xs fs n N g w iv wr) (fun iv _ => n - (intOf iv).toNat)
  case atStart => exact H0.out
  case round =>
    obtain ⟨i, cs, rfl, hi, HRr, HB⟩ := hrel
    clear H0
    by_cases hlt : i < n
    · obtain ⟨ga, s2, B1, j1, e1, B2, j2, e2, rfl, hgl, y0, y1, y2, hpj⟩ := (HX.out.below HB.out).at hlt
      obtain ⟨k, hk⟩ : ∃ k, k = rowK xs i xs.length := ⟨_, rfl⟩
      have hkN : k < N := by rw [hk]; exact HK.out i
      obtain ⟨s, A1, k1, c1, A2, k2, c2, hx0, hx1, hx2, hI⟩ := HRr.out.els k hkN
      have HS := Lib.hid (exQ_step (fs := fs) hk.symm)
      have HZ : Hid (szR (exQ xs fs i k) ≤ 200000 ∧ szR (fq fs i) ≤ 200000) := Lib.hid (by
        have z1 := dgb_sz (dgb_exQ (xs := xs) (y := k) (AllVF.less HV.out (Nat.le_of_lt hlt)) (by omega))
        have z2 := dgb_sz (dgb_vf (HV.out i hlt))
        exact ⟨by omega, by rw [show fq fs i = qf (fs.getD (2 * i) 0) (fs.getD (2 * i + 1) 0) from rfl]; omega⟩)
      have HAQ := Lib.hid (fun W (hb : Below w.heap.size w W) => HAP.out W i hb (by omega))
      rw [← hk] at HAQ
      clear hk
      go_upto_region 5 with (fail)
      obtain ⟨W1, hW1⟩ : ∃ W1, W1 = wr.alloc (.cells #[.bool s2, .slice B1 j1 e1, .slice B2 j2 e2] 89) := ⟨_, rfl⟩
      rw [← hW1]
      obtain ⟨g5, hg5⟩ : ∃ g5, g5 = wr.heap.size := ⟨_, rfl⟩
      rw [← hg5]
      have KF : Hid (Blk W1 g5 89 #[.bool s2, .slice B1 j1 e1, .slice B2 j2 e2]) := Lib.hid (by rw [hW1, hg5]; exact Blk.new wr _ _)
      have hbw : Below wr.heap.size wr W1 := by rw [hW1]; exact (Below.refl _ _).alloc (Nat.le_refl _) _
      have HR := Lib.hid (HRr.out.below hbw)
      have HI := Lib.hid (hI.below hbw)
      have HJ := Lib.hid (hpj.below hbw)
      have HB1 := Lib.hid (Base.Below.nextA HB.out hbw)
      have HA := Lib.hid (HAQ.out W1 HB1.out)
      clear hW1 hg5 hbw HRr hI hpj HB y0 y1 y2 hgl HAQ
      generalize hq0 : exQ xs fs i k = q0 at *
      have HQ0 := Lib.hid hq0
      clear hq0
      generalize fq fs i = r at *
      go_wp2_with fail
      refine HA.out.mono ?_
      rintro e w1 ⟨rfl, rfl⟩
      clear HA
      go_upto_region 6 with (fail)
      refine Rel.wp_region_rel 9 (by kernel_rfl) (by kernel_rfl) (fun F hF => ?_)
      simp only [List.take_succ_cons, List.take_zero, List.drop_succ_cons, List.drop_zero, Rel.putL] at hF ⊢
      have HF := Lib.hid hF
      clear hF
      have uv := @Rel.upon_value Try.prog
      have ue := @Rel.upon_enter Try.prog
      apply Rel.rel_pure
      apply Exists.intro
      refine ⟨fun vs wq hq hdp R hR => ?_, ?_⟩
      · (rw [HF.out, Rel.stepAt_eq]; clear hdp; skip; go_simp; exact hR)
      apply Rel.rel_pure
      apply Exists.intro
      refine ⟨fun vs wq hq hdp R hR => ?_, ?_⟩
      · (rw [HF.out, Rel.stepAt_eq]; clear hdp; skip; go_simp; exact hR)
      apply Rel.rel_pure
      apply Exists.intro
      refine ⟨fun vs wq hq hdp R hR => ?_, ?_⟩
      · (rw [HF.out, Rel.stepAt_eq]; clear hdp; skip; go_simp; exact hR)
      apply Rel.rel_pure
      apply Exists.intro
      refine ⟨fun vs wq hq hdp R hR => ?_, ?_⟩
      · (rw [HF.out, Rel.stepAt_eq]; clear hdp; skip; go_simp; exact hR)
      apply Rel.rel_pure
      apply Exists.intro
      refine ⟨fun vs wq hq hdp R hR => ?_, ?_⟩
      · (rw [HF.out, Rel.stepAt_eq]; have qd2 : vs 2 = _ := Rel.dep hdp 2 (by kernel_rfl); have qd3 : vs 3 = _ := Rel.dep hdp 3 (by kernel_rfl); clear hdp; skip; go_simp; exact hR)
      apply Rel.rel_pure
      apply Exists.intro
      refine ⟨fun vs wq hq hdp R hR => ?_, ?_⟩
      · (rw [HF.out, Rel.stepAt_eq]; have qd4 : vs 4 = _ := Rel.dep hdp 4 (by kernel_rfl); clear hdp; have x0 := (HR.out.below hq).blk.at (k * 3) hx0; have x1 := (HR.out.below hq).blk.at (k * 3 + 1) hx1; have x2 := (HR.out.below hq).blk.at (k * 3 + 2) hx2; go_simp; exact hR)
      apply Rel.rel_pure
      apply Exists.intro
      refine ⟨fun vs wq hq hdp R hR => ?_, ?_⟩
      · (rw [HF.out, Rel.stepAt_eq]; clear hdp; have y0 := (KF.out.belowS hq).at 0 (v := .bool s2) rfl; have y1 := (KF.out.belowS hq).at 1 (v := .slice B1 j1 e1) rfl; have y2 := (KF.out.belowS hq).at 2 (v := .slice B2 j2 e2) rfl; go_simp; exact hR)
      refine Rel.rel_law (S := fun v w' => IsRt w' (q0 + r) v) (isRt_mono _) (fun vs wq hq hdp => ?_) ?_
      · (rw [HF.out, Rel.stepAt_eq]; have qd5 : vs 5 = _ := Rel.dep hdp 5 (by kernel_rfl); have qd6 : vs 6 = _ := Rel.dep hdp 6 (by kernel_rfl); clear hdp; skip; go_simp; refine (ratPlus wq (HI.out.below hq) (HJ.out.below hq) HZ.out.1 HZ.out.2).mono ?_; rintro e w7 h; obtain ⟨v, rfl, hv, hb⟩ := h.is; exact ⟨_, rfl, hv, hb⟩)
      apply Rel.rel_pure
      apply Exists.intro
      refine ⟨fun vs wq hq hdp R hR => ?_, ?_⟩
      · (rw [HF.out, Rel.stepAt_eq]; have qd0 : vs 0 = _ := Rel.dep hdp 0 (by kernel_rfl); have qd1 : vs 1 = _ := Rel.dep hdp 1 (by kernel_rfl); clear hdp; skip; go_simp; exact hR)
      refine Rel.rel_end (fun vs wq hq hall => ?_)
      rw [HF.out]
      have qe0 : vs 0 = _ := Rel.fin hall 0 (by decide)
      have qe1 : vs 1 = _ := Rel.fin hall 1 (by decide)
      have qe2 : vs 2 = _ := Rel.fin hall 2 (by decide)
      have qe3 : vs 3 = _ := Rel.fin hall 3 (by decide)
      have qe4 : vs 4 = _ := Rel.fin hall 4 (by decide)
      have qe5 : vs 5 = _ := Rel.fin hall 5 (by decide)
      have qe6 : vs 6 = _ := Rel.fin hall 6 (by decide)
      have qe7 : IsRt wq _ (vs 7) := Rel.fin hall 7 (by decide)
      have qe8 : vs 8 = _ := Rel.fin hall 8 (by decide)
      clear hall HF uv ue
      obtain ⟨t, C1, m1, l1, C2, m2, l2, ev2, hI2⟩ := qe7.open
      have HRq := HR.out.below hq
      obtain ⟨cs', hput⟩ := HRq.put hkN hI2
      have HN2 : Hid (ExRel xs fs n N g w (.int .i64 ((i : Int) + 1)) (put3o wq g (k * 3) (.bool t) (.slice C1 m1 l1) (.slice C2 m2 l2))) := Lib.hid
        ⟨i + 1, cs', by simp, hlt, Lib.hid (by rw [← HS.out]; exact hput), Lib.hid (put3o_below (Base.Below.nextA HB1.out hq) hgB _ _ _)⟩
      have z0 := HRq.blk.frz (k * 3)
      have z1 := HRq.blk.frz (k * 3 + 1)
      have z2 := HRq.blk.frz (k * 3 + 2)
      have d0 := HRq.blk.at (k * 3) hx0
      have d1 := HRq.blk.at (k * 3 + 1) hx1
      have d2 := HRq.blk.at (k * 3 + 2) hx2
      unfold put3o at HN2
      clear HRq hput hI2 qe7 hq hx0 hx1 hx2 HR KF HI HJ HB1 HZ HS qe0 qe1 qe2 qe3 qe4 qe5 qe6
      go_wp2
      go_roundw
      case rel => exact HN2.out
      case measure => simp [intOf]; omega
    · obtain rfl : i = n := by omega
      have HE : Hid (RowRet N (exQ xs fs i) w (.returned (.slice (some ⟨g, 0, none⟩) N N)) wr) := Lib.hid ⟨g, cs, rfl, HRr.out, hgB, HB.out⟩
      clear HRr HB
      go_wp2
      go_ret
      exact HE.out
end Go.Proofs.Ytionognmgcabbaa.Ratio

/- Numbers inverted at the point: the program's inverse and the law. -/
import Derived.Test.YtjkcdnfmmfpbjaaInvR
import Derived.Test.YtjkcdnfmmfpbjaaMemF
namespace Go.Proofs.Ytjkcdnfmmfpbjaa.Inv
open Go.RowKit Go.Proofs.Ytjkcdnfmmfpbjaa Go.Proofs.Ytjkcdnfmmfpbjaa.Base Go.Proofs.Ytjkcdnfmmfpbjaa.Mem Go.Proofs.Ytjkcdnfmmfpbjaa.NatM Go.Proofs.Ytjkcdnfmmfpbjaa.Nat32
set_option linter.unusedVariables false
theorem frac_bd {v u : Nat} (hv : v < u) (hu : u ≤ 36000000) : v / Nat.gcd v u ≤ 36000000 ∧ u / Nat.gcd v u ≤ 36000000 :=
  ⟨Nat.le_trans (Nat.div_le_self _ _) (by omega), Nat.le_trans (Nat.div_le_self _ _) hu⟩
set_option maxHeartbeats 1000000 in
theorem inverted_any (n b : Nat) (hn : n ≤ 1000000) (hb : 2 ≤ b) (hb' : b ≤ 36) (w : World) : Calls Try.prog 43 #[.int .i64 (n : Int), .int .i64 (b : Int)] w fun e w' => e = .returned (fracV (invV n b) (invU n b)) ∧ Below w.heap.size w w' := by
  have H0 := Lib.hid (InvSt.start (b := b) hn)
  generalize invV n b = X at *
  generalize invU n b = Y at *
  go_enter Try.func43, Try.ntmps43
  go_wp2
  go_loop [0, 5, 6] (fun nv vv uv => ∃ n v u : Nat, nv = .int .i64 (n : Int) ∧ vv = .int .i64 (v : Int) ∧ uv = .int .i64 (u : Int) ∧ Hid (InvSt b n v u X Y)) (fun nv _ _ => (intOf nv).toNat)
  case atStart => exact ⟨n, 0, 1, rfl, rfl, rfl, H0⟩
  case round =>
    obtain ⟨m, v, u, rfl, rfl, rfl, hst⟩ := hrel
    clear H0
    by_cases hpos : 0 < m
    · have hN := Lib.hid (hst.out.next hpos hb hb')
      have hu := hst.out.small hpos
      have hv := hst.out.2.2.2
      have hm : m ≤ 1000000 := Nat.le_trans (Nat.le_mul_of_pos_left m (by omega)) hst.out.2.1
      have e1 : (m : Int) % (b : Int) = ((m % b : Nat) : Int) := by simp
      have e2 : (m : Int) / (b : Int) = ((m / b : Nat) : Int) := by simp
      have l1 : m % b < b := Nat.mod_lt _ (by omega)
      have l2 : m / b < m := Nat.div_lt_self hpos hb
      obtain ⟨P, hP⟩ : ∃ P, v * b = P := ⟨_, rfl⟩
      obtain ⟨R, hR⟩ : ∃ R, u * b = R := ⟨_, rfl⟩
      have hPl : P ≤ 36000000 := by rw [← hP]; exact Nat.le_trans (Nat.mul_le_mul (show v ≤ 1000000 by omega) hb') (by decide)
      have hRl : R ≤ 36000000 := by rw [← hR]; exact Nat.le_trans (Nat.mul_le_mul hu hb') (by decide)
      have e3 : (v : Int) * (b : Int) = (P : Int) := by rw [← hP]; simp
      have e4 : (u : Int) * (b : Int) = (R : Int) := by rw [← hR]; simp
      rw [hP, hR] at hN
      clear hP hR
      generalize m % b = r at *
      generalize m / b = q at *
      go_wp2
      go_round
      case rel => exact ⟨q, P + r, R, by first | rfl | rw [e2], by first | rfl | (rw [e1]; rfl) | (go_num), rfl, hN⟩
      case measure => simp [intOf]; omega
    · obtain rfl : m = 0 := by omega
      obtain ⟨rfl, rfl, h3, h4⟩ := hst.out.done
      obtain ⟨W0, hW0⟩ : ∃ W0, W0 = w.alloc (.cells #[.int .i64 0, .int .i64 0] 23) := ⟨_, rfl⟩
      have hB0 : Below w.heap.size w W0 := by rw [hW0]; exact (Below.refl _ _).alloc (Nat.le_refl _) _
      have hz0 : W0.heap.size = w.heap.size + 1 := by rw [hW0]; simp
      have x0 : W0.cell? ⟨w.heap.size, 0, none⟩ = some (.int .i64 0) := by rw [hW0]; exact World.cell?_alloc_new w _ _ 0
      have x1 : W0.cell? ⟨w.heap.size, 1, none⟩ = some (.int .i64 0) := by rw [hW0]; exact World.cell?_alloc_new w _ _ 1
      have f0 : W0.frozen? ⟨w.heap.size, 0, none⟩ = false := by rw [hW0]; simp
      have f1 : W0.frozen? ⟨w.heap.size, 1, none⟩ = false := by rw [hW0]; simp
      have HQ := Lib.hid (quotient_any v u W0 (by omega) h4 (by omega))
      have hbd := frac_bd h3 h4
      have HF := Lib.hid (fun A A' c c' W hx hy => fraction_any (v / Nat.gcd v u) (u / Nat.gcd v u) A A' c c' W hx hy hbd.1 hbd.2)
      clear hbd
      generalize hNe : v / Nat.gcd v u = N at *
      generalize hDe : u / Nat.gcd v u = D at *
      have HE := Lib.hid (And.intro hNe hDe)
      clear hNe hDe hst
      go_wp2_with fail
      rw [← hW0]
      refine HQ.out.mono ?_
      rintro e w1 ⟨A1, c1, A2, c2, rfl, g1, g2, hb1⟩
      have HFF := Lib.hid (HF.out A1 A2 c1 c2 w1 g1 g2)
      have HB1 := Lib.hid hb1
      clear g1 g2 hb1 HQ HF hW0
      go_wp2_with fail
      refine HFF.out.mono ?_
      rintro e w2 ⟨rfl, hb2⟩
      have hb3 := HB1.out.trans (hb2.mono HB1.out.size)
      have d0 := (hb3.cell (p := ⟨w.heap.size, 0, none⟩) (show w.heap.size < W0.heap.size by omega)).trans x0
      have d1 := (hb3.cell (p := ⟨w.heap.size, 1, none⟩) (show w.heap.size < W0.heap.size by omega)).trans x1
      have z0 := (hb3.frozen (p := ⟨w.heap.size, 0, none⟩) (show w.heap.size < W0.heap.size by omega)).trans f0
      have z1 := (hb3.frozen (p := ⟨w.heap.size, 1, none⟩) (show w.heap.size < W0.heap.size by omega)).trans f1
      have hsz : w.heap.size < w2.heap.size := by have := hb3.size; omega
      have HB3 := Lib.hid (hB0.trans (hb3.mono hB0.size))
      clear hb3 hb2 HB1 HFF x0 x1 f0 f1 hB0 hz0
      have hne : ¬ w.heap.size = w2.heap.size := by omega
      go_wp2
      obtain ⟨t1, t2, t3⟩ := two_cells (v0 := .int .i64 (N : Int)) (v1 := .int .i64 (D : Int)) d0 d1
      obtain ⟨V, hV⟩ : ∃ V, V = (w2.setCell ⟨w.heap.size, 0, none⟩ (.int .i64 (N : Int))).setCell ⟨w.heap.size, 1, none⟩ (.int .i64 (D : Int)) := ⟨_, rfl⟩
      have hVb : Below w.heap.size w V := by rw [hV]; exact (HB3.out.setCell (Nat.le_refl _) _).setCell (Nat.le_refl _) _
      have hVz : w.heap.size < V.heap.size := by rw [hV]; simpa using hsz
      rw [← hV] at t2 t3 ⊢
      have hA : Below V.heap.size V (V.alloc (.cells #[.int .i64 (N : Int), .int .i64 (D : Int)] 23)) := (Below.refl _ _).alloc (Nat.le_refl _) _
      have a2 := (hA.cell (p := ⟨w.heap.size, 0, none⟩) hVz).trans t2
      have a3 := (hA.cell (p := ⟨w.heap.size, 1, none⟩) hVz).trans t3
      refine bodyPost_ret (v := .agg #[.int .i64 (N : Int), .int .i64 (D : Int)]) (by simp [results, Try.results43, go_sem, a2, a3]) rfl ⟨?_, hVb.trans (hA.mono hVb.size)⟩
      rw [← HE.out.1, ← HE.out.2]
      rfl
theorem implInv_any (n b : Int) (w : World) : Calls Try.prog 11 #[.int .i64 n, .int .i64 b] w fun e w' => e = .returned (.tuple #[.agg #[.int .i64 (numOf n b), .int .i64 (denOf n b)], .bool (invB n b)]) ∧ Below w.heap.size w w' := by
  cases hB : invB n b
  · have e1 : numOf n b = 0 := by simp [numOf, hB]
    have e2 : denOf n b = 0 := by simp [denOf, hB]
    rw [e1, e2]
    go_enter Try.func11, Try.ntmps11
    go_wp2_with (go_at_call 42; refine (isInverted_any _ _ _).mono ?_; rintro e w1 ⟨rfl, rfl⟩)
    refine bodyPost_ret (v := .tuple #[.agg #[.int .i64 0, .int .i64 0], .bool false]) (by simp [results, Try.results11, go_sem]) rfl ⟨rfl, ?_⟩
    exact (Below.refl _ _).alloc (Nat.le_refl _) _
  · obtain ⟨h1, h2, h3, h4⟩ := invB_true hB
    obtain ⟨N, rfl⟩ := Int.eq_ofNat_of_zero_le h1
    obtain ⟨B, rfl⟩ := Int.eq_ofNat_of_zero_le (show 0 ≤ b by omega)
    have HI := Lib.hid (fun W => inverted_any N B (by omega) (by omega) (by omega) W)
    have e1 : numOf N B = ((invV N B / Nat.gcd (invV N B) (invU N B) : Nat) : Int) := by simp [numOf, hB]
    have e2 : denOf N B = ((invU N B / Nat.gcd (invV N B) (invU N B) : Nat) : Int) := by simp [denOf, hB]
    rw [e1, e2]
    unfold fracV at HI
    generalize invV N B / Nat.gcd (invV N B) (invU N B) = P at *
    generalize invU N B / Nat.gcd (invV N B) (invU N B) = D at *
    clear e1 e2
    go_enter Try.func11, Try.ntmps11
    go_wp2_with (first | (go_at_call 42; refine (isInverted_any _ _ _).mono ?_; rintro e w1 ⟨rfl, rfl⟩) | (go_at_call 43; refine (HI.out _).mono ?_; rintro e w1 ⟨rfl, hb1⟩; have d0 := box_cells hb1 0; have d1 := box_cells hb1 1; have z0 := (bcell hb1).2 w.heap.size 0 (by simp); have z1 := (bcell hb1).2 w.heap.size 1 (by simp); obtain ⟨t1, t2, t3⟩ := two_cells (v0 := .int .i64 (P : Int)) (v1 := .int .i64 (D : Int)) d0 d1; have HB2 := Lib.hid (((Base.Below.boxed hb1).setCell (p := ⟨w.heap.size, 0, none⟩) (Nat.le_refl _) (.int .i64 (P : Int))).setCell (p := ⟨w.heap.size, 1, none⟩) (Nat.le_refl _) (.int .i64 (D : Int)))))
    refine bodyPost_ret (v := .tuple #[.agg #[.int .i64 (P : Int), .int .i64 (D : Int)], .bool true]) (by simp [results, Try.results11, go_sem, t2, t3]) rfl ⟨rfl, HB2.out⟩
theorem exactInv_any (n b : Int) (w : World) : Calls Try.prog 3 #[.int .i64 n, .int .i64 b] w fun e w' => e = .returned (.bool true) ∧ Below w.heap.size w w' := by
  have HS := Lib.hid (fun W => specInv_any n b W)
  have HI := Lib.hid (fun W => implInv_any n b W)
  have HE := Lib.hid (fun W => MemF.eqFraction_yes (numOf n b) (denOf n b) W)
  generalize numOf n b = P at *
  generalize denOf n b = Q at *
  generalize invB n b = r at *
  have hok : (r != r) = false := by simp
  go_enter Try.func3, Try.ntmps3
  go_wp2_with fail
  refine (HS.out _).mono ?_; rintro e w1 ⟨rfl, hb1⟩
  have HB1 := Lib.hid hb1
  clear hb1
  go_wp2_with fail
  refine (HI.out _).mono ?_; rintro e w2 ⟨rfl, hb2⟩
  have d0 : w2.cell? ⟨w1.heap.size, 0, none⟩ = some (.int .i64 P) := box_cells hb2 0
  have d1 : w2.cell? ⟨w1.heap.size, 1, none⟩ = some (.int .i64 Q) := box_cells hb2 1
  have hlt : w1.heap.size < w2.heap.size := by have := hb2.size; simp only [World.size_alloc] at this; omega
  have HB2 := Lib.hid (Base.Below.nextA HB1.out (Base.Below.boxed hb2))
  clear hb2
  go_wp2_with (go_at_call 12; refine (HE.out _).mono ?_; rintro e w3 ⟨rfl, hb3⟩; have HB3 := Lib.hid (Base.Below.nextA HB2.out (Base.Below.boxed hb3)))
  go_ret
  exact ⟨rfl, HB3.out⟩
end Go.Proofs.Ytjkcdnfmmfpbjaa.Inv

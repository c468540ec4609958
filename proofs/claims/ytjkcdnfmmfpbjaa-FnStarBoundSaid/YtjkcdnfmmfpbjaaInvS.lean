/- Numbers inverted at the point: the reference. -/
import Derived.Test.YtjkcdnfmmfpbjaaCuts
namespace Go.Proofs.Ytjkcdnfmmfpbjaa.Inv
open Go.RowKit Go.Proofs.Ytjkcdnfmmfpbjaa Go.Proofs.Ytjkcdnfmmfpbjaa.Base Go.Proofs.Ytjkcdnfmmfpbjaa.Mem
set_option linter.unusedVariables false
/-- the digits of a number, the least one first, as a value and a unit -/
def invs (b n v u : Nat) : Nat × Nat := if h : 0 < n ∧ 2 ≤ b then invs b (n / b) (v * b + n % b) (u * b) else (v, u)
termination_by n
decreasing_by exact Nat.div_lt_self h.1 h.2
theorem invs_step {b n v u : Nat} (h : 0 < n) (hb : 2 ≤ b) : invs b (n / b) (v * b + n % b) (u * b) = invs b n v u := by
  conv => rhs; rw [invs]
  rw [dif_pos ⟨h, hb⟩]
theorem invs_done {b v u : Nat} : invs b 0 v u = (v, u) := by rw [invs]; simp
/-- a state on the way -/
def InvSt (b n v u x y : Nat) : Prop := invs b n v u = (x, y) ∧ u * n ≤ 1000000 ∧ u ≤ 36000000 ∧ v < u
theorem InvSt.next {b n v u x y : Nat} (h : InvSt b n v u x y) (hn : 0 < n) (hb : 2 ≤ b) (hb' : b ≤ 36) : InvSt b (n / b) (v * b + n % b) (u * b) x y := by
  obtain ⟨h1, h2, h3, h4⟩ := h
  have hu : u ≤ 1000000 := Nat.le_trans (Nat.le_mul_of_pos_right u hn) h2
  refine ⟨by rw [invs_step hn hb]; exact h1, ?_, ?_, ?_⟩
  · rw [Nat.mul_assoc]
    exact Nat.le_trans (Nat.mul_le_mul_left u (Nat.mul_div_le n b)) h2
  · have := Nat.mul_le_mul hu hb'
    omega
  · have h5 := Nat.mul_le_mul_right b (show v + 1 ≤ u from h4)
    have h6 := Nat.mod_lt n (show b > 0 by omega)
    rw [Nat.add_mul] at h5
    omega
theorem InvSt.small {b n v u x y : Nat} (h : InvSt b n v u x y) (hn : 0 < n) : u ≤ 1000000 := Nat.le_trans (Nat.le_mul_of_pos_right u hn) h.2.1
def invV (n b : Nat) : Nat := (invs b n 0 1).1
def invU (n b : Nat) : Nat := (invs b n 0 1).2
theorem InvSt.start {n b : Nat} (h : n ≤ 1000000) : InvSt b n 0 1 (invV n b) (invU n b) := ⟨rfl, by omega, by omega, by omega⟩
theorem InvSt.done {b v u x y : Nat} (h : InvSt b 0 v u x y) : v = x ∧ u = y ∧ x < y ∧ y ≤ 36000000 := by
  obtain ⟨h1, h2, h3, h4⟩ := h
  rw [invs_done] at h1
  injection h1 with e1 e2
  subst e1 e2
  exact ⟨rfl, rfl, h4, h3⟩
theorem two_cells {w : World} {b : Nat} {v0 v1 u0 u1 : Value} (h0 : w.cell? ⟨b, 0, none⟩ = some u0) (h1 : w.cell? ⟨b, 1, none⟩ = some u1) :
    (w.setCell ⟨b, 0, none⟩ v0).cell? ⟨b, 0, none⟩ = some v0 ∧ ((w.setCell ⟨b, 0, none⟩ v0).setCell ⟨b, 1, none⟩ v1).cell? ⟨b, 0, none⟩ = some v0 ∧ ((w.setCell ⟨b, 0, none⟩ v0).setCell ⟨b, 1, none⟩ v1).cell? ⟨b, 1, none⟩ = some v1 := by
  have e1 := World.cell?_setCell_same _ _ v0 h0
  refine ⟨e1, ?_, ?_⟩
  · rw [World.cell?_setCell_other _ _ _ _ (by simp)]; exact e1
  · exact World.cell?_setCell_same _ _ _ (by rw [World.cell?_setCell_other _ _ _ _ (by simp)]; exact h1)
/-- which arguments are served -/
def invB (n b : Int) : Bool := inR n 0 1000000 && inR b 2 36
theorem invB_true {n b : Int} (h : invB n b = true) : 0 ≤ n ∧ n ≤ 1000000 ∧ 2 ≤ b ∧ b ≤ 36 := by
  simp [invB, inR] at h
  omega
/-- a fraction in its lowest form -/
def fracV (v u : Nat) : Value := .agg #[.int .i64 ((v / Nat.gcd v u : Nat) : Int), .int .i64 ((u / Nat.gcd v u : Nat) : Int)]
def numOf (n b : Int) : Int := if invB n b = true then ((invV n.toNat b.toNat / Nat.gcd (invV n.toNat b.toNat) (invU n.toNat b.toNat) : Nat) : Int) else 0
def denOf (n b : Int) : Int := if invB n b = true then ((invU n.toNat b.toNat / Nat.gcd (invV n.toNat b.toNat) (invU n.toNat b.toNat) : Nat) : Int) else 0
theorem l10Digits_any (n b : Int) (w : World) : Calls Try.prog 40 #[.int .i64 n, .int .i64 b] w fun e w' => e = .returned (.bool (invB n b)) ∧ w = w' := by
  cases h1 : inR n 0 1000000
  all_goals
    go_enter Try.func40, Try.ntmps40
    go_wp2_with (go_at_call 44; refine (l00In_any _ _ _ _).mono ?_; rintro e w' ⟨rfl, rfl⟩)
    go_ret
    exact ⟨ret_bool (by simp [invB, h1]), rfl⟩
theorem isInverted_any (n b : Int) (w : World) : Calls Try.prog 42 #[.int .i64 n, .int .i64 b] w fun e w' => e = .returned (.bool (invB n b)) ∧ w = w' := by
  cases h1 : inR n 0 1000000
  all_goals
    go_enter Try.func42, Try.ntmps42
    go_wp2_with (go_at_call 45; refine (inRange_any _ _ _ _).mono ?_; rintro e w' ⟨rfl, rfl⟩)
    go_ret
    exact ⟨ret_bool (by simp [invB, h1]), rfl⟩
theorem l00Max_any (v : Nat) (hv : v ≤ 36000000) (w : World) : Calls Try.prog 51 #[.int .i64 (v : Int), .int .i64 (-(v : Int))] w fun e w' => e = .returned (.int .i64 (v : Int)) ∧ w = w' := by
  by_cases h : 0 < v
  · go_enter Try.func51, Try.ntmps51
    go_wp2
    go_ret
    exact ⟨rfl, rfl⟩
  · obtain rfl : v = 0 := by omega
    go_enter Try.func51, Try.ntmps51
    go_wp2
    go_ret
    exact ⟨rfl, rfl⟩
theorem l01Gcd_any (x y : Nat) (hx : x ≤ 36000000) (hy : y ≤ 36000000) (w : World) : Calls Try.prog 72 #[.int .i64 (x : Int), .int .i64 (y : Int)] w fun e w' => e = .returned (.int .i64 ((Nat.gcd x y : Nat) : Int)) ∧ w = w' := by
  go_enter Try.func72, Try.ntmps72
  go_wp2
  go_loop [0, 1] (fun av bv => ∃ p q : Nat, av = .int .i64 (p : Int) ∧ bv = .int .i64 (q : Int) ∧ p ≤ 36000000 ∧ q ≤ 36000000 ∧ Hid (Nat.gcd p q = Nat.gcd x y)) (fun _ bv => (intOf bv).toNat)
  case atStart => exact ⟨x, y, rfl, rfl, hx, hy, Lib.hid rfl⟩
  case round =>
    obtain ⟨p, q, rfl, rfl, hp, hq, hg⟩ := hrel
    by_cases hpos : 0 < q
    · have hlt := Nat.mod_lt p hpos
      have hG : Hid (Nat.gcd q (p % q) = Nat.gcd x y) := Lib.hid (by rw [← hg.out, Nat.gcd_comm q, ← Nat.gcd_rec, Nat.gcd_comm])
      have e1 : (p : Int) % (q : Int) = ((p % q : Nat) : Int) := by simp
      clear hg
      generalize p % q = m at *
      go_wp2
      go_round
      case rel => exact ⟨q, m, rfl, by rw [e1], hq, by omega, hG⟩
      case measure => simp [intOf]; omega
    · obtain rfl : q = 0 := by omega
      have hG := hg.out
      rw [Nat.gcd_zero_right] at hG
      go_wp2
      go_ret
      exact ⟨by rw [← hG]; rfl, rfl⟩
theorem fMake_any (v u : Nat) (hv : v < u) (hu : u ≤ 36000000) (w : World) : Calls Try.prog 52 #[.int .i64 (v : Int), .int .i64 (u : Int)] w fun e w' => e = .returned (fracV v u) ∧ Below w.heap.size w w' := by
  have hg0 : 0 < Nat.gcd v u := Nat.gcd_pos_of_pos_right v (by omega)
  have hg1 : Nat.gcd v u ≤ u := Nat.gcd_le_right v (by omega)
  have e1 : (v : Int) / ((Nat.gcd v u : Nat) : Int) = ((v / Nat.gcd v u : Nat) : Int) := by simp
  have e2 : (u : Int) / ((Nat.gcd v u : Nat) : Int) = ((u / Nat.gcd v u : Nat) : Int) := by simp
  have b1 : v / Nat.gcd v u ≤ v := Nat.div_le_self _ _
  have b2 : u / Nat.gcd v u ≤ u := Nat.div_le_self _ _
  have HM := Lib.hid (fun W => l00Max_any v (by omega) W)
  have HG := Lib.hid (fun W => l01Gcd_any v u (by omega) hu W)
  unfold fracV
  generalize v / Nat.gcd v u = N at *
  generalize u / Nat.gcd v u = D at *
  generalize Nat.gcd v u = G at *
  go_enter Try.func52, Try.ntmps52
  go_wp2_with fail
  refine (HM.out _).mono ?_
  rintro e w1 ⟨rfl, rfl⟩
  go_wp2_with fail
  refine (HG.out _).mono ?_
  rintro e w1 ⟨rfl, rfl⟩
  go_wp2
  go_region
  go_wp2
  refine bodyPost_ret (v := .agg #[.int .i64 (N : Int), .int .i64 (D : Int)]) (by simp [results, Try.results52, go_sem]) rfl ⟨rfl, ?_⟩
  exact ((Below.refl _ _).alloc (Nat.le_refl _) _).drew
theorem l10Inverse_any (n b : Nat) (hn : n ≤ 1000000) (hb : 2 ≤ b) (hb' : b ≤ 36) (w : World) : Calls Try.prog 41 #[.int .i64 (n : Int), .int .i64 (b : Int)] w fun e w' => e = .returned (fracV (invV n b) (invU n b)) ∧ Below w.heap.size w w' := by
  have H0 := Lib.hid (InvSt.start (b := b) hn)
  generalize invV n b = X at *
  generalize invU n b = Y at *
  go_enter Try.func41, Try.ntmps41
  go_wp2
  go_loop [0, 5, 6] (fun nv vv uv => ∃ n v u : Nat, nv = .int .i64 (n : Int) ∧ vv = .int .i64 (v : Int) ∧ uv = .int .i64 (u : Int) ∧ Hid (InvSt b n v u X Y)) (fun nv _ _ => (intOf nv).toNat)
  case atStart => exact ⟨n, 0, 1, rfl, rfl, rfl, H0⟩
  case round =>
    obtain ⟨m, v, u, rfl, rfl, rfl, hst⟩ := hrel
    clear H0
    by_cases hpos : 0 < m
    · have hN := Lib.hid (hst.out.next hpos hb hb')
      have hu := hst.out.small hpos
      have hv := hst.out.2.2.2
      have hm : m ≤ 1000000 := Nat.le_trans (Nat.le_mul_of_pos_left m (by omega)) hst.out.2.1
      have e1 : (m : Int) % (b : Int) = ((m % b : Nat) : Int) := by simp
      have e2 : (m : Int) / (b : Int) = ((m / b : Nat) : Int) := by simp
      have l1 : m % b < b := Nat.mod_lt _ (by omega)
      have l2 : m / b < m := Nat.div_lt_self hpos hb
      obtain ⟨P, hP⟩ : ∃ P, v * b = P := ⟨_, rfl⟩
      obtain ⟨R, hR⟩ : ∃ R, u * b = R := ⟨_, rfl⟩
      have hPl : P ≤ 36000000 := by rw [← hP]; exact Nat.le_trans (Nat.mul_le_mul (show v ≤ 1000000 by omega) hb') (by decide)
      have hRl : R ≤ 36000000 := by rw [← hR]; exact Nat.le_trans (Nat.mul_le_mul hu hb') (by decide)
      have e3 : (v : Int) * (b : Int) = (P : Int) := by rw [← hP]; simp
      have e4 : (u : Int) * (b : Int) = (R : Int) := by rw [← hR]; simp
      rw [hP, hR] at hN
      clear hP hR
      generalize m % b = r at *
      generalize m / b = q at *
      go_wp2
      go_round
      case rel => exact ⟨q, P + r, R, by first | rfl | rw [e2], by first | rfl | (rw [e1]; rfl) | (go_num), rfl, hN⟩
      case measure => simp [intOf]; omega
    · obtain rfl : m = 0 := by omega
      obtain ⟨rfl, rfl, h3, h4⟩ := hst.out.done
      have HF := Lib.hid (fun W => fMake_any v u h3 h4 W)
      go_wp2_with fail
      refine (HF.out _).mono ?_
      rintro e w1 ⟨rfl, hb1⟩
      unfold fracV
      have d0 := box_cells hb1 0
      have d1 := box_cells hb1 1
      have z0 := (bcell hb1).2 w.heap.size 0 (by simp)
      have z1 := (bcell hb1).2 w.heap.size 1 (by simp)
      generalize hNe : v / Nat.gcd v u = N at *
      generalize hDe : u / Nat.gcd v u = D at *
      obtain ⟨t1, t2, t3⟩ := two_cells (v0 := .int .i64 (N : Int)) (v1 := .int .i64 (D : Int)) d0 d1
      have hb2 : Below w.heap.size w ((w1.setCell ⟨w.heap.size, 0, none⟩ (.int .i64 (N : Int))).setCell ⟨w.heap.size, 1, none⟩ (.int .i64 (D : Int))) := ((Base.Below.boxed hb1).setCell (Nat.le_refl _) _).setCell (Nat.le_refl _) _
      have HB2 := Lib.hid hb2
      have HE := Lib.hid (And.intro hNe hDe)
      clear hb2 hb1 hNe hDe
      go_wp2
      refine bodyPost_ret (v := .agg #[.int .i64 (N : Int), .int .i64 (D : Int)]) (by simp [results, Try.results41, go_sem, t2, t3]) rfl ⟨?_, HB2.out⟩
      rw [← HE.out.1, ← HE.out.2]
      rfl
theorem specInv_any (n b : Int) (w : World) : Calls Try.prog 10 #[.int .i64 n, .int .i64 b] w fun e w' => e = .returned (.tuple #[.agg #[.int .i64 (numOf n b), .int .i64 (denOf n b)], .bool (invB n b)]) ∧ Below w.heap.size w w' := by
  cases hB : invB n b
  · have e1 : numOf n b = 0 := by simp [numOf, hB]
    have e2 : denOf n b = 0 := by simp [denOf, hB]
    rw [e1, e2]
    go_enter Try.func10, Try.ntmps10
    go_wp2_with (go_at_call 40; refine (l10Digits_any _ _ _).mono ?_; rintro e w1 ⟨rfl, rfl⟩)
    refine bodyPost_ret (v := .tuple #[.agg #[.int .i64 0, .int .i64 0], .bool false]) (by simp [results, Try.results10, go_sem]) rfl ⟨rfl, ?_⟩
    exact (Below.refl _ _).alloc (Nat.le_refl _) _
  · obtain ⟨h1, h2, h3, h4⟩ := invB_true hB
    obtain ⟨N, rfl⟩ := Int.eq_ofNat_of_zero_le h1
    obtain ⟨B, rfl⟩ := Int.eq_ofNat_of_zero_le (show 0 ≤ b by omega)
    have HI := Lib.hid (fun W => l10Inverse_any N B (by omega) (by omega) (by omega) W)
    have e1 : numOf N B = ((invV N B / Nat.gcd (invV N B) (invU N B) : Nat) : Int) := by simp [numOf, hB]
    have e2 : denOf N B = ((invU N B / Nat.gcd (invV N B) (invU N B) : Nat) : Int) := by simp [denOf, hB]
    rw [e1, e2]
    unfold fracV at HI
    generalize invV N B / Nat.gcd (invV N B) (invU N B) = P at *
    generalize invU N B / Nat.gcd (invV N B) (invU N B) = D at *
    clear e1 e2
    go_enter Try.func10, Try.ntmps10
    go_wp2_with (first | (go_at_call 40; refine (l10Digits_any _ _ _).mono ?_; rintro e w1 ⟨rfl, rfl⟩) | (go_at_call 41; refine (HI.out _).mono ?_; rintro e w1 ⟨rfl, hb1⟩; have d0 := box_cells hb1 0; have d1 := box_cells hb1 1; have z0 := (bcell hb1).2 w.heap.size 0 (by simp); have z1 := (bcell hb1).2 w.heap.size 1 (by simp); obtain ⟨t1, t2, t3⟩ := two_cells (v0 := .int .i64 (P : Int)) (v1 := .int .i64 (D : Int)) d0 d1; have HB2 := Lib.hid (((Base.Below.boxed hb1).setCell (p := ⟨w.heap.size, 0, none⟩) (Nat.le_refl _) (.int .i64 (P : Int))).setCell (p := ⟨w.heap.size, 1, none⟩) (Nat.le_refl _) (.int .i64 (D : Int)))))
    refine bodyPost_ret (v := .tuple #[.agg #[.int .i64 (P : Int), .int .i64 (D : Int)], .bool true]) (by simp [results, Try.results10, go_sem, t2, t3]) rfl ⟨rfl, HB2.out⟩
end Go.Proofs.Ytjkcdnfmmfpbjaa.Inv

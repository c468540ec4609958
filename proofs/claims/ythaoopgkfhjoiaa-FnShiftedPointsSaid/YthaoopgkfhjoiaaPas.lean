/- The net of binomials, of the program and of the reference; the law. -/
import Derived.Test.YthaoopgkfhjoiaaChoose
import Derived.Test.YthaoopgkfhjoiaaRevLaw
namespace Go.Proofs.Ythaoopgkfhjoiaa.Pas
open Go.RowKit Go.Proofs.Ythaoopgkfhjoiaa Go.Proofs.Ythaoopgkfhjoiaa.Base Go.Proofs.Ythaoopgkfhjoiaa.Mem Go.Proofs.Ythaoopgkfhjoiaa.Pts Go.Proofs.Ythaoopgkfhjoiaa.NetV Go.Proofs.Ythaoopgkfhjoiaa.RevNet Go.Proofs.Ythaoopgkfhjoiaa.Choose Go.Proofs.Ythaoopgkfhjoiaa.Bits
set_option linter.unusedVariables false
/-- a row of the second matrix, of the first m columns from its own on -/
def rowTo (i : Nat) : Nat → Nat
  | 0 => 0
  | m + 1 => rowTo i m ||| ch (i + m) i % 2 * 2 ^ (i + m)
theorem rowTo_lt (i : Nat) : ∀ m, rowTo i m < 2 ^ (i + m)
  | 0 => Nat.two_pow_pos _
  | m + 1 => by
    have h := rowTo_lt i m
    have h2 : 2 ^ (i + (m + 1)) = 2 ^ (i + m) * 2 := by rw [← Nat.add_assoc, Nat.pow_succ]
    have h3 : ch (i + m) i % 2 * 2 ^ (i + m) ≤ 1 * 2 ^ (i + m) := Nat.mul_le_mul_right _ (by omega)
    have := Nat.two_pow_pos (i + m)
    exact Nat.or_lt_two_pow (by omega) (by omega)
def pasL (n : Nat) : List Int := (List.range n).map fun i => ((rowTo i (n - i) : Nat) : Int)
theorem pasL_len (n : Nat) : (pasL n).length = n := by simp [pasL]
theorem pasL_take (n k : Nat) (h : k < n) : (pasL n).take (k + 1) = (pasL n).take k ++ [((rowTo k (n - k) : Nat) : Int)] := by
  have hl : k < (pasL n).length := by rw [pasL_len]; exact h
  rw [List.take_succ_eq_append_getElem hl]
  simp [pasL]
theorem row_int {c r j : Nat} (hj : j < 6) (hr : r < 2 ^ j) : bits .or .i64 (r : Int) (wrap64 (((c % 2 : Nat) : Int) * 2 ^ j)) = ((r ||| c % 2 * 2 ^ j : Nat) : Int) := by
  have hp : 2 ^ j ≤ 2 ^ 5 := Nat.pow_le_pow_right (by decide) (by omega)
  have h2 : c % 2 * 2 ^ j ≤ 1 * 2 ^ 5 := Nat.mul_le_mul (by omega) hp
  have e : ((c % 2 : Nat) : Int) * 2 ^ j = ((c % 2 * 2 ^ j : Nat) : Int) := by simp
  rw [e]
  generalize c % 2 * 2 ^ j = m at *
  have e2 : wrap64 ((m : Nat) : Int) = ((m : Nat) : Int) := by simp only [wrap64]; omega
  rw [e2, i64_or_nat _ _ (by omega) (by omega)]
def PasRet (n : Nat) (w : World) (e : Ending) (w' : World) : Prop :=
  ∃ g us, e = .returned (.tuple #[.agg #[.int .i64 (n : Int), .slice (some ⟨g, 0, none⟩) 2 2], .bool true]) ∧ OwnII w' w.heap.size (.slice (some ⟨g, 0, none⟩) 2 2) [unitL n, pasL n] us ∧ Below w.heap.size w w'
def PasRel (n : Nat) (w : World) (out i : Value) (wr : World) : Prop := ∃ k : Nat, k ≤ n ∧ i = .int .i64 (k : Int) ∧ OwnI wr w.heap.size out ((pasL n).take k) ∧ Below w.heap.size w wr
set_option maxHeartbeats 2000000 in
set_option maxRecDepth 100000 in
theorem implPas_yes (n : Nat) (w : World) (hn : n ≤ 6) : Calls Try.prog 45 #[.int .i64 n] w (PasRet n w) := by
  obtain ⟨i0, hi, hz0, hz1, hz2⟩ := info_parts infoI
  have i1 := inR_yes (n := (n : Int)) (lo := 0) (hi := 6) (by omega)
  go_enter Try.func45, Try.ntmps45
  go_wp2_with (go_at_call 98; refine (isNetBits_any _ _).mono ?_; rintro e w' ⟨rfl, rfl⟩)
  obtain ⟨W0, hW0⟩ : ∃ W0, W0 = w.alloc (.cells #[.int .i64 0, .slice none 0 0] 66) := ⟨_, rfl⟩
  have hz0' : W0.heap.size = w.heap.size + 1 := by rw [hW0]; simp
  have c0 : W0.cell? ⟨w.heap.size, 0, none⟩ = some (.int .i64 0) := by rw [hW0]; go_simp
  have c1 : W0.cell? ⟨w.heap.size, 1, none⟩ = some (.slice none 0 0) := by rw [hW0]; go_simp
  have f0 : ∀ i, W0.frozen? ⟨w.heap.size, i, none⟩ = false := fun i => by rw [hW0]; go_simp
  have B0 := Lib.hid (show Below w.heap.size w W0 by rw [hW0]; exact (Below.refl _ _).alloc (Nat.le_refl _) _)
  rw [← hW0]
  have HZ0 := Lib.hid hz0'
  have hw0 : w.heap.size + 1 ≤ W0.heap.size := by omega
  clear hW0
  have H0 : Hid (PasRel n W0 (.slice (some ⟨w.heap.size + 1, 0, none⟩) 0 0) (.int .i64 0) (W0.alloc (.cells #[] 2))) := Lib.hid (by
    have q1 := own_lit (B := W0.heap.size) W0 (Nat.le_refl _) [] (by simp)
    rw [hz0'] at q1
    refine ⟨0, Nat.zero_le _, rfl, by rw [hz0']; exact q1, (Below.refl _ _).alloc (Nat.le_refl _) _⟩)
  clear hz0'
  go_loopw [4, 14] (fun out i wr => PasRel n W0 out i wr) (fun _ i _ => n - (intOf i).toNat)
  case atStart => exact H0.out
  case round =>
    obtain ⟨k, hk, rfl, hO, hb⟩ := hrel
    by_cases hlt : k < n
    · have HO := Lib.hid hO
      have HB := Lib.hid hb
      clear hO hb
      obtain ⟨wo, rfl⟩ : ∃ x, x = wr := ⟨_, rfl⟩
      go_wp2
      go_loopw [6, 7] (fun row j wq => ∃ m : Nat, k + m ≤ n ∧ j = .int .i64 ((k + m : Nat) : Int) ∧ row = .int .i64 (rowTo k m : Nat) ∧ Drawn wo wq) (fun _ j _ => n - (intOf j).toNat)
      case atStart => exact ⟨0, by omega, rfl, rfl, Drawn.refl _⟩
      case round =>
        obtain ⟨m, hm, rfl, rfl, hD⟩ := hrel
        have HD := Lib.hid hD
        clear hD
        by_cases hmt : k + m < n
        · have hr := rowTo_lt k m
          have HR := Lib.hid (row_int (c := ch (k + m) k) (r := rowTo k m) (j := k + m) (by omega) hr)
          have hch := ch_le2 (k + m) k
          have hpw : 2 ^ (k + m) ≤ 2 ^ 6 := Nat.pow_le_pow_right (by decide) (by omega)
          have HA := Lib.hid (and1 (ch (k + m) k) (by omega))
          clear hch hpw hr
          go_wp2_with fail
          refine (choose_any (k + m) k _ (by omega) (by omega)).mono ?_
          rintro e w2 ⟨rfl, n2, rfl⟩
          go_wp2_with fail
          rw [HA.out, HR.out]
          go_roundw
          case rel => exact ⟨m + 1, by omega, by go_num, rfl, HD.out.next _⟩
          case measure => simp [intOf]; omega
        · have hkm : m = n - k := by omega
          have HO2 := Lib.hid (HO.out.below HD.out.below)
          have HB2 := Lib.hid (HB.out.trans (HD.out.below (B := W0.heap.size)))
          have HK := Lib.hid hkm
          have hl : ((pasL n).take k).length = k := by rw [List.length_take, pasL_len]; omega
          have HL := Lib.hid hl
          have hown := World.ownsRow.alloc HO2.out (.cells #[.int .i64 (rowTo k m : Nat)] 2)
          rw [hl] at hown
          have HW := Lib.hid hown
          have hsz := HB2.out.size
          clear hkm hown hl
          go_wp2_with (at_builtin; refine wpList_append_own_at _ rfl (.tmp 31) (.tmp 33) 30 rfl W0.heap.size 2 i0 (.int .i64 0) 1 8 Try.underlying30 hi hz0 hz1 hz2 rfl (by decide) _ _ _ rfl HW.out ⟨wr.heap.size, 0, none⟩ 1 1 [.int .i64 (rowTo k m : Nat)] rfl rfl ?p1a ?p2a ?p3a ?p4a ?p5a ?_)
          try case p1a => exact news_one _ _ _ (by simp)
          try case p2a => first | exact one_int | rfl | simp
          try case p3a => first | (simp only [maxLen]; omega) | omega
          try case p4a => omega
          try case p5a => first | (simp only [World.size_alloc]; omega) | omega
          intro v' w2 hown' hg' _ he
          have HN : Hid (PasRel n W0 v' (.int .i64 ((k : Int) + 1)) w2) := Lib.hid (by
            refine ⟨k + 1, hlt, by simp, ?_, HB2.out.trans (append_below HO2.out hsz hg')⟩
            rw [pasL_take n k hlt, ← HK.out]
            exact OwnI_push HO2.out hsz (by rw [HL.out]; exact hown'))
          clear hown' hg' he
          go_wp2
          go_roundw
          case rel => exact HN.out
          case measure => simp [intOf]; omega
    · obtain rfl : k = n := by omega
      rw [show (pasL k).take k = pasL k from List.take_of_length_le (by rw [pasL_len]; exact Nat.le_refl _)] at hO
      obtain ⟨A1, c1', e1', _⟩ := hO.form
      rw [pasL_len] at e1'
      subst e1'
      have O1 := Lib.hid hO
      have B1 := Lib.hid hb
      clear hO hb
      go_wp2_with fail
      refine (unitRows_any k wr hn).mono ?_
      rintro e w3 ⟨A3, c3', rfl, o3, b3⟩
      have B3 := Lib.hid (Base.Below.nextA B1.out b3)
      have e0 := (B3.out.cell (p := ⟨w.heap.size, 0, none⟩) (by show w.heap.size < _; omega)).trans c0
      have e1 := (B3.out.cell (p := ⟨w.heap.size, 1, none⟩) (by show w.heap.size < _; omega)).trans c1
      have k0 := (B3.out.frozen (p := ⟨w.heap.size, 0, none⟩) (by show w.heap.size < _; omega)).trans (f0 0)
      have k1 := (B3.out.frozen (p := ⟨w.heap.size, 1, none⟩) (by show w.heap.size < _; omega)).trans (f0 1)
      have O3 := Lib.hid (fun x y => OwnII.two_set (b := w.heap.size) (x := x) (y := y) (ownsRow_base o3 B1.out.size) (O1.out.below b3) (Nat.le_trans B1.out.size b3.size) (fun g h1 h2 => by
        obtain ⟨_, _, q1, _⟩ := ownsRow_block o3 h1
        obtain ⟨_, _, _, q2⟩ := ownsRow_block O1.out h2
        omega) (by omega))
      have hz3 : w.heap.size < w3.heap.size := by have := B3.out.size; omega
      clear o3 b3 c0 c1 f0
      go_wp2
      refine bodyPost_ret (v := .tuple #[.agg #[.int .i64 (k : Int), .slice (some ⟨w3.heap.size, 0, none⟩) 2 2], .bool true]) (by simp [results, Try.results45, go_sem, hz3, e0, e1]) rfl ?_
      exact ⟨w3.heap.size, _, rfl, (O3.out _ _).base (by omega), (((B0.out.trans (B3.out.mono (by omega))).setCell (Nat.le_refl _) _).setCell (Nat.le_refl _) _).alloc (by simp; omega) _⟩
/-- two lists of the call's own that grow together -/
def TwoRel (n : Nat) (L1 L2 : List Int) (w : World) (b : Nat) (v1 v2 i : Value) (wr : World) : Prop :=
  ∃ k : Nat, k ≤ n ∧ i = .int .i64 (k : Int) ∧ OwnI wr (b + 1) v1 (L1.take k) ∧ OwnI wr (b + 1) v2 (L2.take k) ∧ (∀ g, v1.ownBlock = some g → v2.ownBlock ≠ some g) ∧ Below (b + 1) w wr
theorem TwoRel.next {n k b : Nat} {L1 L2 : List Int} {w wr w2 w4 : World} {v1 v2 u1 u2 : Value} {o o' : Obj} (hk : k < n) (hB : b + 1 ≤ w.heap.size)
    (h1 : OwnI wr (b + 1) v1 (L1.take k)) (h2 : OwnI wr (b + 1) v2 (L2.take k)) (ha : ∀ g, v1.ownBlock = some g → v2.ownBlock ≠ some g) (hb : Below (b + 1) w wr)
    (n1 : OwnI w2 (b + 1) u1 (L1.take (k + 1))) (g1 : (wr.alloc o).grownBy w2 v1.ownBlock) (e1 : u1.ownBlock = v1.ownBlock ∨ u1.ownBlock = some (wr.heap.size + 1))
    (n2 : OwnI w4 (b + 1) u2 (L2.take (k + 1))) (g2 : (w2.alloc o').grownBy w4 v2.ownBlock) (e2 : u2.ownBlock = v2.ownBlock ∨ u2.ownBlock = some (w2.heap.size + 1)) :
    TwoRel n L1 L2 w b u1 u2 (.int .i64 ((k : Int) + 1)) w4 := by
  have hb1 : Below (b + 1) wr w2 := append_below h1 (Nat.le_trans hB hb.size) g1
  have hb2 : Below (b + 1) w w2 := hb.trans hb1
  have hv2 := beside h1 h2 ha g1
  have hs : wr.heap.size + 1 ≤ w2.heap.size := by
    have := g1.size
    simpa using this
  have hu1 : ∀ g, v2.ownBlock = some g → u1.ownBlock ≠ some g := fun g hg he => by
    rcases e1 with e | e
    · exact ha g (e.symm.trans he) hg
    · obtain ⟨_, _, _, q⟩ := ownsRow_block h2 hg
      rw [e] at he
      injection he with he
      omega
  refine ⟨k + 1, hk, by simp, beside hv2 n1 hu1 g2, n2, fun g he hg => ?_, hb2.trans (append_below hv2 (Nat.le_trans hB hb2.size) g2)⟩
  rcases e2 with e | e
  · exact hu1 g (e.symm.trans hg) he
  · obtain ⟨_, _, _, q⟩ := ownsRow_block n1 he
    rw [e] at hg
    injection hg with hg
    omega
theorem unitL_take (n k : Nat) (h : k < n) : (unitL n).take (k + 1) = (unitL n).take k ++ [(2 : Int) ^ k] := by
  have hl : k < (unitL n).length := by rw [unitL_len]; exact h
  rw [List.take_succ_eq_append_getElem hl]
  simp [unitL]
set_option maxHeartbeats 2000000 in
set_option maxRecDepth 100000 in
theorem specPas_yes (n : Nat) (w : World) (hn : n ≤ 6) : Calls Try.prog 44 #[.int .i64 n] w (PasRet n w) := by
  obtain ⟨i0, hi, hz0, hz1, hz2⟩ := info_parts infoI
  have i1 := inR_yes (n := (n : Int)) (lo := 0) (hi := 6) (by omega)
  go_enter Try.func44, Try.ntmps44
  go_wp2_with (go_at_call 96; refine (l10Bits_any _ _).mono ?_; rintro e w' ⟨rfl, rfl⟩)
  obtain ⟨W0, hW0⟩ : ∃ W0, W0 = w.alloc (.cells #[.int .i64 0, .slice none 0 0] 66) := ⟨_, rfl⟩
  have hz0' : W0.heap.size = w.heap.size + 1 := by rw [hW0]; simp
  have c0 : W0.cell? ⟨w.heap.size, 0, none⟩ = some (.int .i64 0) := by rw [hW0]; go_simp
  have c1 : W0.cell? ⟨w.heap.size, 1, none⟩ = some (.slice none 0 0) := by rw [hW0]; go_simp
  have f0 : ∀ i, W0.frozen? ⟨w.heap.size, i, none⟩ = false := fun i => by rw [hW0]; go_simp
  have B0 := Lib.hid (show Below w.heap.size w W0 by rw [hW0]; exact (Below.refl _ _).alloc (Nat.le_refl _) _)
  rw [← hW0]
  clear hW0
  have H0 := Lib.hid (show TwoRel n (unitL n) (pasL n) W0 w.heap.size (.slice (some ⟨w.heap.size + 1, 0, none⟩) 0 0) (.slice (some ⟨w.heap.size + 1 + 1, 0, none⟩) 0 0) (.int .i64 0) ((W0.alloc (.cells #[] 2)).alloc (.cells #[] 2)) from by
    have q1 := own_lit (B := w.heap.size + 1) W0 (by omega) [] (by simp)
    have q2 := own_lit (B := w.heap.size + 1) (W0.alloc (.cells #[] 2)) (by simp; omega) [] (by simp)
    rw [hz0'] at q1
    have hz1' : (W0.alloc (.cells #[] 2)).heap.size = w.heap.size + 1 + 1 := by simp [hz0']
    rw [hz1'] at q2
    refine ⟨0, Nat.zero_le _, rfl, ?_, q2, ?_, ((Below.refl _ _).alloc (by omega) _).alloc (by simp; omega) _⟩
    · exact World.ownsRow.alloc q1 _
    · intro g h1 h2
      have e1 : (w.heap.size + 1) = g := Option.some.inj h1
      have e2 : (w.heap.size + 1 + 1) = g := Option.some.inj h2
      omega)
  go_loopw [4, 5, 6] (fun v1 v2 i wr => TwoRel n (unitL n) (pasL n) W0 w.heap.size v1 v2 i wr) (fun _ _ i _ => n - (intOf i).toNat)
  case atStart => exact H0.out
  case round =>
    obtain ⟨k, hk, rfl, hO1, hO2, ha, hb⟩ := hrel
    have hw0 : w.heap.size + 1 ≤ W0.heap.size := by omega
    by_cases hlt : k < n
    · obtain ⟨p1, p2⟩ := pw_bd6 (b := k) (by omega)
      have HO1 := Lib.hid hO1
      have HO2 := Lib.hid hO2
      have HB := Lib.hid hb
      have HA := Lib.hid ha
      have hlen : ((pasL n).take k).length = k := by rw [List.length_take, pasL_len]; omega
      have hlen1 : ((unitL n).take k).length = k := by rw [List.length_take, unitL_len]; omega
      have HL := Lib.hid (And.intro hlen hlen1)
      have hsz := hb.size
      have hown := World.ownsRow.alloc hO1 (.cells #[.int .i64 ((2 : Int) ^ k)] 2)
      rw [hlen1] at hown
      have HW := Lib.hid hown
      clear hO1 hO2 ha hb hown hlen hlen1
      go_wp2
      go_loop [7, 8] (fun row j => ∃ m : Nat, k + m ≤ n ∧ j = .int .i64 ((k + m : Nat) : Int) ∧ row = .int .i64 (rowTo k m : Nat)) (fun _ j => n - (intOf j).toNat)
      case atStart => exact ⟨0, by omega, rfl, rfl⟩
      case round =>
        obtain ⟨m, hm, rfl, rfl⟩ := hrel
        by_cases hmt : k + m < n
        · have hr := rowTo_lt k m
          have HR := Lib.hid (row_int (c := ch (k + m) k) (r := rowTo k m) (j := k + m) (by omega) hr)
          clear hr
          go_wp2_with fail
          refine (l06Choose_any (k + m) k _ (by omega) (by omega)).mono ?_
          rintro e w2 ⟨rfl, rfl⟩
          go_wp2_with fail
          go_round
          case rel => exact ⟨m + 1, by omega, by go_num, by rw [rowTo, ← HR.out]; simp⟩
          case measure => simp [intOf]; omega
        · have HK := Lib.hid (show m = n - k by omega)
          go_wp2_with (at_builtin; refine wpList_append_own_at _ rfl (.tmp 35) (.tmp 39) 30 rfl (w.heap.size + 1) 2 i0 (.int .i64 0) 1 8 Try.underlying30 hi hz0 hz1 hz2 rfl (by decide) _ _ _ rfl HW.out ⟨wr.heap.size, 0, none⟩ 1 1 [.int .i64 ((2 : Int) ^ k)] rfl rfl ?p1a ?p2a ?p3a ?p4a ?p5a ?_)
          try case p1a => exact news_one _ _ _ (by simp)
          try case p2a => first | exact one_int | rfl | simp
          try case p3a => first | (simp only [maxLen]; omega) | omega
          try case p4a => omega
          try case p5a => first | (simp only [World.size_alloc]; omega) | omega
          intro u1 w2 hown' hg' _ he1
          have N1 := Lib.hid (show OwnI w2 (w.heap.size + 1) u1 ((unitL n).take (k + 1)) from by
            rw [unitL_take n k hlt]
            exact OwnI_push HO1.out (Nat.le_trans hw0 hsz) (by rw [HL.out.2]; exact hown'))
          have G1 := Lib.hid hg'
          have E1 := Lib.hid he1
          have o2 := beside HO1.out HO2.out HA.out hg'
          have hown2 := World.ownsRow.alloc o2 (.cells #[.int .i64 (rowTo k m : Nat)] 2)
          rw [HL.out.1] at hown2
          have HW2 := Lib.hid hown2
          have HO2' := Lib.hid o2
          have hsz2 : w.heap.size + 1 ≤ w2.heap.size := by have := hg'.size; simp at this; omega
          clear hown' hg' he1 o2 hown2
          go_wp2_with (at_builtin; refine wpList_append_own_at _ rfl (.tmp 41) (.tmp 43) 30 rfl (w.heap.size + 1) 2 i0 (.int .i64 0) 1 8 Try.underlying30 hi hz0 hz1 hz2 rfl (by decide) _ _ _ rfl HW2.out ⟨w2.heap.size, 0, none⟩ 1 1 [.int .i64 (rowTo k m : Nat)] rfl rfl ?p1b ?p2b ?p3b ?p4b ?p5b ?_)
          try case p1b => exact news_one _ _ _ (by simp)
          try case p2b => first | exact one_int | rfl | simp
          try case p3b => first | (simp only [maxLen]; omega) | omega
          try case p4b => omega
          try case p5b => first | (simp only [World.size_alloc]; omega) | omega
          intro u2 w4 hown' hg' _ he2
          have N2 := Lib.hid (show OwnI w4 (w.heap.size + 1) u2 ((pasL n).take (k + 1)) from by
            rw [pasL_take n k hlt, ← HK.out]
            exact OwnI_push HO2'.out hsz2 (by rw [HL.out.1]; exact hown'))
          have HN := Lib.hid (TwoRel.next (w := W0) (b := w.heap.size) hlt hw0 HO1.out HO2.out HA.out HB.out N1.out G1.out (by simpa using E1.out) N2.out hg' (by simpa using he2))
          clear hown' hg' he2
          go_wp2
          go_roundw
          case rel => exact HN.out
          case measure => simp [intOf]; omega
    · obtain rfl : k = n := by omega
      rw [show (pasL k).take k = pasL k from List.take_of_length_le (by rw [pasL_len]; exact Nat.le_refl _)] at hO2
      rw [show (unitL k).take k = unitL k from List.take_of_length_le (by rw [unitL_len]; exact Nat.le_refl _)] at hO1
      obtain ⟨A4, c4, e4, _⟩ := hO1.form
      obtain ⟨A5, c5, e5, _⟩ := hO2.form
      rw [unitL_len] at e4
      rw [pasL_len] at e5
      subst e4
      subst e5
      have B3 := Lib.hid hb
      have hz3 : w.heap.size < wr.heap.size := by have := hb.size; omega
      have e0 := (hb.cell (p := ⟨w.heap.size, 0, none⟩) (by show w.heap.size < _; omega)).trans c0
      have e1 := (hb.cell (p := ⟨w.heap.size, 1, none⟩) (by show w.heap.size < _; omega)).trans c1
      have k0 := (hb.frozen (p := ⟨w.heap.size, 0, none⟩) (by show w.heap.size < _; omega)).trans (f0 0)
      have k1 := (hb.frozen (p := ⟨w.heap.size, 1, none⟩) (by show w.heap.size < _; omega)).trans (f0 1)
      have O3 := Lib.hid (fun x y => OwnII.two_set (b := w.heap.size) (x := x) (y := y) hO1 hO2 (Nat.le_trans hw0 hb.size) ha (by omega))
      clear hO1 hO2 ha hb c0 c1 f0
      go_wp2
      refine bodyPost_ret (v := .tuple #[.agg #[.int .i64 (k : Int), .slice (some ⟨wr.heap.size, 0, none⟩) 2 2], .bool true]) (by simp [results, Try.results44, go_sem, hz3, e0, e1]) rfl ?_
      exact ⟨wr.heap.size, _, rfl, (O3.out _ _).base (by omega), (((B0.out.trans (B3.out.mono (by omega))).setCell (Nat.le_refl _) _).setCell (Nat.le_refl _) _).alloc (by simp; omega) _⟩
theorem specPas_no (n : Int) (w : World) (h : inR n 0 6 = false) : Calls Try.prog 44 #[.int .i64 n] w (NoNet w) := by
  have hb := (Below.refl w.heap.size w).alloc (Nat.le_refl _) (.cells #[.int .i64 0, .slice none 0 0] 66)
  have HB := Lib.hid hb
  clear hb
  go_enter Try.func44, Try.ntmps44
  go_wp2_with (go_at_call 96; refine (l10Bits_any _ _).mono ?_; rintro e w' ⟨rfl, rfl⟩)
  refine bodyPost_ret (v := .tuple #[.agg #[.int .i64 0, .slice none 0 0], .bool false]) (by simp [results, Try.results44, go_sem]) rfl ⟨rfl, HB.out⟩
theorem implPas_no (n : Int) (w : World) (h : inR n 0 6 = false) : Calls Try.prog 45 #[.int .i64 n] w (NoNet w) := by
  have hb := (Below.refl w.heap.size w).alloc (Nat.le_refl _) (.cells #[.int .i64 0, .slice none 0 0] 66)
  have HB := Lib.hid hb
  clear hb
  go_enter Try.func45, Try.ntmps45
  go_wp2_with (go_at_call 98; refine (isNetBits_any _ _).mono ?_; rintro e w' ⟨rfl, rfl⟩)
  refine bodyPost_ret (v := .tuple #[.agg #[.int .i64 0, .slice none 0 0], .bool false]) (by simp [results, Try.results45, go_sem]) rfl ⟨rfl, HB.out⟩
theorem GNetRet_of_pas {n : Nat} {w : World} {e : Ending} {w' : World} (h : PasRet n w e w') : GNetRet n true [unitL n, pasL n] w e w' := by
  obtain ⟨g, us, h1, h2, h3⟩ := h
  exact ⟨some ⟨g, 0, none⟩, 2, us, h1, h2, h3⟩
theorem pas_both (n : Int) : ∃ bits ok xss, xss.length ≤ 2 ∧ tot xss ≤ 12 ∧ (∀ w, Calls Try.prog 44 #[.int .i64 n] w (GNetRet bits ok xss w)) ∧ (∀ w, Calls Try.prog 45 #[.int .i64 n] w (GNetRet bits ok xss w)) := by
  cases h : inR n 0 6 with
  | false => exact ⟨0, false, [], by simp, by simp [tot], fun w => (specPas_no n w h).mono fun e w' q => .of_no q, fun w => (implPas_no n w h).mono fun e w' q => .of_no q⟩
  | true =>
    have hr : 0 ≤ n ∧ n ≤ 6 := by simpa [inR] using h
    obtain ⟨k, rfl⟩ : ∃ k : Nat, n = k := ⟨n.toNat, by omega⟩
    have hk : k ≤ 6 := by omega
    exact ⟨k, true, [unitL k, pasL k], by simp, by simp [tot, pasL_len, unitL_len]; omega, fun w => (specPas_yes k w hk).mono fun e w' q => GNetRet_of_pas q, fun w => (implPas_yes k w hk).mono fun e w' q => GNetRet_of_pas q⟩

set_option maxHeartbeats 1000000 in
theorem exactPascalNet_any (n : Int) (w : World) :
    Calls Try.prog 10 #[.int .i64 n] w fun e w' => e = .returned (.bool true) ∧ Below w.heap.size w w' := by
  obtain ⟨bits, ok, xss, hL, hT, hS, hI⟩ := pas_both n
  have HS := Lib.hid hS
  have HI := Lib.hid hI
  clear hS hI
  go_enter Try.func10, Try.ntmps10
  go_wp2_with fail
  refine (HS.out _).mono ?_
  rintro e w1 ⟨A0, c0, us0, rfl, o0, b1⟩
  have O0 := Lib.hid o0
  have B1 := Lib.hid b1
  clear o0 b1
  go_wp2_with fail
  obtain ⟨W1, hW1⟩ : ∃ W1, W1 = w1.alloc (.cells #[.int .i64 bits, .slice A0 xss.length c0] 66) := ⟨_, rfl⟩
  have zW1 : W1.heap.size = w1.heap.size + 1 := by rw [hW1]; simp
  have XW1 := Lib.hid (show Below w1.heap.size w1 W1 by rw [hW1]; exact (Below.refl _ _).alloc (Nat.le_refl _) _)
  have KW1 := Lib.hid (show Box W1 w1.heap.size bits (.slice A0 xss.length c0) by rw [hW1]; exact Box.new _ _ _)
  rw [← hW1]
  clear hW1
  have O0' := Lib.hid (O0.out.below XW1.out)
  refine (HI.out W1).mono ?_
  rintro e w2 ⟨A1, c1, us1, rfl, o1, b2⟩
  have O1 := Lib.hid o1
  have B2 := Lib.hid b2
  have hs2 := b2.size
  have K12 := Lib.hid (KW1.out.below b2)
  have l12 := K12.out.lt
  clear o1 b2
  have q0a := K12.out.c0
  have q0b := K12.out.c1
  go_wp2_with fail
  clear q0a q0b
  obtain ⟨W2, hW2⟩ : ∃ W2, W2 = w2.alloc (.cells #[.int .i64 bits, .slice A1 xss.length c1] 66) := ⟨_, rfl⟩
  have zW2 : W2.heap.size = w2.heap.size + 1 := by rw [hW2]; simp
  have XW2 := Lib.hid (show Below w2.heap.size w2 W2 by rw [hW2]; exact (Below.refl _ _).alloc (Nat.le_refl _) _)
  have KW2 := Lib.hid (show Box W2 w2.heap.size bits (.slice A1 xss.length c1) by rw [hW2]; exact Box.new _ _ _)
  rw [← hW2]
  clear hW2
  have O1' := Lib.hid (O1.out.below XW2.out)
  have O2 := Lib.hid ((O0'.out.below B2.out).below XW2.out)
  have BW2 := Lib.hid (Base.Below.nextA B2.out XW2.out)
  have K1W := Lib.hid (K12.out.below XW2.out)
  refine (eqNet_yes A1 A0 c1 c0 W2.heap.size W2.heap.size bits xss W2 O1'.out.rd O2.out.rd (by omega) (by omega) (by omega) (by omega)).mono ?_
  rintro e w3 ⟨rfl, hd⟩
  have hs3 := hd.size
  have O13 := Lib.hid (O1'.out.below hd)
  have B3 := Lib.hid (Base.Below.nextA BW2.out hd)
  have K13 := Lib.hid (K1W.out.below hd)
  have K23 := Lib.hid (KW2.out.below hd)
  have O03 := Lib.hid (O2.out.below hd)
  clear hd
  have q0a := K13.out.c0
  have q0b := K13.out.c1
  have q1a := K23.out.c0
  have q1b := K23.out.c1
  go_wp2_with fail
  clear q0a q0b q1a q1b
  refine (markNet_any A1 c1 W1.heap.size 1 bits xss us1 w3 O13.out (by omega) (by omega) (by omega)).mono ?_
  rintro e w4 ⟨rfl, o4, b4, n4⟩
  have O4 := Lib.hid o4
  have B4 := Lib.hid (B3.out.trans b4)
  have hs4 := b4.size
  have K14 := Lib.hid (K13.out.kept n4)
  have K24 := Lib.hid (K23.out.kept n4)
  have O04 := Lib.hid (O0'.out.below (B3.out.trans b4))
  clear o4 b4 n4
  have h4 : 1 + tot xss ≤ 1099511627776 := by omega
  have q0a := K14.out.c0
  have q0b := K14.out.c1
  have q1a := K24.out.c0
  have q1b := K24.out.c1
  go_wp2_with fail
  clear q0a q0b q1a q1b
  refine (heldNet_yes A1 c1 w4.heap.size 1 bits xss w4 (by have := O4.out; rw [← mk_len 1 xss] at this; exact this.rd) (by omega) (by omega) (by omega)).mono ?_
  rintro e w5 ⟨rfl, b5⟩
  have B5 := Lib.hid b5
  have hs5 := b5.size
  have K15 := Lib.hid (K14.out.below b5)
  have K25 := Lib.hid (K24.out.below b5)
  clear b5
  have q0a := K15.out.c0
  have q0b := K15.out.c1
  have q1a := K25.out.c0
  have q1b := K25.out.c1
  go_wp2_with fail
  clear q0a q0b q1a q1b
  refine (HI.out w5).mono ?_
  rintro e w6 ⟨A2, c2, us2, rfl, o6, b6⟩
  have O6 := Lib.hid o6
  have B6 := Lib.hid (Base.Below.nextA B5.out b6)
  have hs6 := b6.size
  have K16 := Lib.hid (K15.out.below b6)
  have K26 := Lib.hid (K25.out.below b6)
  have l16 := K16.out.lt
  have l26 := K26.out.lt
  clear o6 b6
  have q0a := K16.out.c0
  have q0b := K16.out.c1
  have q1a := K26.out.c0
  have q1b := K26.out.c1
  go_wp2_with fail
  clear q0a q0b q1a q1b
  obtain ⟨W6, hW6⟩ : ∃ W6, W6 = w6.alloc (.cells #[.int .i64 bits, .slice A2 xss.length c2] 66) := ⟨_, rfl⟩
  have zW6 : W6.heap.size = w6.heap.size + 1 := by rw [hW6]; simp
  have XW6 := Lib.hid (show Below w6.heap.size w6 W6 by rw [hW6]; exact (Below.refl _ _).alloc (Nat.le_refl _) _)
  have KW6 := Lib.hid (show Box W6 w6.heap.size bits (.slice A2 xss.length c2) by rw [hW6]; exact Box.new _ _ _)
  rw [← hW6]
  clear hW6
  have O6' := Lib.hid (O6.out.below XW6.out)
  have B6' := Lib.hid (Base.Below.nextA B6.out XW6.out)
  have K1X := Lib.hid (K16.out.below XW6.out)
  have K2X := Lib.hid (K26.out.below XW6.out)
  refine (eqNet_yes A2 A0 c2 c0 W6.heap.size W6.heap.size bits xss W6 O6'.out.rd (O04.out.below B6'.out).rd (by omega) (by omega) (by omega) (by omega)).mono ?_
  rintro e w7 ⟨rfl, b7⟩
  have B7 := Lib.hid (Base.Below.nextA B6'.out b7)
  have hs7 := b7.size
  have K17 := Lib.hid (K1X.out.below b7)
  have K27 := Lib.hid (K2X.out.below b7)
  clear b7
  have q0a := K17.out.c0
  have q0b := K17.out.c1
  have q1a := K27.out.c0
  have q1b := K27.out.c1
  go_wp2_with fail
  clear q0a q0b q1a q1b
  refine (heldNet_yes A1 c1 w7.heap.size 1 bits xss w7 (by have := O4.out.below B7.out; rw [← mk_len 1 xss] at this; exact this.rd) (by omega) (by omega) (by omega)).mono ?_
  rintro e w8 ⟨rfl, b8⟩
  have B8 := Lib.hid (Base.Below.nextA (Base.Below.nextA (Base.Below.nextA (Base.Below.nextA B1.out XW1.out) B4.out) B7.out) b8)
  clear b8
  go_wp2
  go_ret
  exact ⟨rfl, B8.out⟩
end Go.Proofs.Ythaoopgkfhjoiaa.Pas

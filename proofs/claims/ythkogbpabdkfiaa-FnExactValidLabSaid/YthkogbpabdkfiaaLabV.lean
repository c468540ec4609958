/- Whether a lab is valid, of the program and of the reference. -/
import Derived.Test.YthkogbpabdkfiaaLabM
import Derived.Laws.Cover1
namespace Go.Proofs.Ythkogbpabdkfiaa.LabV
open Go.RowKit Go.Proofs.Ythkogbpabdkfiaa Go.Proofs.Ythkogbpabdkfiaa.Base Go.Proofs.Ythkogbpabdkfiaa.Mem Go.Proofs.Ythkogbpabdkfiaa.Cpy Go.Proofs.Ythkogbpabdkfiaa.MemS Go.Proofs.Ythkogbpabdkfiaa.Str Go.Proofs.Ythkogbpabdkfiaa.LabM Go.Proofs.Ythkogbpabdkfiaa.Take
set_option linter.unusedVariables false
/-- the first bytes are small letters -/
def lowTo (s : ByteArray) : Nat → Bool
  | 0 => true
  | i + 1 => lowTo s i && (if h : i < s.size then decide (97 ≤ (s[i]'h).toNat) && decide ((s[i]'h).toNat ≤ 122) else false)
theorem lowTo_no {s : ByteArray} {i : Nat} (h : lowTo s i = false) : ∀ n, i ≤ n → lowTo s n = false
  | 0, hn => by obtain rfl : i = 0 := by omega
                exact h
  | n + 1, hn => by
    by_cases e : i = n + 1
    · subst e; exact h
    · rw [lowTo, lowTo_no h n (by omega)]; rfl
theorem lowTo_step {s : ByteArray} {i : Nat} (h : lowTo s i = true) (hi : i < s.size) {x : Nat} (hx : (s[i]'hi).toNat = x) : lowTo s (i + 1) = (decide (97 ≤ x) && decide (x ≤ 122)) := by
  rw [lowTo, h, dif_pos hi, hx, Bool.true_and]
def nameB (s : ByteArray) : Bool := lowTo s s.size && inR (s.size : Int) 1 10
set_option maxHeartbeats 1000000 in
theorem implName_any (s : ByteArray) (hs : s.size ≤ 9223372036854775807) (w : World) : Calls Try.prog 70 #[.string s] w fun e w' => e = .returned (.bool (nameB s)) ∧ w = w' := by
  go_enter Try.func70, Try.ntmps70
  go_wp2
  go_loop [6] (fun i => ∃ k : Nat, k ≤ s.size ∧ i = .int .i64 (k : Int) ∧ Hid (lowTo s k = true)) (fun i => s.size - (intOf i).toNat)
  case atStart => exact ⟨0, Nat.zero_le _, rfl, Lib.hid rfl⟩
  case round =>
    obtain ⟨k, hk, rfl, hL⟩ := hrel
    by_cases hlt : k < s.size
    · obtain ⟨x, hx⟩ : ∃ x, (s[k]'hlt).toNat = x := ⟨_, rfl⟩
      have HN := Lib.hid (lowTo_step hL.out hlt hx)
      have HF := Lib.hid (fun (h : lowTo s (k + 1) = false) => lowTo_no h s.size hlt)
      by_cases h1 : x < 97
      · go_wp2
        go_ret
        exact ⟨ret_bool (by rw [nameB, HF.out (by rw [HN.out]; simp; omega)]; rfl), rfl⟩
      · by_cases h2 : 122 < x
        · go_wp2
          go_ret
          exact ⟨ret_bool (by rw [nameB, HF.out (by rw [HN.out]; simp; omega)]; rfl), rfl⟩
        · go_wp2
          go_round
          case rel => exact ⟨k + 1, hlt, by go_num, Lib.hid (by rw [HN.out]; simp; omega)⟩
          case measure => simp [intOf]; omega
    · obtain rfl : k = s.size := by omega
      go_wp2_with (go_at_call 58; refine (inRange_any _ _ _ _).mono ?_; rintro e w' ⟨rfl, rfl⟩)
      go_ret
      exact ⟨ret_bool (by rw [nameB, hL.out, Bool.true_and]), rfl⟩
set_option maxHeartbeats 1000000 in
theorem specName_any (s : ByteArray) (hs : s.size ≤ 9223372036854775807) (w : World) : Calls Try.prog 108 #[.string s] w fun e w' => e = .returned (.bool (nameB s)) ∧ w = w' := by
  go_enter Try.func108, Try.ntmps108
  go_wp2
  go_loop [3] (fun i => ∃ k : Nat, k ≤ s.size ∧ i = .int .i64 (k : Int) ∧ Hid (lowTo s k = true)) (fun i => s.size - (intOf i).toNat)
  case atStart => exact ⟨0, Nat.zero_le _, rfl, Lib.hid rfl⟩
  case round =>
    obtain ⟨k, hk, rfl, hL⟩ := hrel
    by_cases hlt : k < s.size
    · obtain ⟨x, hx⟩ : ∃ x, (s[k]'hlt).toNat = x := ⟨_, rfl⟩
      have HN := Lib.hid (lowTo_step hL.out hlt hx)
      have HF := Lib.hid (fun (h : lowTo s (k + 1) = false) => lowTo_no h s.size hlt)
      by_cases h1 : x < 97
      · go_wp2
        go_ret
        exact ⟨ret_bool (by rw [nameB, HF.out (by rw [HN.out]; simp; omega)]; rfl), rfl⟩
      · by_cases h2 : 122 < x
        · go_wp2
          go_ret
          exact ⟨ret_bool (by rw [nameB, HF.out (by rw [HN.out]; simp; omega)]; rfl), rfl⟩
        · go_wp2
          go_round
          case rel => exact ⟨k + 1, hlt, by go_num, Lib.hid (by rw [HN.out]; simp; omega)⟩
          case measure => simp [intOf]; omega
    · obtain rfl : k = s.size := by omega
      have HR : Hid (nameB s = inR (s.size : Int) 1 10) := Lib.hid (by rw [nameB, hL.out, Bool.true_and])
      by_cases h1 : 1 ≤ s.size
      · by_cases h2 : s.size ≤ 10
        · have HB := Lib.hid (inR_yes (n := (s.size : Int)) (lo := 1) (hi := 10) (by omega))
          go_wp2
          go_ret
          exact ⟨ret_bool (by rw [HR.out, HB.out]; try simp; try omega), rfl⟩
        · have HB := Lib.hid (inR_no (n := (s.size : Int)) (lo := 1) (hi := 10) (by omega))
          go_wp2
          go_ret
          exact ⟨ret_bool (by rw [HR.out, HB.out]; try simp; try omega), rfl⟩
      · have HB := Lib.hid (inR_no (n := (s.size : Int)) (lo := 1) (hi := 10) (by omega))
        go_wp2
        go_ret
        exact ⟨ret_bool (by rw [HR.out, HB.out]; try simp; try omega), rfl⟩
set_option maxHeartbeats 1000000 in
theorem l11IsAt_any (b q : Nat) (K W T m f a s : Int) (w : World) (h0 : w.cell? ⟨b, q, none⟩ = some (.int .i64 K)) (h1 : w.cell? ⟨b, q + 1, none⟩ = some (.int .i64 W)) (h2 : w.cell? ⟨b, q + 2, none⟩ = some (.int .i64 T))
    (h3 : w.cell? ⟨b, q + 3, none⟩ = some (.int .i64 m)) (h4 : w.cell? ⟨b, q + 4, none⟩ = some (.int .i64 f)) (h5 : w.cell? ⟨b, q + 5, none⟩ = some (.int .i64 a)) (h6 : w.cell? ⟨b, q + 6, none⟩ = some (.int .i64 s)) :
    Calls Try.prog 109 #[.pointer (some ⟨b, q, none⟩)] w fun e w' => e = .returned (.bool (streamB K W T m f a s)) ∧ ∃ n, w' = w.drewN n := by
  by_cases hK : K = 0
  · subst hK
    cases hz : zc m f a
    · have he := eqCong hz
      go_enter Try.func109, Try.ntmps109
      go_wp2
      go_quiet (fail)
      go_wp2
      go_ret
      exact ⟨ret_bool (by simp [streamB, hz]), _, rfl⟩
    · have he := eqCong hz
      cases hb : Reg.bothR W T s
      all_goals
        go_enter Try.func109, Try.ntmps109
        go_wp2
        go_quiet ((go_at_call 136; exact l02Both_q b (q + 1) hb _ h1 h2 _))
        go_wp2
        go_ret
        exact ⟨ret_bool (by simp [streamB, hz, hb]), _, rfl⟩
  · by_cases hK1 : K = 1
    · subst hK1
      clear hK
      cases hz : zr W T
      · have he := eqReg hz
        go_enter Try.func109, Try.ntmps109
        go_wp2
        go_quiet (fail)
        go_wp2
        go_ret
        exact ⟨ret_bool (by simp [streamB, hz]), _, rfl⟩
      · have he := eqReg hz
        cases hb : Cong.bothB m f a s
        all_goals
          go_enter Try.func109, Try.ntmps109
          go_wp2
          go_quiet ((go_at_call 137; exact l03Both_q b (q + 3) hb _ h3 h4 h5 _))
          go_wp2
          go_ret
          exact ⟨ret_bool (by simp [streamB, hz, hb]), _, rfl⟩
    · have g0 : (K == 0) = false := by simpa using hK
      have g1 : (K == 1) = false := by simpa using hK1
      have HF := Lib.hid (show streamB K W T m f a s = false by simp [streamB, hK, hK1])
      clear hK hK1
      go_enter Try.func109, Try.ntmps109
      go_wp2
      go_ret
      exact ⟨ret_bool HF.out.symm, 0, rfl⟩
theorem specName_q {s : ByteArray} {r : Bool} (h : nameB s = r) (hs : s.size ≤ 9223372036854775807) (w : World) (n : Nat) :
    Calls Try.prog 108 #[.string s] (w.drewN n) fun e w' => e = .returned (.bool r) ∧ ∃ n, w' = w.drewN n := by
  subst h
  exact (specName_any s hs (w.drewN n)).mono fun _ _ ⟨h1, h2⟩ => ⟨h1, n, h2.symm⟩
theorem l11IsAt_q (b q : Nat) {K W T m f a s : Int} {r : Bool} (h : streamB K W T m f a s = r) (w : World) (h0 : w.cell? ⟨b, q, none⟩ = some (.int .i64 K)) (h1 : w.cell? ⟨b, q + 1, none⟩ = some (.int .i64 W)) (h2 : w.cell? ⟨b, q + 2, none⟩ = some (.int .i64 T))
    (h3 : w.cell? ⟨b, q + 3, none⟩ = some (.int .i64 m)) (h4 : w.cell? ⟨b, q + 4, none⟩ = some (.int .i64 f)) (h5 : w.cell? ⟨b, q + 5, none⟩ = some (.int .i64 a)) (h6 : w.cell? ⟨b, q + 6, none⟩ = some (.int .i64 s)) (n : Nat) :
    Calls Try.prog 109 #[.pointer (some ⟨b, q, none⟩)] (w.drewN n) fun e w' => e = .returned (.bool r) ∧ ∃ n, w' = w.drewN n := by
  subst h
  exact (l11IsAt_any b q K W T m f a s (w.drewN n) (by simpa using h0) (by simpa using h1) (by simpa using h2) (by simpa using h3) (by simpa using h4) (by simpa using h5) (by simpa using h6)).mono fun _ _ ⟨h1, k, h2⟩ => ⟨h1, n + k, by rw [h2, World.drewN_drewN]⟩
/-- one text stands before another -/
def lessS (x y : ByteArray) : Bool := Op.bytesLess x.toList y.toList
/-- the stream at j of a list -/
def strB (fs : List Int) (j : Nat) : Bool := streamB (fs.getD (7 * j + 0) 0) (fs.getD (7 * j + 1) 0) (fs.getD (7 * j + 2) 0) (fs.getD (7 * j + 3) 0) (fs.getD (7 * j + 4) 0) (fs.getD (7 * j + 5) 0) (fs.getD (7 * j + 6) 0)
def entB (ss : List ByteArray) (fs : List Int) (j : Nat) : Bool := nameB (ss.getD j ByteArray.empty) && (strB fs j && (j == 0 || lessS (ss.getD (j - 1) ByteArray.empty) (ss.getD j ByteArray.empty)))
def labTo (ss : List ByteArray) (fs : List Int) : Nat → Bool
  | 0 => true
  | j + 1 => labTo ss fs j && entB ss fs j
theorem labTo_no {ss : List ByteArray} {fs : List Int} {i : Nat} (h : labTo ss fs i = false) : ∀ n, i ≤ n → labTo ss fs n = false
  | 0, hn => by obtain rfl : i = 0 := by omega
                exact h
  | n + 1, hn => by
    by_cases e : i = n + 1
    · subst e; exact h
    · rw [labTo, labTo_no h n (by omega)]; rfl
def labB (ss : List ByteArray) (n : Nat) (fs : List Int) : Bool := decide (n ≤ 6) && (decide (ss.length = n) && labTo ss fs n)
set_option maxHeartbeats 4000000 in
theorem l11Lab_any (b : Nat) (A A' : Option Addr) (c c' B n : Nat) (ss : List ByteArray) (fs : List Int) (w : World) (h0 : w.cell? ⟨b, 0, none⟩ = some (.slice A ss.length c)) (h1 : w.cell? ⟨b, 1, none⟩ = some (.slice A' n c'))
    (hx : RdT w B A ss) (hy : RdS w B A' n fs) (hs : ∀ i, i < ss.length → (ss.getD i ByteArray.empty).size ≤ 9223372036854775807) (hl : ss.length ≤ 1048576) (hn : n ≤ 1048576) :
    Calls Try.prog 67 #[.pointer (some ⟨b, 0, none⟩)] w fun e w' => e = .returned (.bool (labB ss n fs)) ∧ ∃ m, w' = w.drewN m := by
  by_cases hn6 : 6 < ss.length
  · have HF : Hid (labB ss n fs = false) := Lib.hid (by
      unfold labB
      by_cases e : ss.length = n
      · simp [show ¬ n ≤ 6 by omega]
      · simp [e])
    have hd : (6 : Int) < (ss.length : Int) := by omega
    clear hx hy hs
    go_enter Try.func67, Try.ntmps67
    go_wp2
    go_quiet (fail)
    go_wp2
    go_ret
    exact ⟨ret_bool HF.out.symm, _, rfl⟩
  have hd : ¬ ((6 : Int) < (ss.length : Int)) := by omega
  by_cases hne : ss.length = n
  · have HX := Lib.hid hx
    have HY := Lib.hid hy
    have HS := Lib.hid hs
    obtain ⟨N, hN⟩ : ∃ N, N = ss.length := ⟨_, rfl⟩
    have HB : Hid (labB ss n fs = labTo ss fs N) := Lib.hid (by simp [labB, hN, hne, show n ≤ 6 by omega])
    have HE := Lib.hid (hne.symm.trans hN.symm)
    obtain rfl : n = N := by omega
    rw [← hN] at h0 hd
    have hn6' : n ≤ 6 := by omega
    have HNl := Lib.hid hN
    clear hx hy hs hN hne hn6 hl
    go_enter Try.func67, Try.ntmps67
    go_wp2
    go_quiet (fail)
    go_wp2
    go_loopw [3] (fun i wr => ∃ (k m : Nat), k ≤ n ∧ i = .int .i64 (k : Int) ∧ Hid (labTo ss fs k = true) ∧ wr = w.drewN m) (fun i _ => n - (intOf i).toNat)
    case atStart => exact ⟨0, _, Nat.zero_le _, rfl, Lib.hid rfl, rfl⟩
    case round =>
      obtain ⟨k, m, hk, rfl, hL, hwr⟩ := hrel
      obtain ⟨W, hW⟩ : ∃ W, W = wr := ⟨_, rfl⟩
      have e0 : wr.cell? ⟨b, 0, none⟩ = some (.slice A n c) := by rw [hwr]; simpa using h0
      have e1 : wr.cell? ⟨b, 1, none⟩ = some (.slice A' n c') := by rw [hwr]; simpa using h1
      have HW := Lib.hid hwr
      by_cases hlt : k < n
      · obtain ⟨bs, os, rfl, _, hc⟩ := HX.out (by have := HNl.out; omega)
        obtain ⟨bt, ot, rfl, _, hd⟩ := HY.out.at7 hlt
        have g1 : wr.cell? ⟨bs, os + k, none⟩ = some (.string (ss.getD k ByteArray.empty)) := by rw [hwr]; simpa using hc k (by have := HNl.out; omega)
        have gp : 0 < k → wr.cell? ⟨bs, os + (k - 1), none⟩ = some (.string (ss.getD (k - 1) ByteArray.empty)) := fun _ => by rw [hwr]; simpa using hc (k - 1) (by have := HNl.out; omega)
        have d0 : wr.cell? ⟨bt, ot + k * 7, none⟩ = some (.int .i64 (fs.getD (7 * k + 0) 0)) := by rw [hwr]; simpa using hd.c0
        have d1 : wr.cell? ⟨bt, ot + k * 7 + 1, none⟩ = some (.int .i64 (fs.getD (7 * k + 1) 0)) := by rw [hwr]; simpa using hd.c1
        have d2 : wr.cell? ⟨bt, ot + k * 7 + 2, none⟩ = some (.int .i64 (fs.getD (7 * k + 2) 0)) := by rw [hwr]; simpa using hd.c2
        have d3 : wr.cell? ⟨bt, ot + k * 7 + 3, none⟩ = some (.int .i64 (fs.getD (7 * k + 3) 0)) := by rw [hwr]; simpa using hd.c3
        have d4 : wr.cell? ⟨bt, ot + k * 7 + 4, none⟩ = some (.int .i64 (fs.getD (7 * k + 4) 0)) := by rw [hwr]; simpa using hd.c4
        have d5 : wr.cell? ⟨bt, ot + k * 7 + 5, none⟩ = some (.int .i64 (fs.getD (7 * k + 5) 0)) := by rw [hwr]; simpa using hd.c5
        have d6 : wr.cell? ⟨bt, ot + k * 7 + 6, none⟩ = some (.int .i64 (fs.getD (7 * k + 6) 0)) := by rw [hwr]; simpa using hd.c6
        have HS1 := Lib.hid (fun r (h : nameB (ss.getD k ByteArray.empty) = r) m => specName_q h (HS.out k (by have := HNl.out; omega)) wr m)
        have HS2 := Lib.hid (fun r (h : strB fs k = r) m => l11IsAt_q bt (ot + k * 7) h wr d0 d1 d2 d3 d4 d5 d6 m)
        have HNo := Lib.hid (fun (h : entB ss fs k = false) => show labB ss n fs = false by rw [HB.out]; exact labTo_no (i := k + 1) (by rw [labTo, h, Bool.and_false]) n hlt)
        have HYe := Lib.hid (fun (h : entB ss fs k = true) => show labTo ss fs (k + 1) = true by rw [labTo, h, hL.out]; rfl)
        unfold entB at HNo HYe
        clear hL d0 d1 d2 d3 d4 d5 d6 hc hd hwr
        generalize ss.getD k ByteArray.empty = x at *
        generalize ss.getD (k - 1) ByteArray.empty = y at *
        cases q1 : nameB x
        · have C1 := Lib.hid (HS1.out _ q1)
          go_wp2
          go_quiet ((go_at_call 108; exact C1.out _))
          go_wp2
          go_ret
          exact ⟨ret_bool (HNo.out (by rw [q1]; rfl)).symm, _, by rw [HW.out, World.drewN_drewN]⟩
        · have C1 := Lib.hid (HS1.out _ q1)
          by_cases hk0 : k = 0
          · subst hk0
            have H2 := HS2.out
            simp only [Nat.zero_mul, Nat.add_zero] at H2
            rw [Nat.add_zero] at g1
            cases q2 : strB fs 0
            · have C2 := Lib.hid (H2 _ q2)
              go_wp2
              go_quiet ((first | (go_at_call 108; exact C1.out _) | (go_at_call 109; exact C2.out _)))
              go_wp2
              go_ret
              exact ⟨ret_bool (HNo.out (by rw [q1, q2]; rfl)).symm, _, by rw [HW.out, World.drewN_drewN]⟩
            · have C2 := Lib.hid (H2 _ q2)
              go_wp2
              go_quiet ((first | (go_at_call 108; exact C1.out _) | (go_at_call 109; exact C2.out _)))
              go_wp2
              go_roundw
              case rel => exact ⟨1, _, hlt, rfl, Lib.hid (HYe.out (by rw [q1, q2]; rfl)), by rw [HW.out, World.drewN_drewN]⟩
              case measure => simp [intOf]; omega
          · obtain ⟨j, rfl⟩ : ∃ j, k = j + 1 := ⟨k - 1, by omega⟩
            have gq := gp (by omega)
            rw [Nat.add_sub_cancel] at gq
            clear gp
            have hk1 : (0 : Int) < ((j + 1 : Nat) : Int) := by omega
            cases q3 : lessS y x
            · have q4 := q3
              unfold lessS at q4
              go_wp2
              go_quiet ((first | (go_at_call 108; exact C1.out _)))
              go_wp2
              go_ret
              exact ⟨ret_bool (HNo.out (by rw [q1, q3]; simp)).symm, _, by rw [HW.out, World.drewN_drewN]⟩
            · have q4 := q3
              unfold lessS at q4
              cases q2 : strB fs (j + 1)
              · have C2 := Lib.hid (HS2.out _ q2)
                go_wp2
                go_quiet ((first | (go_at_call 108; exact C1.out _) | (go_at_call 109; exact C2.out _)))
                go_wp2
                go_ret
                exact ⟨ret_bool (HNo.out (by rw [q1, q2]; rfl)).symm, _, by rw [HW.out, World.drewN_drewN]⟩
              · have C2 := Lib.hid (HS2.out _ q2)
                go_wp2
                go_quiet ((first | (go_at_call 108; exact C1.out _) | (go_at_call 109; exact C2.out _)))
                go_wp2
                go_roundw
                case rel => exact ⟨j + 1 + 1, _, hlt, by go_num, Lib.hid (HYe.out (by rw [q1, q2, q3]; simp)), by rw [HW.out, World.drewN_drewN]⟩
                case measure => simp [intOf]; omega
      · obtain rfl : k = n := by omega
        go_wp2
        go_ret
        exact ⟨ret_bool (by rw [HB.out, hL.out]), _, rfl⟩
  · have HF : Hid (labB ss n fs = false) := Lib.hid (by simp [labB, hne])
    have hne3 : ((n : Int) != (ss.length : Int)) = true := by simp only [bne_iff_ne, ne_eq]; omega
    clear hx hy hs
    go_enter Try.func67, Try.ntmps67
    go_wp2
    go_quiet (fail)
    go_wp2
    go_ret
    exact ⟨ret_bool HF.out.symm, _, rfl⟩
theorem specLab_any (A A' : Option Addr) (c c' B n : Nat) (ss : List ByteArray) (fs : List Int) (w : World)
    (hx : RdT w B A ss) (hy : RdS w B A' n fs) (hB : B ≤ w.heap.size) (hs : ∀ i, i < ss.length → (ss.getD i ByteArray.empty).size ≤ 9223372036854775807) (hl : ss.length ≤ 1048576) (hn : n ≤ 1048576) :
    Calls Try.prog 29 #[.agg #[.slice A ss.length c, .slice A' n c']] w fun e w' => e = .returned (.bool (labB ss n fs)) ∧ Below w.heap.size w w' := by
  have hb : Below w.heap.size w (w.alloc (.cells #[.slice A ss.length c, .slice A' n c'] 56)) := (Below.refl _ _).alloc (Nat.le_refl _) _
  have HX := Lib.hid (hx.below hb hB)
  have HY := Lib.hid (hy.below hb hB)
  have HS := Lib.hid hs
  clear hx hy hs
  go_enter Try.func29, Try.ntmps29
  go_wp2_with (go_at_call 67; refine (l11Lab_any w.heap.size A A' c c' B n ss fs _ (by simp) (by simp) HX.out HY.out HS.out hl hn).mono ?_; rintro e w1 ⟨rfl, k, rfl⟩)
  go_ret
  exact ⟨rfl, below_drewN hb _⟩
set_option maxHeartbeats 4000000 in
theorem implLab_any (A A' : Option Addr) (c c' B n : Nat) (ss : List ByteArray) (fs : List Int) (w : World)
    (hx : RdT w B A ss) (hy : RdS w B A' n fs) (hB : B ≤ w.heap.size) (hs : ∀ i, i < ss.length → (ss.getD i ByteArray.empty).size ≤ 9223372036854775807) (hl : ss.length ≤ 1048576) (hn : n ≤ 1048576) :
    Calls Try.prog 31 #[.agg #[.slice A ss.length c, .slice A' n c']] w fun e w' => e = .returned (.bool (labB ss n fs)) ∧ Below w.heap.size w w' := by
  have hb0 : Below w.heap.size w (w.alloc (.cells #[.slice A ss.length c, .slice A' n c'] 56)) := (Below.refl _ _).alloc (Nat.le_refl _) _
  by_cases hn6 : 6 < n
  · have HF : Hid (labB ss n fs = false) := Lib.hid (by simp [labB, show ¬ n ≤ 6 by omega])
    clear hx hy hs
    go_enter Try.func31, Try.ntmps31
    go_wp2
    go_ret
    exact ⟨ret_bool HF.out.symm, hb0⟩
  by_cases hne : ss.length = n
  · obtain ⟨W0, hW0⟩ : ∃ W0, W0 = w.alloc (.cells #[.slice A ss.length c, .slice A' n c'] 56) := ⟨_, rfl⟩
    have k0 : W0.cell? ⟨w.heap.size, 0, none⟩ = some (.slice A ss.length c) := by rw [hW0]; exact World.cell?_alloc_new w _ _ 0
    have k1 : W0.cell? ⟨w.heap.size, 1, none⟩ = some (.slice A' n c') := by rw [hW0]; exact World.cell?_alloc_new w _ _ 1
    have hz : w.heap.size < W0.heap.size := by rw [hW0]; simp
    rw [← hW0] at hb0
    have HX := Lib.hid ((hx.below hb0 hB).more (C := W0.heap.size) (by omega))
    have HY := Lib.hid ((hy.below hb0 hB).more (C := W0.heap.size) (by omega))
    have HS := Lib.hid hs
    obtain ⟨N, hN⟩ : ∃ N, N = ss.length := ⟨_, rfl⟩
    have HB : Hid (labB ss n fs = labTo ss fs N) := Lib.hid (by simp [labB, hN, hne, show n ≤ 6 by omega])
    obtain rfl : n = N := by omega
    rw [← hN] at k0 hW0
    have HNl := Lib.hid hN
    have HW0 := Lib.hid hW0
    have HB0 := Lib.hid hb0
    rw [← hN]
    clear hx hy hs hN hne hl hW0 hb0
    go_enter Try.func31, Try.ntmps31
    go_wp2
    rw [← HW0.out]
    go_loopw [21] (fun i wr => ∃ (k : Nat), k ≤ n ∧ i = .int .i64 (k : Int) ∧ Hid (labTo ss fs k = true) ∧ Hid (Below W0.heap.size W0 wr)) (fun i _ => n - (intOf i).toNat)
    case atStart => exact ⟨0, Nat.zero_le _, rfl, Lib.hid rfl, Lib.hid (Below.refl _ _)⟩
    case round =>
      obtain ⟨k, hk, rfl, hL, hbw⟩ := hrel
      have e0 := (hbw.out.cell (p := ⟨w.heap.size, 0, none⟩) hz).trans k0
      have e1 := (hbw.out.cell (p := ⟨w.heap.size, 1, none⟩) hz).trans k1
      by_cases hlt : k < n
      · obtain ⟨bs, os, rfl, hbs, hc⟩ := HX.out (by have := HNl.out; omega)
        obtain ⟨bt, ot, rfl, hbt, hd⟩ := HY.out.at7 hlt
        have g1 := (hbw.out.cell (p := ⟨bs, os + k, none⟩) hbs).trans (hc k (by have := HNl.out; omega))
        have gp : 0 < k → ∀ w1, Below wr.heap.size wr w1 → w1.cell? ⟨bs, os + (k - 1), none⟩ = some (.string (ss.getD (k - 1) ByteArray.empty)) := fun _ w1 h1 => ((hbw.out.trans (h1.mono hbw.out.size)).cell (p := ⟨bs, os + (k - 1), none⟩) hbs).trans (hc (k - 1) (by have := HNl.out; omega))
        have d0 := (hbw.out.cell (p := ⟨bt, ot + k * 7, none⟩) hbt).trans hd.c0
        have d1 := (hbw.out.cell (p := ⟨bt, ot + k * 7 + 1, none⟩) hbt).trans hd.c1
        have d2 := (hbw.out.cell (p := ⟨bt, ot + k * 7 + 2, none⟩) hbt).trans hd.c2
        have d3 := (hbw.out.cell (p := ⟨bt, ot + k * 7 + 3, none⟩) hbt).trans hd.c3
        have d4 := (hbw.out.cell (p := ⟨bt, ot + k * 7 + 4, none⟩) hbt).trans hd.c4
        have d5 := (hbw.out.cell (p := ⟨bt, ot + k * 7 + 5, none⟩) hbt).trans hd.c5
        have d6 := (hbw.out.cell (p := ⟨bt, ot + k * 7 + 6, none⟩) hbt).trans hd.c6
        have HK : Hid (∀ w1, Below wr.heap.size wr w1 → w1.cell? ⟨w.heap.size, 0, none⟩ = some (.slice (some ⟨bs, os, none⟩) n c)) := Lib.hid fun w1 h1 => ((hbw.out.trans (h1.mono hbw.out.size)).cell (p := ⟨w.heap.size, 0, none⟩) hz).trans k0
        have HS1 := Lib.hid (fun r (h : nameB (ss.getD k ByteArray.empty) = r) W => (implName_any (ss.getD k ByteArray.empty) (HS.out k (by have := HNl.out; omega)) W).mono (R' := fun e w' => e = .returned (.bool r) ∧ W = w') (fun e w' h' => ⟨by rw [h'.1, h], h'.2⟩))
        have HS2 := Lib.hid (fun r (h : strB fs k = r) W => (validStream_any (fs.getD (7 * k + 0) 0) (fs.getD (7 * k + 1) 0) (fs.getD (7 * k + 2) 0) (fs.getD (7 * k + 3) 0) (fs.getD (7 * k + 4) 0) (fs.getD (7 * k + 5) 0) (fs.getD (7 * k + 6) 0) W).mono (R' := fun e w' => e = .returned (.bool r) ∧ Below W.heap.size W w') (fun e w' h' => ⟨by rw [h'.1, ← h]; rfl, h'.2⟩))
        have HNo := Lib.hid (fun (h : entB ss fs k = false) => show labB ss n fs = false by rw [HB.out]; exact labTo_no (i := k + 1) (by rw [labTo, h, Bool.and_false]) n hlt)
        have HYe := Lib.hid (fun (h : entB ss fs k = true) => show labTo ss fs (k + 1) = true by rw [labTo, h, hL.out]; rfl)
        unfold entB at HNo HYe
        clear hL hc hd
        generalize ss.getD k ByteArray.empty = x at *
        generalize ss.getD (k - 1) ByteArray.empty = y at *
        generalize strB fs k = q2v at *
        generalize fs.getD (7 * k + 0) 0 = f0 at *
        generalize fs.getD (7 * k + 1) 0 = f1 at *
        generalize fs.getD (7 * k + 2) 0 = f2 at *
        generalize fs.getD (7 * k + 3) 0 = f3 at *
        generalize fs.getD (7 * k + 4) 0 = f4 at *
        generalize fs.getD (7 * k + 5) 0 = f5 at *
        generalize fs.getD (7 * k + 6) 0 = f6 at *
        cases q1 : nameB x
        · have C1 := Lib.hid (HS1.out _ q1)
          go_wp2_with (go_at_call 70; refine (C1.out _).mono ?_; rintro e w' ⟨rfl, rfl⟩)
          go_ret
          exact ⟨ret_bool (HNo.out (by rw [q1]; rfl)).symm, HB0.out.trans (hbw.out.mono HB0.out.size)⟩
        · have C1 := Lib.hid (HS1.out _ q1)
          cases q2 : q2v
          · have C2 := Lib.hid (HS2.out _ q2)
            go_wp2_with (first | (go_at_call 70; refine (C1.out _).mono ?_; rintro e w' ⟨rfl, rfl⟩) | (go_at_call 71; refine (C2.out _).mono ?_; rintro e w2 ⟨rfl, hb2⟩))
            go_ret
            exact ⟨ret_bool (HNo.out (by rw [q1, q2]; rfl)).symm, HB0.out.trans ((hbw.out.trans (hb2.mono hbw.out.size)).mono HB0.out.size)⟩
          · have C2 := Lib.hid (HS2.out _ q2)
            by_cases hk0 : k = 0
            · subst hk0
              rw [Nat.add_zero] at g1
              rw [Nat.zero_mul, Nat.add_zero] at d0 d1 d2 d3 d4 d5 d6
              go_wp2_with (first | (go_at_call 70; refine (C1.out _).mono ?_; rintro e w' ⟨rfl, rfl⟩) | (go_at_call 71; refine (C2.out _).mono ?_; rintro e w2 ⟨rfl, hb2⟩))
              go_roundw
              case rel => exact ⟨1, hlt, rfl, Lib.hid (HYe.out (by rw [q1, q2]; rfl)), Lib.hid (hbw.out.trans (hb2.mono hbw.out.size))⟩
              case measure => simp [intOf]; omega
            · obtain ⟨j, rfl⟩ : ∃ j, k = j + 1 := ⟨k - 1, by omega⟩
              have GQ := Lib.hid (gp (by omega))
              rw [Nat.add_sub_cancel] at GQ
              clear gp
              have hk1 : (0 : Int) < ((j + 1 : Nat) : Int) := by omega
              cases q3 : lessS y x
              · have q4 := q3
                unfold lessS at q4
                go_wp2_with (first | (go_at_call 70; refine (C1.out _).mono ?_; rintro e w' ⟨rfl, rfl⟩) | (go_at_call 71; refine (C2.out _).mono ?_; rintro e w2 ⟨rfl, hb2⟩; have gq := GQ.out w2 hb2; have gk := HK.out w2 hb2))
                go_ret
                exact ⟨ret_bool (HNo.out (by rw [q1, q2, q3]; simp)).symm, HB0.out.trans ((hbw.out.trans (hb2.mono hbw.out.size)).mono HB0.out.size)⟩
              · have q4 := q3
                unfold lessS at q4
                go_wp2_with (first | (go_at_call 70; refine (C1.out _).mono ?_; rintro e w' ⟨rfl, rfl⟩) | (go_at_call 71; refine (C2.out _).mono ?_; rintro e w2 ⟨rfl, hb2⟩; have gq := GQ.out w2 hb2; have gk := HK.out w2 hb2))
                go_roundw
                case rel => exact ⟨j + 1 + 1, hlt, by go_num, Lib.hid (HYe.out (by rw [q1, q2, q3]; simp)), Lib.hid (hbw.out.trans (hb2.mono hbw.out.size))⟩
                case measure => simp [intOf]; omega
      · obtain rfl : k = n := by omega
        go_wp2
        go_ret
        exact ⟨ret_bool (by rw [HB.out, hL.out]), HB0.out.trans (hbw.out.mono HB0.out.size)⟩
  · have HF : Hid (labB ss n fs = false) := Lib.hid (by simp [labB, hne])
    have hne3 : ((ss.length : Int) != (n : Int)) = true := by simp only [bne_iff_ne, ne_eq]; omega
    clear hx hy hs
    go_enter Try.func31, Try.ntmps31
    go_wp2
    go_ret
    exact ⟨ret_bool HF.out.symm, hb0⟩
end Go.Proofs.Ythkogbpabdkfiaa.LabV

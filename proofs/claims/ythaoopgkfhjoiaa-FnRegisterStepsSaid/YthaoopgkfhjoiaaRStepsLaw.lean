/- The outputs of a register are those of its steps, and jumps add up: the law walked. -/
import Derived.Test.YthaoopgkfhjoiaaRBits
import Derived.Test.YthaoopgkfhjoiaaR8
import Derived.Test.YthaoopgkfhjoiaaOpen
namespace Go.Proofs.Ythaoopgkfhjoiaa.RSteps
open Go.RowKit Go.Proofs.Ythaoopgkfhjoiaa Go.Proofs.Ythaoopgkfhjoiaa.Base Go.Proofs.Ythaoopgkfhjoiaa.Mem Go.Proofs.Ythaoopgkfhjoiaa.Reg Go.Proofs.Ythaoopgkfhjoiaa.RBits Go.Proofs.Ythaoopgkfhjoiaa.Jump
set_option linter.unusedVariables false
theorem str_get (W T x n k : Nat) (hk : k < n) (h : k < (⟨(outR W T x n).toArray⟩ : ByteArray).size) : ((⟨(outR W T x n).toArray⟩ : ByteArray)[k]'h).toNat = 48 + CycM.iter (nextR W T) x k % 2 := by
  have hg := outR_get W T x n k hk
  obtain ⟨h1, h2⟩ := List.getElem?_eq_some_iff.1 hg
  have e : (⟨(outR W T x n).toArray⟩ : ByteArray)[k]'h = (outR W T x n)[k]'h1 := rfl
  rw [e, h2, byte_bit _ (Nat.mod_lt _ (by decide))]
theorem str_size (W T x n : Nat) : (⟨(outR W T x n).toArray⟩ : ByteArray).size = n := by
  show (outR W T x n).toArray.size = n
  simp [outR_len]
theorem jump_yes (V A X N : Nat) (w : World) (hV : V ≤ 16) (hA : A < 2 ^ V) (hX : X < 2 ^ V) (hN : N ≤ 1000000000000000000) :
    Calls Try.prog 17 #[.agg #[.int .i64 V, .int .i64 A], .int .i64 X, .int .i64 N] w (JumpYes V A X N w) := by
  have hb : jumpB V A X N = true := by rw [jumpB, bothR_yes hV hA hX, inR_yes (by omega)]; rfl
  refine (implJump_any V A X N w).mono fun e w' h => ⟨?_, h.2⟩
  rw [h.1, jumpV, if_pos hb, hb]; rfl
theorem jumpTo_add (W T x n m : Nat) : jumpTo W T (jumpTo W T x n) m = jumpTo W T x (n + m) := (CycM.iter_add (nextR W T) x n m).symm
set_option maxHeartbeats 2000000 in
theorem steps_any (A0 A1 : Option Addr) (c0 c1 : Nat) (zs ys : List Int) (w : World) (hl0 : zs.length ≤ 9223372036854775807) (hl1 : ys.length ≤ 9223372036854775807) (hz0' : ∀ z ∈ zs, 0 ≤ z ∧ z ≤ 255) (hz1' : ∀ z ∈ ys, 0 ≤ z ∧ z ≤ 255) (hx0 : RdB w w.heap.size A0 zs) (hx1 : RdB w w.heap.size A1 ys) :
    Calls Try.prog 5 #[.slice A0 zs.length c0, .slice A1 ys.length c1] w fun e w' => e = .returned (.bool true) ∧ Below w.heap.size w w' := by
  by_cases hlong : 48 < zs.length ∨ 48 < ys.length
  · clear hx0 hx1 hz0' hz1'
    go_enter Try.func5, Try.ntmps5
    go_wp2_with (go_at_call 28; refine (R8.r8Long_yes _ _ _ _ _ _ _ hlong hl0 hl1).mono ?_; rintro e w' ⟨rfl, rfl⟩)
    go_ret
    exact ⟨rfl, Below.refl _ _⟩
  have hs0 : zs.length ≤ 48 := by omega
  have hs1 : ys.length ≤ 48 := by omega
  have HReg := Lib.hid (r8Register_any A0 c0 zs w hx0 hs0 hz0')
  have HX1 := Lib.hid hx1
  have HZ1 := Lib.hid hz1'
  clear hx0 hx1 hz0' hz1' hlong
  go_enter Try.func5, Try.ntmps5
  go_wp2_with fail
  refine (R8.r8Long_no _ _ _ _ _ _ _ hs0 hs1).mono ?_
  rintro e w' ⟨rfl, rfl⟩
  go_wp2_with fail
  refine HReg.out.mono ?_
  rintro e w1 ⟨V, A, rfl, hV7, hA, b1⟩
  have hp7 : 2 ^ V ≤ 2 ^ 7 := Nat.pow_le_pow_right (by decide) hV7
  obtain ⟨W1, hW1⟩ : ∃ W1, W1 = w1.alloc (.cells #[.int .i64 V, .int .i64 A] 26) := ⟨_, rfl⟩
  have x1 : Below w1.heap.size w1 W1 := by rw [hW1]; exact (Below.refl _ _).alloc (Nat.le_refl _) _
  have hzW : W1.heap.size = w1.heap.size + 1 := by rw [hW1]; simp
  have k1 : RBox W1 w1.heap.size V A := by rw [hW1]; exact RBox.new _ _ _
  have HK := Lib.hid k1
  have hq0 := k1.c0
  have hq1 := k1.c1
  have B1 := Lib.hid (b1.trans (x1.mono b1.size))
  have RY := Lib.hid ((HX1.out.below B1.out (Nat.le_refl _)).more B1.out.size)
  have HNum := Lib.hid (r8Number_any A1 c1 ys (wrap64 (2 ^ V)) W1 RY.out hs1 HZ1.out)
  have hpw : wrap64 ((2 : Int) ^ V) = ((2 ^ V : Nat) : Int) := by
    rw [show (2 : Int) ^ V = ((2 ^ V : Nat) : Int) by simp]
    have h0 := Nat.two_pow_pos V
    generalize 2 ^ V = N at *
    simp only [wrap64]; omega
  have HPW := Lib.hid hpw
  have HW1 := Lib.hid hW1
  have hzz : w1.heap.size < W1.heap.size := by omega
  clear hW1 b1 x1 k1 hpw
  go_wp2_with fail
  rw [← HW1.out]
  refine HNum.out.mono ?_
  rintro e w2 ⟨X, rfl, hX', b2⟩
  have hX : X < 2 ^ V := by
    rcases hX' with h | h
    · subst h; exact Nat.two_pow_pos V
    · rw [HPW.out] at h; exact Int.ofNat_lt.1 h
  have B2 := Lib.hid b2
  have r2 := HK.out.below b2
  have d0 := r2.c0
  have d1 := r2.c1
  have hz2 := b2.size
  have HBits := Lib.hid (bitsRegister_yes V A X 20 w2 (by omega) hA hX (by decide) (by decide))
  obtain ⟨str, hstr⟩ : ∃ str, str = (⟨(outR V A X 20).toArray⟩ : ByteArray) := ⟨_, rfl⟩
  rw [← hstr] at HBits
  have hsz : str.size = 20 := by rw [hstr]; exact str_size _ _ _ _
  have HG := Lib.hid (show ∀ k (h : k < str.size), k < 20 → (str[k]'h).toNat = 48 + CycM.iter (nextR V A) X k % 2 by subst hstr; exact fun k h hk => str_get V A X 20 k hk h)
  clear hX' b2 r2 hstr hq0 hq1
  go_wp2_with fail
  refine HBits.out.mono ?_
  rintro e w3 ⟨rfl, b3⟩
  have B3 := Lib.hid (B2.out.trans (b3.mono hz2))
  have hz3 := B3.out.size
  have HVA := Lib.hid hA
  have HVX := Lib.hid hX
  have HJ := Lib.hid (fun N (hN : N ≤ 1000000000000000000) w => jump_yes V A X N w (by omega) hA hX hN)
  have HIt := Lib.hid (fun k => show CycM.iter (nextR V A) X k < 2 ^ V from CycM.iter_lt (fun s hs => nextR_lt hs) hX k)
  clear b3 d0 d1
  go_wp2_with fail
  go_loopw [9, 10] (fun s i wr => ∃ k : Nat, k ≤ 20 ∧ i = .int .i64 (k : Int) ∧ s = .int .i64 ((CycM.iter (nextR V A) X k : Nat) : Int) ∧ Below W1.heap.size W1 wr) (fun _ i _ => 20 - (intOf i).toNat)
  case atStart => exact ⟨0, by omega, rfl, rfl, by first | exact B3.out | exact below_drewN B3.out _⟩
  case round =>
    obtain ⟨k, hk, rfl, rfl, hb⟩ := hrel
    have HB := Lib.hid hb
    have r4 := HK.out.below hb
    have d0 := r4.c0
    have d1 := r4.c1
    have hz4 := hb.size
    clear hb r4
    by_cases hkt : k < 20
    · have hit := HIt.out k
      have HT : Hid (CycM.iter (nextR V A) X (k + 1) = nextR V A (CycM.iter (nextR V A) X k)) := Lib.hid rfl
      have hJk : ∀ w, Calls Try.prog 17 #[.agg #[.int .i64 V, .int .i64 A], .int .i64 X, .int .i64 k] w fun e w' => e = .returned (.tuple #[.int .i64 ((CycM.iter (nextR V A) X k : Nat) : Int), .bool true]) ∧ Below w.heap.size w w' := HJ.out k (by omega)
      have hg := HG.out k (by omega) hkt
      have hm2 : CycM.iter (nextR V A) X k % 2 < 2 := Nat.mod_lt _ (by decide)
      have HJk := Lib.hid hJk
      clear hJk
      generalize CycM.iter (nextR V A) X k = y at *
      generalize hbit : y % 2 = bit at *
      have HSt := Lib.hid (fun w => stepRegister_yes V A y bit w hbit (by omega) HVA.out hit)
      clear hbit
      go_wp2_with fail
      refine (HJk.out _).mono ?_
      rintro e w5 ⟨rfl, b5⟩
      have e0 := (b5.cell (p := ⟨w1.heap.size, 0, none⟩) (show w1.heap.size < wr.heap.size by omega)).trans d0
      have e1 := (b5.cell (p := ⟨w1.heap.size, 1, none⟩) (show w1.heap.size < wr.heap.size by omega)).trans d1
      have B5 := Lib.hid (HB.out.trans (b5.mono hz4))
      clear b5
      go_wp2_with fail
      refine (HSt.out _).mono ?_
      rintro e w6 ⟨rfl, b6⟩
      have B6 := Lib.hid (B5.out.trans (b6.mono B5.out.size))
      clear b6
      go_wp2_with fail
      go_roundw
      case rel => exact ⟨k + 1, hkt, by go_num, by rw [HT.out], B6.out⟩
      case measure => simp [intOf]; omega
    · obtain rfl : k = 20 := by omega
      have RYr := Lib.hid ((RY.out.below HB.out (Nat.le_refl _)).more HB.out.size)
      have hly : ys.length ≤ 9223372036854775807 := hl1
      clear HG
      go_wp2_with fail
      refine (R8.r8At_any A1 c1 _ ys 2 256 _ HZ1.out hl1 RYr.out (by decide)).mono ?_
      rintro e w' ⟨p1, hp1, hp1', rfl, rfl⟩
      go_wp2_with fail
      refine (R8.r8At_any A1 c1 _ ys 3 256 _ HZ1.out hl1 RYr.out (by decide)).mono ?_
      rintro e w' ⟨p2, hp2, hp2', rfl, rfl⟩
      go_wp2_with fail
      refine (R8.r8At_any A1 c1 _ ys 4 256 _ HZ1.out hl1 RYr.out (by decide)).mono ?_
      rintro e w' ⟨p3, hp3, hp3', rfl, rfl⟩
      go_wp2_with fail
      refine (R8.r8At_any A1 c1 _ ys 5 256 _ HZ1.out hl1 RYr.out (by decide)).mono ?_
      rintro e w' ⟨p4, hp4, hp4', rfl, rfl⟩
      obtain ⟨N, hN⟩ : ∃ N : Nat, (N : Int) = p1 * 1000000007 + p2 := ⟨(p1 * 1000000007 + p2).toNat, by omega⟩
      obtain ⟨M, hM⟩ : ∃ M : Nat, (M : Int) = p3 * 998244353 + p4 := ⟨(p3 * 998244353 + p4).toNat, by omega⟩
      have hN1 : N ≤ 1000000000000 := by omega
      have hM1 : M ≤ 1000000000000 := by omega
      have HN := Lib.hid hN
      have HM := Lib.hid hM
      have HY := Lib.hid (jumpTo_lt (T := A) (n := N) HVX.out)
      have HAdd := Lib.hid (jumpTo_add V A X N M)
      have HJ2 := Lib.hid (fun w => jump_yes V A (jumpTo V A X N) M w (by omega) HVA.out HY.out (by omega))
      go_wp2_with fail
      rw [← HN.out, ← HM.out]
      clear hN hM
      refine (HJ.out N (by omega) _).mono ?_
      rintro e w5 ⟨rfl, b5⟩
      have hw5 := b5.size
      have e0 := (b5.cell (p := ⟨w1.heap.size, 0, none⟩) (show w1.heap.size < wr.heap.size by omega)).trans d0
      have e1 := (b5.cell (p := ⟨w1.heap.size, 1, none⟩) (show w1.heap.size < wr.heap.size by omega)).trans d1
      have B5 := Lib.hid (HB.out.trans (b5.mono hz4))
      clear b5
      go_wp2_with fail
      refine (HJ2.out _).mono ?_
      rintro e w6 ⟨rfl, b6⟩
      have hw6 := b6.size
      have q0 := (b6.cell (p := ⟨w1.heap.size, 0, none⟩) (show w1.heap.size < w5.heap.size by omega)).trans e0
      have q1 := (b6.cell (p := ⟨w1.heap.size, 1, none⟩) (show w1.heap.size < w5.heap.size by omega)).trans e1
      have B6 := Lib.hid (B5.out.trans (b6.mono B5.out.size))
      clear b6
      rw [HAdd.out]
      go_wp2_with fail
      rw [show (N : Int) + (M : Int) = ((N + M : Nat) : Int) by omega]
      refine (HJ.out (N + M) (by omega) _).mono ?_
      rintro e w7 ⟨rfl, b7⟩
      have B7 := Lib.hid (B1.out.trans ((B6.out.trans (b7.mono B6.out.size)).mono B1.out.size))
      clear b7
      go_wp2
      go_ret
      exact ⟨ret_bool (by simp), B7.out⟩
/-- an argument of bytes of each -/
theorem steps_v {w : World} {v u : Value} (h : Open.IsBytes w v) (h' : Open.IsBytes w u) : Calls Try.prog 5 #[v, u] w fun e w' => e = .returned (.bool true) ∧ Below w.heap.size w w' := by
  obtain ⟨A, c, zs, rfl, hl, hz, hx⟩ := h.ex
  obtain ⟨A', c', ys, rfl, hl', hz', hx'⟩ := h'.ex
  exact steps_any A A' c c' zs ys w hl hl' hz hz' hx hx'
end Go.Proofs.Ythaoopgkfhjoiaa.RSteps

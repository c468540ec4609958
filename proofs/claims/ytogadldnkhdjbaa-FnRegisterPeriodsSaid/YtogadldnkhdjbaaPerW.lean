/- The order of x modulo a polynomial: the program walked. -/
import Derived.Test.YtogadldnkhdjbaaPerM
import Derived.Test.YtogadldnkhdjbaaJumpLaw
import Derived.Shelf.Lay
import Derived.Shelf.Strconv.Itoa0
import Derived.Lib.ItoaNum
namespace Go.Proofs
open Go.Shelf
def Ytogadldnkhdjbaa.lays129_ren : Go.Shelf.Ren := ⟨fun | 129 => 29 | n => n, fun | 53 => 47 | 3 => 3 | 4 => 4 | 46 => 28 | 5 => 5 | 9 => 9 | n => n, fun | n => n⟩
theorem Ytogadldnkhdjbaa.lays129 : Go.Proofs.Lays.n129 Try.prog Ytogadldnkhdjbaa.lays129_ren := {
  mixed := by kernel_rfl
  f129 := Try.func29.trans (congrArg some (by kernel_rfl))
  t3 := Try.underlying3
  a3 := Try.isAgg3
  z3 := Try.sizeOf3
  v3 := Try.zeroValue3
  t4 := Try.underlying4
  a4 := Try.isAgg4
  z4 := Try.sizeOf4
  v4 := Try.zeroValue4
  t5 := Try.underlying5
  a5 := Try.isAgg5
  z5 := Try.sizeOf5
  v5 := Try.zeroValue5
  t9 := Try.underlying9
  a9 := Try.isAgg9
  z9 := Try.sizeOf9
  v9 := Try.zeroValue9
  t46 := Try.underlying28
  a46 := Try.isAgg28
  z46 := Try.sizeOf28
  v46 := Try.zeroValue28
  t53 := Try.underlying47
  a53 := Try.isAgg47
  z53 := Try.sizeOf47
  v53 := Try.zeroValue47 }
end Go.Proofs
namespace Go.Proofs.Ytogadldnkhdjbaa.PerP
open Go.RowKit Go.Proofs.Ytogadldnkhdjbaa Go.Proofs.Ytogadldnkhdjbaa.Base Go.Proofs.Ytogadldnkhdjbaa.Poly Go.Proofs.Ytogadldnkhdjbaa.Bits Go.Proofs.Ytogadldnkhdjbaa.CycM Go.Proofs.Ytogadldnkhdjbaa.Jump
set_option linter.unusedVariables false
theorem bl_uniq {p L : Nat} (h1 : 1 ≤ L) (h2 : 2 ^ (L - 1) ≤ p) (h3 : p < 2 ^ L) : bl p = L := by
  have h0 : p ≠ 0 := by have := Nat.two_pow_pos (L - 1); omega
  have a := bl_le h3
  rcases Nat.lt_or_ge (bl p) L with h | h
  · have b := bl_lt p
    have : 2 ^ bl p ≤ 2 ^ (L - 1) := Nat.pow_le_pow_right (by decide) (by omega)
    omega
  · omega
theorem bl_len (p : Nat) (h : p < 9223372036854775808) : bl p = Lib.bitLen p := by
  by_cases h0 : p = 0
  · subst h0; rfl
  · have hb := Lib.bitLenAux_bounds 64 p (by omega) (by omega)
    have e0 : Lib.bitLenAux 64 p = Lib.bitLen p := rfl
    rw [e0] at hb
    exact bl_uniq hb.1 hb.2.1 hb.2.2
theorem degree_any (p : Nat) (h : p < 9223372036854775808) (w : World) : Calls Try.prog 23 #[.int .i64 (p : Int)] w fun e w' => e = .returned (.int .i64 ((bl p : Int) - 1)) ∧ w = w' := by
  have hb : bl p ≤ 63 := bl_le (by omega)
  have HL := Lib.hid (fun w => (Any.bits_Len64 Ytogadldnkhdjbaa.lays129 (p : Int) w (by omega) (by omega)))
  rw [Int.toNat_natCast, ← bl_len p h] at HL
  go_enter Try.func23, Try.ntmps23
  go_wp2_with fail
  refine (HL.out _).mono ?_
  rintro e w' ⟨rfl, rfl⟩
  go_wp2
  go_ret
  exact ⟨rfl, rfl⟩
/-- what is left of a polynomial of at most the degree of b -/
def redP (b W a : Nat) : Nat := if 2 ^ W ≤ a then a ^^^ b else a
def RedRet (x : Nat) (w : World) (e : Ending) (w' : World) : Prop := ∃ q : Int, e = .returned (.tuple #[.int .i64 q, .int .i64 (x : Int)]) ∧ w = w'
set_option maxHeartbeats 1000000 in
theorem divide_any (a b W : Nat) (hW : W ≤ 16) (ha : a < 2 ^ (W + 1)) (hb : bl b = W + 1) (w : World) :
    Calls Try.prog 28 #[.int .i64 (a : Int), .int .i64 (b : Int)] w (RedRet (redP b W a) w) := by
  have hb0 : b ≠ 0 := fun h => by rw [h] at hb; cases hb
  have hp : 2 ^ (W + 1) ≤ 2 ^ 17 := Nat.pow_le_pow_right (by decide) (by omega)
  have hbl := bl_lt b
  rw [hb] at hbl
  have HR : Hid (∀ r, (r = a ∨ (r = a ^^^ b ∧ 2 ^ W ≤ a ∧ r < 2 ^ W)) → ¬ bl b ≤ bl r → r = redP b W a) := Lib.hid fun r h h2 => by
    rcases h with rfl | ⟨h3, h4, _⟩
    · unfold redP
      rw [if_neg]
      intro h5
      apply h2
      rw [hb]
      have := bl_lt r
      rcases Nat.lt_or_ge (bl r) (W + 1) with h | h
      · have : 2 ^ bl r ≤ 2 ^ W := Nat.pow_le_pow_right (by decide) (by omega)
        omega
      · exact h
    · unfold redP; rw [if_pos h4, h3]
  have HS : Hid (∀ r, (r = a ∨ (r = a ^^^ b ∧ 2 ^ W ≤ a ∧ r < 2 ^ W)) → bl b ≤ bl r → bl r = W + 1 ∧ r = a ∧ 2 ^ W ≤ a ∧ a ^^^ b < 2 ^ W) := Lib.hid fun r h h2 => by
    rw [hb] at h2
    rcases h with rfl | ⟨h3, h4, h5⟩
    · have h6 := bl_le ha
      have h7 : bl r = W + 1 := by omega
      have h8 : r ≠ 0 := fun h => by rw [h] at h7; cases h7
      have h9 := bl_ge h8
      have h10 := div_step hb0 (show bl b ≤ bl r by omega)
      rw [h7, hb] at h10
      rw [h7] at h9
      simp only [Nat.sub_self, Nat.shiftLeft_zero, Nat.add_sub_cancel] at h9 h10
      exact ⟨h7, rfl, h9, h10⟩
    · have := bl_le h5
      omega
  have hal : a < 131072 := by omega
  have hbb : b < 131072 := by omega
  have HB := Lib.hid hb
  clear hb hbl ha hp
  go_enter Try.func28, Try.ntmps28
  go_wp2
  go_loop [0, 6] (fun x y => ∃ (r : Nat) (q : Int), r < 131072 ∧ 0 ≤ q ∧ q ≤ 1 ∧ Hid (r = a ∨ (r = a ^^^ b ∧ 2 ^ W ≤ a ∧ r < 2 ^ W)) ∧ Hid (r = a → q = 0) ∧ x = .int .i64 r ∧ y = .int .i64 q) (fun x _ => bl (intOf x).toNat)
  case atStart => exact ⟨a, 0, hal, by omega, by omega, Lib.hid (.inl rfl), Lib.hid fun _ => rfl, rfl, rfl⟩
  case round =>
    obtain ⟨r, q, hr, hq0, hq1, hc, hqa, rfl, rfl⟩ := hrel
    have hrb := bl_le (p := r) (k := 17) hr
    have hbb2 := bl_le (p := b) (k := 17) hbb
    by_cases h : bl b ≤ bl r
    · obtain ⟨h1, h2, h3, h4⟩ := HS.out r hc.out h
      have hd : bl r = bl b := by rw [h1, HB.out]
      have hq := hqa.out h2
      subst h2
      subst hq
      have HX := Lib.hid (xor_shift r b 0 (by omega) (by omega))
      have hpw : 2 ^ W ≤ 2 ^ 16 := Nat.pow_le_pow_right (by decide) hW
      have h5 := h3
      have h6 := h4
      have hlt : r ^^^ b < 131072 := by omega
      have HM : Hid (bl (r ^^^ b) < bl r) := Lib.hid (by have := bl_le h4; omega)
      have HNE : Hid (r ^^^ b ≠ r) := Lib.hid (fun e => by omega)
      have e0 : r ^^^ (b <<< 0) = r ^^^ b := by rw [Nat.shiftLeft_zero]
      rw [e0] at HX
      have HH := Lib.hid (And.intro h5 h6)
      clear h1 h3 h4 h5 h6 HS HR hqa hc hpw
      have HD := Lib.hid hd
      clear hd
      go_wp2_with (go_at_call 23; refine (degree_any _ (by omega) _).mono ?_; rintro e w' ⟨rfl, rfl⟩)
      have hz : ((bl r : Int) - 1 - ((bl b : Int) - 1)).toNat = 0 := by have := HD.out; omega
      rw [hz, HX.out]
      go_round
      case rel => exact ⟨r ^^^ b, 1, hlt, by omega, by omega, Lib.hid (.inr ⟨rfl, HH.out.1, HH.out.2⟩), Lib.hid fun e => absurd e HNE.out, rfl, congrArg (Value.int .i64) (by have := or_shift 0 0 (by decide) (by decide); simpa using this)⟩
      case measure =>
        have := HM.out
        show bl ((r ^^^ b : Nat) : Int).toNat < bl ((r : Nat) : Int).toNat
        rw [Int.toNat_natCast, Int.toNat_natCast]
        exact this
    · have HF := Lib.hid (HR.out r hc.out h)
      clear HR HS hqa hc
      go_wp2_with (go_at_call 23; refine (degree_any _ (by omega) _).mono ?_; rintro e w' ⟨rfl, rfl⟩)
      go_ret2
      exact ⟨q, by rw [HF.out]; rfl, rfl⟩
theorem top_bit {W r : Nat} (hW : 1 ≤ W) (hr : r < 2 ^ W) : r.testBit (W - 1) = decide (2 ^ W ≤ 2 * r) := by
  have e : 2 ^ W = 2 * 2 ^ (W - 1) := by rw [← Nat.pow_succ', show (W - 1).succ = W by omega]
  rw [Nat.testBit_eq_decide_div_mod_eq]
  rw [e] at hr ⊢
  have hp := Nat.two_pow_pos (W - 1)
  generalize 2 ^ (W - 1) = P at *
  have h1 : r / P < 2 := Nat.div_lt_of_lt_mul (by rw [Nat.mul_comm]; exact hr)
  by_cases h : P ≤ r
  · have : 1 ≤ r / P := (Nat.le_div_iff_mul_le hp).2 (by omega)
    have h2 : r / P = 1 := by omega
    rw [h2]; simp; omega
  · have h2 : r / P = 0 := Nat.div_eq_of_lt (by omega)
    rw [h2]; simp; omega
theorem red_poly {W T r : Nat} (hW : 1 ≤ W) (hr : r < 2 ^ W) : redP (2 ^ W ||| T) W (2 * r) = polyG (2 ^ W ||| T) W r := by
  unfold redP polyG
  rw [top_bit hW hr]
  by_cases h : 2 ^ W ≤ 2 * r
  · rw [if_pos h, if_pos (decide_eq_true h)]
  · rw [if_neg h, if_neg (by simp [h])]
set_option maxHeartbeats 1000000 in
theorem order_any (W T N : Nat) (hW : 1 ≤ W) (hW2 : W ≤ 16) (hT : T < 2 ^ W) (hN : IsCyc (polyG (2 ^ W ||| T) W) 1 0 N) (w : World) :
    Calls Try.prog 22 #[.int .i64 ((2 ^ W ||| T : Nat) : Int)] w fun e w' => e = .returned (.int .i64 (N : Int)) ∧ w = w' := by
  have hbl := bl_poly (W := W) (T := T) hT
  have hpw : 2 ^ W ≤ 2 ^ 16 := Nat.pow_le_pow_right (by decide) hW2
  have HD := Lib.hid (fun r (h : r < 2 ^ W) w => divide_any (2 * r) (2 ^ W ||| T) W hW2 (by rw [Nat.pow_succ]; omega) hbl w)
  have hN0 := hN.1
  have hNle : N ≤ 2 ^ W := hN.le (fun s hs => polyG_lt hW hT hs) (Nat.one_lt_two_pow (by omega))
  have HI := Lib.hid (fun n => (iter_rep hW hW2 hT n).1)
  have HQ := Lib.hid (fun n => show redP (2 ^ W ||| T) W (2 * iter (polyG (2 ^ W ||| T) W) 1 n) = iter (polyG (2 ^ W ||| T) W) 1 (n + 1) from red_poly hW (iter_rep hW hW2 hT n).1)
  have HN := Lib.hid hN
  have HP := Lib.hid hpw
  have hNb : N ≤ 65536 := by omega
  have h1 : iter (polyG (2 ^ W ||| T) W) 1 0 = 1 := rfl
  have HD0 := Lib.hid (fun w => HD.out 1 (by rw [← h1]; exact HI.out 0) w)
  rw [show 2 * 1 = 2 * iter (polyG (2 ^ W ||| T) W) 1 0 by rw [h1], HQ.out 0, Nat.zero_add] at HD0
  rw [h1] at HD0
  generalize hp : 2 ^ W ||| T = p at *
  clear hN hbl hpw hNle hp
  go_enter Try.func22, Try.ntmps22
  go_wp2_with fail
  refine (HD0.out _).mono ?_
  rintro e w' ⟨q, rfl, rfl⟩
  go_wp2_with fail
  go_loop [4, 5] (fun x y => ∃ n : Nat, 1 ≤ n ∧ n ≤ N ∧ x = .int .i64 (iter (polyG p W) 1 n : Nat) ∧ y = .int .i64 (n : Int)) (fun _ y => N - (intOf y).toNat)
  case atStart => exact ⟨1, Nat.le_refl _, hN0, rfl, rfl⟩
  case round =>
    obtain ⟨n, hn1, hn2, rfl, rfl⟩ := hrel
    have hit := HI.out n
    have hi2 : iter (polyG p W) 1 n < 65536 := by have := HP.out; omega
    by_cases he : iter (polyG p W) 1 n = 1
    · have hnN : n = N := by
        rcases Nat.lt_or_ge n N with h | h
        · exact absurd he.symm (HN.out.2.2 0 n hn1 h)
        · omega
      subst hnN
      rw [he]
      go_wp2
      go_ret
      exact ⟨rfl, rfl⟩
    · have hlt : n < N := by
        rcases Nat.lt_or_ge n N with h | h
        · exact h
        · obtain rfl : n = N := by omega
          exact absurd HN.out.2.1.symm he
      have HDn := Lib.hid (fun w => HD.out _ hit w)
      rw [HQ.out n] at HDn
      obtain ⟨y, hy⟩ : ∃ y, y = iter (polyG p W) 1 (n + 1) := ⟨_, rfl⟩
      rw [← hy] at HDn
      have HS := Lib.hid hy
      clear hy
      clear hit
      generalize iter (polyG p W) 1 n = x at HDn hi2 he
      have hne : ((x : Int) == 1) = false := beq_eq_false_iff_ne.2 (by omega)
      have hcast : ((2 * x : Nat) : Int) = (x : Int) * 2 := by omega
      rw [hcast] at HDn
      clear hcast
      go_wp2_with (refine (HDn.out _).mono ?_; rintro e w' ⟨q2, rfl, rfl⟩)
      go_round
      case rel => exact ⟨n + 1, by omega, by omega, by rw [HS.out], by go_num⟩
      case measure => simp [intOf]; omega
end Go.Proofs.Ytogadldnkhdjbaa.PerP

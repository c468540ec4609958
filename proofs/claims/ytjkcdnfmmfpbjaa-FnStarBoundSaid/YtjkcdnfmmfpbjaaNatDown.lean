/- The program's naturals: numbers shifted down. -/
import Derived.Test.YtjkcdnfmmfpbjaaNatMul
namespace Go.Proofs.Ytjkcdnfmmfpbjaa.Nat32
open Go.RowKit Go.Proofs.Ytjkcdnfmmfpbjaa Go.Proofs.Ytjkcdnfmmfpbjaa.Base Go.Proofs.Ytjkcdnfmmfpbjaa.Mem Go.Proofs.Ytjkcdnfmmfpbjaa.NatM
set_option linter.unusedVariables false
theorem drop_cons {l : List Nat} {m : Nat} (h : m < l.length) : l.drop m = l.getD m 0 :: l.drop (m + 1) := by
  rw [List.drop_eq_getElem_cons h]
  simp [List.getD, h]
theorem drop_setw {l : List Nat} {m d : Nat} (h : m < l.length) : (l.set m d).drop m = d :: l.drop (m + 1) := by
  rw [drop_cons (by rw [List.length_set]; exact h)]
  have e1 : (l.set m d).getD m 0 = d := by simp [List.getD, h]
  have e2 : (l.set m d).drop (m + 1) = l.drop (m + 1) := by rw [List.drop_set_of_lt (by omega)]
  rw [e1, e2]
theorem down_step {C x P vz vx T : Nat} (h : vx = P * vz + C) (hT : T = C * B32 + x) : x + B32 * vx = P * (T / P + B32 * vz) + T % P := by
  have h1 := Nat.mod_add_div T P
  rw [h, Nat.mul_add, Nat.mul_add]
  have e : B32 * (P * vz) = P * (B32 * vz) := by rw [Nat.mul_left_comm]
  have e2 : B32 * C = C * B32 := Nat.mul_comm _ _
  omega
def DnRel (g s : Nat) (xs : List Nat) (w : World) (iv cv : Value) (wr : World) : Prop :=
  ∃ (k C : Nat) (zs : List Nat), iv = .int .i64 ((k : Int) - 1) ∧ k ≤ xs.length ∧ cv = .int .u64 (C : Int) ∧ C < 2 ^ s ∧ zs.length = xs.length ∧ Hid (okN zs) ∧ Hid (val (xs.drop k) = 2 ^ s * val (zs.drop k) + C) ∧ Hid (OwnU wr w.heap.size (.slice (some ⟨g, 0, none⟩) xs.length xs.length) zs) ∧ Hid (Below w.heap.size w wr)
/-- what is lost, and what is left -/
def DnRet (s x : Nat) (w : World) (e : Ending) (w' : World) : Prop := ∃ A c, e = .returned (.tuple #[.int .u32 ((x % 2 ^ s : Nat) : Int), .slice A (natL (x / 2 ^ s)).length c]) ∧ RdU w' w'.heap.size A (natL (x / 2 ^ s)) ∧ Below w.heap.size w w'
set_option maxHeartbeats 2000000 in
theorem down_any (A : Option Addr) (c B s : Nat) (xs : List Nat) (w : World) (hx : RdU w B A xs) (hB : B ≤ w.heap.size) (hok : okN xs) (hl : xs.length ≤ 4000000) (hs : s ≤ 31) :
    Calls Try.prog 108 #[.slice A xs.length c, .int .i64 (s : Int)] w (DnRet s (val xs) w) := by
  have hmk := run_make_row' (P := Try.prog) 74 108 (.int .u32 0) 4 Try.underlying74 infoU rfl .i64 .i64 xs.length (by omega) (by omega)
  have HX := Lib.hid hx
  have HOk := Lib.hid hok
  have hz0 : okN (zerosU xs.length) := by intro y hy; unfold zerosU at hy; rw [(List.mem_replicate.1 hy).2]; decide
  have H0 : Hid (DnRel w.heap.size s xs w (.int .i64 ((xs.length : Int) - 1)) (.int .u64 0) (w.alloc (.cells (madeCells #[.int .u32 0] xs.length) 108))) :=
    Lib.hid ⟨xs.length, 0, zerosU xs.length, rfl, Nat.le_refl _, rfl, Nat.two_pow_pos s, by simp [zerosU], Lib.hid hz0, Lib.hid (by rw [List.drop_of_length_le (Nat.le_refl _), List.drop_of_length_le (by simp [zerosU])]; simp [val]), Lib.hid (made_own w _ (by omega)), Lib.hid ((Below.refl _ _).alloc (Nat.le_refl _) _)⟩
  clear hx hok hz0
  go_enter Try.func108, Try.ntmps108
  go_wp2
  clear hmk
  go_loopw [8, 7] (fun iv cv wr => DnRel w.heap.size s xs w iv cv wr) (fun iv _ _ => (intOf iv + 1).toNat)
  case atStart => exact H0.out
  case round =>
    obtain ⟨k, C, zs, rfl, hk, rfl, hC, hzl, hok, hv, HO, HBl⟩ := hrel
    clear H0
    obtain ⟨P, hPe⟩ : ∃ P, P = 2 ^ s := ⟨_, rfl⟩
    have hP31 : P ≤ 2 ^ 31 := by rw [hPe]; exact Nat.pow_le_pow_right (by decide) hs
    have hP0 : 0 < P := by rw [hPe]; exact Nat.two_pow_pos s
    by_cases hpos : 0 < k
    · obtain ⟨m, rfl⟩ : ∃ m, k = m + 1 := ⟨k - 1, by omega⟩
      have hx1 : xs.getD m 0 < B32 := okN_at HOk.out m
      obtain ⟨bb, off, rfl, _, hc⟩ := (HX.out.below HBl.out hB) (by omega)
      have gx := hc m (by omega)
      clear hc
      obtain ⟨gc, gf⟩ := HO.out.cell hzl m (by omega)
      rw [← hPe] at hC
      obtain ⟨T, hT⟩ : ∃ T, T = C * B32 + xs.getD m 0 := ⟨_, rfl⟩
      have hTlt : T < P * B32 := by
        have h1 := Nat.mul_le_mul_right B32 (show C + 1 ≤ P from hC)
        rw [Nat.add_mul, Nat.one_mul] at h1
        omega
      have hTle : P * B32 ≤ 2 ^ 31 * B32 := Nat.mul_le_mul_right _ hP31
      have hQ : T / P < B32 := by rw [Nat.div_lt_iff_lt_mul hP0, Nat.mul_comm B32]; exact hTlt
      have hmod : T % P < P := Nat.mod_lt _ hP0
      have HN : Hid (DnRel w.heap.size s xs w (.int .i64 ((m : Int) - 1)) (.int .u64 ((T % P : Nat) : Int)) (wr.setCell ⟨w.heap.size, m, none⟩ (.int .u32 ((T / P : Nat) : Int)))) := Lib.hid (by
        obtain ⟨o1, _⟩ := HO.out.set hzl m (T / P)
        refine ⟨m, T % P, zs.set m (T / P), rfl, by omega, rfl, by rw [← hPe]; exact hmod, by rw [List.length_set]; exact hzl, Lib.hid (okN_setw hok.out hQ), Lib.hid ?_, Lib.hid o1, Lib.hid (HBl.out.setCell (Nat.le_refl _) _)⟩
        rw [drop_cons (by omega), drop_setw (by omega), val, val, ← hPe]
        refine down_step ?_ hT
        rw [hPe]; exact hv.out)
      have e1 : (((m + 1 : Nat) : Int) - 1) = (m : Int) := by omega
      rw [e1]
      have hpw : (2 : Int) ^ s = (P : Int) := by rw [hPe]; simp
      unfold B32 at hT hx1 hQ hTle
      have hTe : C * 4294967296 ||| xs.getD m 0 = T := by
        have e := Nat.shiftLeft_add_eq_or_of_lt (show xs.getD m 0 < 2 ^ 32 by omega) C
        rw [Nat.shiftLeft_eq, show (2 : Nat) ^ 32 = 4294967296 from rfl] at e
        rw [← e, hT]
      have hT63 : T < 9223372036854775808 := by unfold B32 at hTlt; omega
      have hbo : bits .or .u64 ((C : Int) * 4294967296) ((xs.getD m 0 : Nat) : Int) = (T : Int) := by
        have h := u64_or (C * 4294967296) (xs.getD m 0) (by omega) (by omega)
        rw [hTe, show ((C * 4294967296 : Nat) : Int) = (C : Int) * 4294967296 by omega] at h
        exact h
      have hand : bits .and .u64 (T : Int) ((P : Int) - 1) = ((T % P : Nat) : Int) := by
        have h := u64_and_nat T (P - 1) (by omega) (by omega)
        rw [show ((P - 1 : Nat) : Int) = (P : Int) - 1 by omega] at h
        rw [h, hPe, Nat.and_two_pow_sub_one_eq_mod]
      have hdiv : (T : Int) / (P : Int) = ((T / P : Nat) : Int) := by simp
      clear e1 hTe hTlt hTle hPe
      generalize hQe : T / P = Q at *
      generalize hRe : T % P = R at *
      generalize xs.getD m 0 = x at *
      generalize zs.getD m 0 = z at *
      clear hQe hRe hT
      go_wp2
      go_roundw
      case rel => exact HN.out
      case measure => simp [intOf]
    · obtain rfl : k = 0 := by omega
      have hv2 := hv.out
      rw [List.drop_zero, List.drop_zero, ← hPe] at hv2
      rw [← hPe] at hC
      have hq : val zs = val xs / P := by rw [hv2, Nat.mul_add_div hP0, Nat.div_eq_of_lt hC, Nat.add_zero]
      have hr : C = val xs % P := by rw [hv2, Nat.mul_add_mod, Nat.mod_eq_of_lt hC]
      have hkk := natL_take hok.out
      have HT := Lib.hid (trim_any (some ⟨w.heap.size, 0, none⟩) xs.length wr.heap.size zs wr HO.out.rd hok.out (by omega) (by omega) (by omega))
      rw [hzl] at HT
      have HR : Hid (DnRet s (val xs) w (.returned (.tuple #[.int .u32 (C : Int), .slice (some ⟨w.heap.size, 0, none⟩) (natL (val zs)).length xs.length])) wr) := Lib.hid (by
        refine ⟨some ⟨w.heap.size, 0, none⟩, xs.length, by rw [← hPe, hr, hq], ?_, HBl.out⟩
        rw [← hPe, ← hq]
        have := RdU.take HO.out.rd hkk.2
        rwa [hkk.1] at this)
      have hC32 : C < 4294967296 := by omega
      clear hv2 hq hr hkk hPe hP31 hP0
      go_wp2_with fail
      refine HT.out.mono ?_
      rintro e w1 ⟨rfl, rfl⟩
      go_wp2
      go_ret2
      exact HR.out
end Go.Proofs.Ytjkcdnfmmfpbjaa.Nat32

/- The program's naturals: differences. -/
import Derived.Test.YtjkcdnfmmfpbjaaNatUp
namespace Go.Proofs.Ytjkcdnfmmfpbjaa.Nat32
open Go.RowKit Go.Proofs.Ytjkcdnfmmfpbjaa Go.Proofs.Ytjkcdnfmmfpbjaa.Base Go.Proofs.Ytjkcdnfmmfpbjaa.Mem Go.Proofs.Ytjkcdnfmmfpbjaa.NatM
set_option linter.unusedVariables false
theorem val_take_any (ys : List Nat) (i : Nat) : val (ys.take (i + 1)) = val (ys.take i) + B32 ^ i * ys.getD i 0 := by
  rcases Nat.lt_or_ge i ys.length with h | h
  · exact val_take_succ ys i h
  · rw [List.take_of_length_le (by omega), List.take_of_length_le h]
    have : ys.getD i 0 = 0 := by simp [List.getD, h]
    rw [this]; simp
theorem sub_step {i vo vy vx b b' D x y : Nat} (h : vo + vy = vx + B32 ^ i * b) (hD : D + y + b = x + B32 * b') :
    (vo + B32 ^ i * D) + (vy + B32 ^ i * y) = (vx + B32 ^ i * x) + B32 ^ (i + 1) * b' := by
  have e : B32 ^ i * D + B32 ^ i * y + B32 ^ i * b = B32 ^ i * x + B32 ^ (i + 1) * b' := by
    rw [← Nat.mul_add, ← Nat.mul_add, hD, Nat.mul_add, Nat.pow_succ, Nat.mul_assoc]
  omega
def SubRel (g : Nat) (xs ys : List Nat) (w : World) (iv bv : Value) (wr : World) : Prop :=
  ∃ (i b : Nat) (zs : List Nat), iv = .int .i64 (i : Int) ∧ i ≤ xs.length ∧ bv = .int .i64 (b : Int) ∧ b ≤ 1 ∧ zs.length = xs.length ∧ Hid (okN (zs.take i)) ∧ Hid (val (zs.take i) + val (ys.take i) = val (xs.take i) + B32 ^ i * b) ∧ Hid (OwnU wr w.heap.size (.slice (some ⟨g, 0, none⟩) xs.length xs.length) zs) ∧ Hid (Below w.heap.size w wr)
/-- a natural that is returned, in a new block -/
def NNew (x : Nat) (w : World) (e : Ending) (w' : World) : Prop := ∃ g c, e = .returned (.slice (some ⟨g, 0, none⟩) (natL x).length c) ∧ w.heap.size ≤ g ∧ RdU w' w'.heap.size (some ⟨g, 0, none⟩) (natL x) ∧ Below w.heap.size w w'
theorem NNew.ret {x : Nat} {w w' : World} {e : Ending} (h : NNew x w e w') : NRet x w e w' := by
  obtain ⟨g, c, e1, _, h1, h2⟩ := h
  exact ⟨_, c, e1, h1, h2⟩
set_option maxHeartbeats 2000000 in
theorem minus_new (A A' : Option Addr) (c c' B B' : Nat) (xs ys : List Nat) (w : World) (hx : RdU w B A xs) (hB : B ≤ w.heap.size) (hy : RdU w B' A' ys) (hB' : B' ≤ w.heap.size) (hok : okN xs) (hok' : okN ys) (hl : xs.length ≤ 4000000) (hl' : ys.length ≤ xs.length) (hle : val ys ≤ val xs) :
    Calls Try.prog 107 #[.slice A xs.length c, .slice A' ys.length c'] w (NNew (val xs - val ys) w) := by
  have hmk := run_make_row' (P := Try.prog) 74 108 (.int .u32 0) 4 Try.underlying74 infoU rfl .i64 .i64 xs.length (by omega) (by omega)
  have HX := Lib.hid hx
  have HY := Lib.hid hy
  have HOk := Lib.hid hok
  have HOk' := Lib.hid hok'
  have HLe := Lib.hid hle
  have H0 : Hid (SubRel w.heap.size xs ys w (.int .i64 0) (.int .i64 0) (w.alloc (.cells (madeCells #[.int .u32 0] xs.length) 108))) :=
    Lib.hid ⟨0, 0, zerosU xs.length, rfl, Nat.zero_le _, rfl, by omega, by simp [zerosU], Lib.hid (by intro y hy; simp at hy), Lib.hid (by simp [val]), Lib.hid (made_own w _ (by omega)), Lib.hid ((Below.refl _ _).alloc (Nat.le_refl _) _)⟩
  clear hx hy hok hok' hle
  go_enter Try.func107, Try.ntmps107
  go_wp2
  clear hmk
  go_loopw [14, 6] (fun iv bv wr => SubRel w.heap.size xs ys w iv bv wr) (fun iv _ _ => xs.length - (intOf iv).toNat)
  case atStart => exact H0.out
  case round =>
    obtain ⟨i, b, zs, rfl, hi, rfl, hb1, hzl, ho, hv, HO, HBl⟩ := hrel
    clear H0
    by_cases hlt : i < xs.length
    · have hx1 : xs.getD i 0 < B32 := HOk.out _ (by simp [List.getD, hlt])
      obtain ⟨bb, off, rfl, _, hc⟩ := (HX.out.below HBl.out hB) (by omega)
      have gx := hc i hlt
      clear hc
      obtain ⟨gc, gf⟩ := HO.out.cell hzl i (by omega)
      have hvx := val_take_any xs i
      have hvy := val_take_any ys i
      have hy1 : ys.getD i 0 < B32 := by
        rcases Nat.lt_or_ge i ys.length with h | h
        · exact HOk'.out _ (by simp [List.getD, h])
        · rw [show ys.getD i 0 = 0 by simp [List.getD, h]]; decide
      have HN := Lib.hid (fun (D b' : Nat) (hb' : b' ≤ 1) (hD : D < B32) (hDe : D + ys.getD i 0 + b = xs.getD i 0 + B32 * b') => (show SubRel w.heap.size xs ys w (.int .i64 ((i : Int) + 1)) (.int .i64 (b' : Int)) (wr.setCell ⟨w.heap.size, i, none⟩ (.int .u32 (D : Int))) from by
        obtain ⟨o1, _⟩ := HO.out.set hzl i D
        refine ⟨i + 1, b', zs.set i D, by go_num, hlt, rfl, hb', by rw [List.length_set]; exact hzl, Lib.hid (okN_set (by omega) ho.out hD), Lib.hid ?_, Lib.hid o1, Lib.hid (HBl.out.setCell (Nat.le_refl _) _)⟩
        rw [val_set zs i _ (by omega), hvx, hvy]
        exact sub_step hv.out hDe))
      clear hvx hvy
      unfold B32 at hx1 hy1
      unfold B32 at HN
      by_cases hiy : i < ys.length
      · obtain ⟨bb2, off2, rfl, _, hc2⟩ := (HY.out.below HBl.out hB') (by omega)
        have gy := hc2 i hiy
        clear hc2
        generalize xs.getD i 0 = x at *
        generalize ys.getD i 0 = y at *
        generalize zs.getD i 0 = z at *
        by_cases hneg : (x : Int) - (b : Int) - (y : Int) < 0
        · have HN2 := Lib.hid (HN.out (x + 4294967296 - b - y) 1 (by omega) (by omega) (by omega))
          have e1 : ((x + 4294967296 - b - y : Nat) : Int) = (x : Int) - (b : Int) - (y : Int) + 4294967296 := by omega
          rw [e1] at HN2
          clear HN e1
          go_wp2
          go_roundw
          case rel => exact HN2.out
          case measure => simp [intOf]; omega
        · have HN2 := Lib.hid (HN.out (x - b - y) 0 (by omega) (by omega) (by omega))
          have e1 : ((x - b - y : Nat) : Int) = (x : Int) - (b : Int) - (y : Int) := by omega
          rw [e1] at HN2
          clear HN e1
          go_wp2
          go_roundw
          case rel => exact HN2.out
          case measure => simp [intOf]; omega
      · have hy0 : ys.getD i 0 = 0 := by
          have : ys.length ≤ i := by omega
          simp [List.getD, this]
        rw [hy0] at HN
        clear hy0
        generalize xs.getD i 0 = x at *
        generalize zs.getD i 0 = z at *
        by_cases hneg : (x : Int) - (b : Int) < 0
        · have HN2 := Lib.hid (HN.out (x + 4294967296 - b) 1 (by omega) (by omega) (by omega))
          have e1 : ((x + 4294967296 - b : Nat) : Int) = (x : Int) - (b : Int) + 4294967296 := by omega
          rw [e1] at HN2
          clear HN e1
          go_wp2
          go_roundw
          case rel => exact HN2.out
          case measure => simp [intOf]; omega
        · have HN2 := Lib.hid (HN.out (x - b) 0 (by omega) (by omega) (by omega))
          have e1 : ((x - b : Nat) : Int) = (x : Int) - (b : Int) := by omega
          rw [e1] at HN2
          clear HN e1
          go_wp2
          go_roundw
          case rel => exact HN2.out
          case measure => simp [intOf]; omega
    · obtain rfl : i = xs.length := by omega
      have hok2 : okN zs := by have := ho.out; rwa [List.take_of_length_le (by omega)] at this
      have hv2 : val zs = val xs - val ys := by
        have h1 := hv.out
        rw [List.take_of_length_le (by omega), List.take_of_length_le hl', List.take_of_length_le (Nat.le_refl _)] at h1
        have h2 := val_lt zs hok2
        rw [hzl] at h2
        have h3 := HLe.out
        have hb01 : b = 0 ∨ b = 1 := by omega
        rcases hb01 with rfl | rfl
        · omega
        · rw [Nat.mul_one] at h1; omega
      have hk := natL_take hok2
      have HT := Lib.hid (trim_any (some ⟨w.heap.size, 0, none⟩) xs.length wr.heap.size zs wr HO.out.rd hok2 (by omega) (by omega) (by omega))
      rw [hzl] at HT
      have HR : Hid (NNew (val zs) w (.returned (.slice (some ⟨w.heap.size, 0, none⟩) (natL (val zs)).length xs.length)) wr) := Lib.hid ⟨w.heap.size, xs.length, rfl, Nat.le_refl _, by have := HO.out.rd.take hk.2; rwa [hk.1] at this, HBl.out⟩
      rw [hv2] at HT HR
      clear hok2 hv2 hk
      go_wp2_with fail
      refine HT.out.mono ?_
      rintro e w1 ⟨rfl, rfl⟩
      go_wp2
      go_ret
      exact HR.out
theorem minus_any (A A' : Option Addr) (c c' B B' : Nat) (xs ys : List Nat) (w : World) (hx : RdU w B A xs) (hB : B ≤ w.heap.size) (hy : RdU w B' A' ys) (hB' : B' ≤ w.heap.size) (hok : okN xs) (hok' : okN ys) (hl : xs.length ≤ 4000000) (hl' : ys.length ≤ xs.length) (hle : val ys ≤ val xs) :
    Calls Try.prog 107 #[.slice A xs.length c, .slice A' ys.length c'] w (NRet (val xs - val ys) w) :=
  (minus_new A A' c c' B B' xs ys w hx hB hy hB' hok hok' hl hl' hle).mono fun _ _ h => h.ret
end Go.Proofs.Ytjkcdnfmmfpbjaa.Nat32

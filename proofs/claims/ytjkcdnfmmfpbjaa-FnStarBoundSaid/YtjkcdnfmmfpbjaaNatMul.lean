/- The program's naturals: products. -/
import Derived.Test.YtjkcdnfmmfpbjaaNatSub
namespace Go.Proofs.Ytjkcdnfmmfpbjaa.Nat32
open Go.RowKit Go.Proofs.Ytjkcdnfmmfpbjaa Go.Proofs.Ytjkcdnfmmfpbjaa.Base Go.Proofs.Ytjkcdnfmmfpbjaa.Mem Go.Proofs.Ytjkcdnfmmfpbjaa.NatM
set_option linter.unusedVariables false
theorem val_setw : ∀ (l : List Nat) (j d : Nat), j < l.length → val (l.set j d) + B32 ^ j * l.getD j 0 = val l + B32 ^ j * d
  | [], j, d, h => by simp at h
  | x :: l, 0, d, _ => by simp [val]; omega
  | x :: l, j + 1, d, h => by
    have ih := val_setw l j d (by simpa using h)
    rw [List.set_cons_succ, val, val, show (x :: l).getD (j + 1) 0 = l.getD j 0 by simp [List.getD]]
    have e : B32 ^ (j + 1) = B32 * B32 ^ j := by rw [Nat.pow_succ, Nat.mul_comm]
    rw [e, Nat.mul_assoc, Nat.mul_assoc]
    have := congrArg (B32 * ·) ih
    simp only [Nat.mul_add] at this
    omega
theorem okN_setw {l : List Nat} {j d : Nat} (h : okN l) (hd : d < B32) : okN (l.set j d) := fun y hy => by
  rcases List.mem_or_eq_of_mem_set hy with hy | rfl
  · exact h y hy
  · exact hd
theorem getD_set_ne {l : List Nat} {i j d : Nat} (h : i ≠ j) : (l.set i d).getD j 0 = l.getD j 0 := by
  simp [List.getD, h]
theorem okN_at {l : List Nat} (h : okN l) (j : Nat) : l.getD j 0 < B32 := by
  rcases Nat.lt_or_ge j l.length with hl | hl
  · exact h _ (by simp [List.getD, hl])
  · rw [show l.getD j 0 = 0 by simp [List.getD, hl]]; decide
/-- one digit of a row of a product -/
theorem mul_step {i k vz vz' C V0 x y o vy S : Nat} (h : vz + B32 ^ (i + k) * C = V0 + x * B32 ^ i * vy) (hS : S = C + (o + x * y)) (hset : vz' + B32 ^ (i + k) * o = vz + B32 ^ (i + k) * (S % B32)) :
    vz' + B32 ^ (i + (k + 1)) * (S / B32) = V0 + x * B32 ^ i * (vy + B32 ^ k * y) := by
  have h1 := Nat.mod_add_div S B32
  have e1 : B32 ^ (i + (k + 1)) = B32 ^ (i + k) * B32 := by rw [← Nat.add_assoc, Nat.pow_succ]
  have e2 : B32 ^ (i + k) * S = B32 ^ (i + k) * (S % B32) + B32 ^ (i + k) * B32 * (S / B32) := by rw [Nat.mul_assoc, ← Nat.mul_add, h1]
  have e3 : B32 ^ (i + k) * S = B32 ^ (i + k) * C + (B32 ^ (i + k) * o + B32 ^ (i + k) * (x * y)) := by rw [hS, Nat.mul_add, Nat.mul_add]
  have e4 : x * B32 ^ i * (B32 ^ k * y) = B32 ^ (i + k) * (x * y) := by
    rw [Nat.pow_add]
    simp only [Nat.mul_assoc, Nat.mul_left_comm, Nat.mul_comm]
  rw [e1, Nat.mul_add, e4]
  omega
def MulRel (g n : Nat) (xs ys : List Nat) (w : World) (iv : Value) (wr : World) : Prop :=
  ∃ (i : Nat) (zs : List Nat), iv = .int .i64 (i : Int) ∧ i ≤ xs.length ∧ zs.length = n ∧ Hid (okN zs) ∧ Hid (∀ j, i + ys.length ≤ j → zs.getD j 0 = 0) ∧ Hid (val zs = val (xs.take i) * val ys) ∧ Hid (OwnU wr w.heap.size (.slice (some ⟨g, 0, none⟩) n n) zs) ∧ Hid (Below w.heap.size w wr)
def RowRel (g n i x V0 : Nat) (xs ys : List Nat) (w : World) (kv cv : Value) (wr : World) : Prop :=
  ∃ (k C : Nat) (zs : List Nat), kv = .int .i64 (k : Int) ∧ k ≤ ys.length ∧ cv = .int .u64 (C : Int) ∧ C < 4294967296 ∧ zs.length = n ∧ Hid (okN zs) ∧ Hid (∀ j, i + ys.length ≤ j → zs.getD j 0 = 0) ∧ Hid (val zs + B32 ^ (i + k) * C = V0 + x * B32 ^ i * val (ys.take k)) ∧ Hid (OwnU wr w.heap.size (.slice (some ⟨g, 0, none⟩) n n) zs) ∧ Hid (Below w.heap.size w wr)
theorem RowRel.next {g n i x V0 k C S M : Nat} {xs ys zs : List Nat} {w wr : World} (hg : g = w.heap.size) (hn : n = xs.length + ys.length) (hi : i < xs.length) (hk : k < ys.length) (hzl : zs.length = n) (hx : x < B32) (hC : C < B32) (hok : okN zs) (hok' : okN ys) (hz : ∀ j, i + ys.length ≤ j → zs.getD j 0 = 0)
    (hv : val zs + B32 ^ (i + k) * C = V0 + x * B32 ^ i * val (ys.take k)) (hO : OwnU wr w.heap.size (.slice (some ⟨g, 0, none⟩) n n) zs) (hb : Below w.heap.size w wr) (hM : M = x * ys.getD k 0) (hS : S = C + (zs.getD (i + k) 0 + M)) :
    RowRel g n i x V0 xs ys w (.int .i64 ((k : Int) + 1)) (.int .u64 ((S : Int) / 4294967296)) (wr.setCell ⟨g, i + k, none⟩ (.int .u32 ((S : Int) % 4294967296))) := by
  have e1 : ((S % B32 : Nat) : Int) = (S : Int) % 4294967296 := by simp [B32]
  have e2 : ((S / B32 : Nat) : Int) = (S : Int) / 4294967296 := by simp [B32]
  obtain ⟨o1, _⟩ := hO.set hzl (i + k) (S % B32)
  rw [e1] at o1
  have hyk := okN_at hok' k
  have hz1 := okN_at hok (i + k)
  have hMle : M ≤ (B32 - 1) * (B32 - 1) := by rw [hM]; exact Nat.mul_le_mul (by omega) (by omega)
  have hSlt : S / B32 < 4294967296 := by
    rw [Nat.div_lt_iff_lt_mul (by decide)]
    unfold B32 at *
    omega
  refine ⟨k + 1, S / B32, zs.set (i + k) (S % B32), by go_num, hk, by rw [e2], hSlt, by rw [List.length_set]; exact hzl, Lib.hid (okN_setw hok (Nat.mod_lt _ (by decide))), Lib.hid fun j hj => ?_, Lib.hid ?_, Lib.hid o1, Lib.hid (hb.setCell (by rw [hg]; exact Nat.le_refl _) _)⟩
  · rw [getD_set_ne (by omega)]; exact hz j hj
  · rw [val_take_any ys k]
    exact mul_step hv (by rw [hS, hM]) (val_setw zs (i + k) _ (by omega))
set_option maxHeartbeats 2000000 in
theorem times_any (A A' : Option Addr) (c c' B B' : Nat) (xs ys : List Nat) (w : World) (hx : RdU w B A xs) (hB : B ≤ w.heap.size) (hy : RdU w B' A' ys) (hB' : B' ≤ w.heap.size) (hok : okN xs) (hok' : okN ys) (hl : xs.length ≤ 2000000) (hl' : ys.length ≤ 2000000) :
    Calls Try.prog 105 #[.slice A xs.length c, .slice A' ys.length c'] w (NRet (val xs * val ys) w) := by
  have hmk := run_make_row' (P := Try.prog) 74 108 (.int .u32 0) 4 Try.underlying74 infoU rfl .i64 .i64 (xs.length + ys.length) (by omega) (by omega)
  have hcast : ((xs.length + ys.length : Nat) : Int) = (xs.length : Int) + (ys.length : Int) := by omega
  rw [hcast] at hmk
  have HX := Lib.hid hx
  have HY := Lib.hid hy
  have HOk := Lib.hid hok
  have HOk' := Lib.hid hok'
  have H0 : Hid (MulRel w.heap.size (xs.length + ys.length) xs ys w (.int .i64 0) (w.alloc (.cells (madeCells #[.int .u32 0] (xs.length + ys.length)) 108))) :=
    Lib.hid ⟨0, zerosU (xs.length + ys.length), rfl, Nat.zero_le _, by simp [zerosU], Lib.hid (by intro y hy; unfold zerosU at hy; rw [(List.mem_replicate.1 hy).2]; decide), Lib.hid (fun j _ => by simp [zerosU, List.getD, List.getElem?_replicate]; split <;> rfl), Lib.hid (by
      have : ∀ m, val (zerosU m) = 0 := fun m => by
        induction m with
        | zero => rfl
        | succ m ih => rw [zerosU, List.replicate_succ, val]; unfold zerosU at ih; rw [ih]; rfl
      rw [this]; simp [val]), Lib.hid (made_own w _ (by omega)), Lib.hid ((Below.refl _ _).alloc (Nat.le_refl _) _)⟩
  clear hx hy hok hok' hcast
  go_enter Try.func105, Try.ntmps105
  go_wp2
  clear hmk
  go_loopw [19] (fun iv wr => MulRel w.heap.size (xs.length + ys.length) xs ys w iv wr) (fun iv _ => xs.length - (intOf iv).toNat)
  case atStart => exact H0.out
  case round =>
    obtain ⟨i, zs, rfl, hi, hzl, hok, hz, hv, HO, HBl⟩ := hrel
    clear H0
    by_cases hlt : i < xs.length
    · have hx1 : xs.getD i 0 < B32 := okN_at HOk.out i
      obtain ⟨bb, off, rfl, _, hc⟩ := (HX.out.below HBl.out hB) (by omega)
      have gx := hc i hlt
      clear hc
      have hvx := Lib.hid (val_take_any xs i)
      have HR0 : Hid (RowRel w.heap.size (xs.length + ys.length) i (xs.getD i 0) (val zs) xs ys w (.int .i64 0) (.int .u64 0) wr) :=
        Lib.hid ⟨0, 0, zs, rfl, Nat.zero_le _, rfl, by omega, hzl, hok, hz, Lib.hid (by simp [val]), HO, HBl⟩
      have HV0 := Lib.hid hv.out
      obtain ⟨V0, hV0⟩ : ∃ V0, val zs = V0 := ⟨_, rfl⟩
      rw [hV0] at HR0 HV0
      have HX1 := Lib.hid hx1
      clear hV0 hv hz hok HO HBl hzl hx1
      generalize xs.getD i 0 = x at *
      go_wp2
      go_loopw [26, 8] (fun kv cv wr => RowRel w.heap.size (xs.length + ys.length) i x V0 xs ys w kv cv wr) (fun kv _ _ => ys.length - (intOf kv).toNat)
      case atStart => exact HR0.out
      case round =>
        obtain ⟨k, C, zs, rfl, hk, rfl, hC, hzl, hok, hz, hv, HO, HBl⟩ := hrel
        clear HR0
        by_cases hkt : k < ys.length
        · obtain ⟨bb2, off2, rfl, _, hc2⟩ := (HY.out.below HBl.out hB') (by omega)
          have gy := hc2 k hkt
          clear hc2
          have hy1 := okN_at HOk'.out k
          have hz1 := okN_at hok.out (i + k)
          have hx1 := HX1.out
          obtain ⟨gc, gf⟩ := HO.out.cell hzl (i + k) (by omega)
          obtain ⟨M, hM⟩ : ∃ M, M = x * ys.getD k 0 := ⟨_, rfl⟩
          have hMle : M ≤ 4294967295 * 4294967295 := by rw [hM]; exact Nat.mul_le_mul (by unfold B32 at hx1; omega) (by unfold B32 at hy1; omega)
          obtain ⟨S, hS⟩ : ∃ S, S = C + (zs.getD (i + k) 0 + M) := ⟨_, rfl⟩
          have HN := Lib.hid (RowRel.next (g := w.heap.size) rfl rfl hlt hkt hzl hx1 hC hok.out HOk'.out hz.out hv.out HO.out HBl.out hM hS)
          have hmul : (x : Int) * ((ys.getD k 0 : Nat) : Int) = (M : Int) := by rw [hM]; simp
          have hsum : (C : Int) + (((zs.getD (i + k) 0 : Nat) : Int) + (M : Int)) = (S : Int) := by omega
          have hSlt : S < 18446744073709551616 := by unfold B32 at hz1; omega
          have HS2 := Lib.hid hS
          unfold B32 at hy1 hz1 hx1
          clear hM hS
          generalize ys.getD k 0 = y at *
          generalize zs.getD (i + k) 0 = z at *
          go_wp2
          go_roundw
          case rel => exact HN.out
          case measure => simp [intOf]; omega
        · obtain rfl : k = ys.length := by omega
          obtain ⟨gc, gf⟩ := HO.out.cell hzl (i + ys.length) (by omega)
          have hz0 := hz.out (i + ys.length) (Nat.le_refl _)
          rw [hz0] at gc
          have HN : Hid (MulRel w.heap.size (xs.length + ys.length) xs ys w (.int .i64 ((i : Int) + 1)) (wr.setCell ⟨w.heap.size, i + ys.length, none⟩ (.int .u32 (C : Int)))) := Lib.hid (by
            obtain ⟨o1, _⟩ := HO.out.set hzl (i + ys.length) C
            refine ⟨i + 1, zs.set (i + ys.length) C, by go_num, hlt, by rw [List.length_set]; exact hzl, Lib.hid (okN_setw hok.out (by unfold B32; exact hC)), Lib.hid fun j hj => ?_, Lib.hid ?_, Lib.hid o1, Lib.hid (HBl.out.setCell (Nat.le_refl _) _)⟩
            · rw [getD_set_ne (by omega)]; exact hz.out j (by omega)
            · have h1 := val_setw zs (i + ys.length) C (by omega)
              rw [hz0, Nat.mul_zero, Nat.add_zero, hv.out, List.take_of_length_le (Nat.le_refl _), HV0.out] at h1
              rw [h1, hvx.out, Nat.add_mul, Nat.mul_comm x (B32 ^ i)])
          have hC2 : C < 4294967296 := hC
          clear hz0
          go_wp2
          go_roundw
          case rel => exact HN.out
          case measure => simp [intOf]; omega
    · obtain rfl : i = xs.length := by omega
      rw [List.take_of_length_le (Nat.le_refl _)] at hv
      have hk := natL_take hok.out
      have HT := Lib.hid (trim_any (some ⟨w.heap.size, 0, none⟩) (xs.length + ys.length) wr.heap.size zs wr HO.out.rd hok.out (by omega) (by omega) (by omega))
      rw [hzl] at HT
      have HR := Lib.hid (NRet.of (x := val zs) (w := w) (w' := wr) (c := xs.length + ys.length) HO.out.rd hk.1 hk.2 HBl.out)
      rw [hv.out] at HT HR
      clear hk
      go_wp2_with fail
      refine HT.out.mono ?_
      rintro e w1 ⟨rfl, rfl⟩
      go_wp2
      go_ret
      exact HR.out
end Go.Proofs.Ytjkcdnfmmfpbjaa.Nat32

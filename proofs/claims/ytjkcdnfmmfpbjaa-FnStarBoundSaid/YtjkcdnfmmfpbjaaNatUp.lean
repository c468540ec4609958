/- The program's naturals: numbers shifted up and down. -/
import Derived.Test.YtjkcdnfmmfpbjaaNat
import Derived.Test.YtjkcdnfmmfpbjaaCopy
namespace Go.Proofs.Ytjkcdnfmmfpbjaa.Nat32
open Go.RowKit Go.Proofs.Ytjkcdnfmmfpbjaa Go.Proofs.Ytjkcdnfmmfpbjaa.Base Go.Proofs.Ytjkcdnfmmfpbjaa.Mem Go.Proofs.Ytjkcdnfmmfpbjaa.NatM
set_option linter.unusedVariables false
def us (xs : List Nat) : List Value := xs.map fun (x : Nat) => Value.int .u32 (x : Int)
theorem us_len (xs : List Nat) : (us xs).length = xs.length := by simp [us]
theorem us_get (xs : List Nat) (i : Nat) (h : i < xs.length) : (us xs)[i]? = some (.int .u32 ((xs.getD i 0 : Nat) : Int)) := by simp [us, List.getD, h]
theorem us_set (xs : List Nat) (i x : Nat) : (us xs).set i (.int .u32 (x : Int)) = us (xs.set i x) := by simp [us, List.map_set]
/-- digits of the call's own -/
def OwnU (w : World) (B : Nat) (v : Value) (xs : List Nat) : Prop := w.ownsRow B 108 1 v xs.length (us xs)
theorem OwnU.form {w : World} {B : Nat} {v : Value} {xs : List Nat} (h : OwnU w B v xs) : ∃ A c, v = .slice A xs.length c ∧ (0 < xs.length → ∃ g, A = some ⟨g, 0, none⟩ ∧ B ≤ g ∧ g < w.heap.size) := ownsRow_form h
theorem OwnU.rd {w : World} {B n c : Nat} {A : Option Addr} {xs : List Nat} (h : OwnU w B (.slice A n c) xs) : RdU w w.heap.size A xs := fun h0 => by
  obtain ⟨A', c', e, hf⟩ := ownsRow_form h
  injection e with e1 e2 e3
  subst e1 e2 e3
  obtain ⟨g, rfl, _, hlt⟩ := hf h0
  refine ⟨g, 0, rfl, hlt, fun i hi => ?_⟩
  have h' : w.ownsRow B 108 1 (.slice (some ⟨g, 0, none⟩) xs.length c) xs.length (us xs) := h
  rw [Nat.zero_add, World.ownsRow.cellAt h' i (by omega), us_get xs i hi]
theorem OwnU.below {w w' : World} {B : Nat} {v : Value} {xs : List Nat} (h : OwnU w B v xs) (hb : Below w.heap.size w w') : OwnU w' B v xs := ownsRow_below h hb
theorem OwnU.set {w : World} {B g n c : Nat} {xs : List Nat} (h : OwnU w B (.slice (some ⟨g, 0, none⟩) n c) xs) (hn : xs.length = n) (i x : Nat) :
    OwnU (w.setCell ⟨g, i, none⟩ (.int .u32 (x : Int))) B (.slice (some ⟨g, 0, none⟩) n c) (xs.set i x) ∧ w.grownBy (w.setCell ⟨g, i, none⟩ (.int .u32 (x : Int))) (some g) := by
  subst hn
  unfold OwnU at *
  obtain ⟨h1, h2⟩ := h.stored i (.int .u32 (x : Int))
  rw [us_set] at h1
  rw [List.length_set]
  exact ⟨h1, h2⟩
theorem OwnU.cell {w : World} {B g n c : Nat} {xs : List Nat} (h : OwnU w B (.slice (some ⟨g, 0, none⟩) n c) xs) (hn : xs.length = n) (i : Nat) (hi : i < n) :
    w.cell? ⟨g, i, none⟩ = some (.int .u32 ((xs.getD i 0 : Nat) : Int)) ∧ w.frozen? ⟨g, i, none⟩ = false := by
  subst hn
  have h' : w.ownsRow B 108 1 (.slice (some ⟨g, 0, none⟩) xs.length c) xs.length (us xs) := h
  exact ⟨by rw [World.ownsRow.cellAt h' i (by omega), us_get xs i hi], h'.frozenAt i⟩
theorem OwnU.ge {w : World} {B g n c : Nat} {xs : List Nat} (h : OwnU w B (.slice (some ⟨g, 0, none⟩) n c) xs) : B ≤ g ∧ g < w.heap.size := by
  obtain ⟨_, _, h1, h2⟩ := ownsRow_block (g := g) h rfl
  exact ⟨h1, h2⟩
theorem infoU : (Try.prog.info? 108).map (fun i => (i.zero, i.size, i.bytes)) = some (some (.int .u32 0), 1, 4) := by kernel_rfl
def zerosU (n : Nat) : List Nat := List.replicate n 0
theorem made_own (w : World) (n : Nat) (hn : n ≤ 10000000) : OwnU (w.alloc (.cells (madeCells #[.int .u32 0] n) 108)) w.heap.size (.slice (some ⟨w.heap.size, 0, none⟩) n n) (zerosU n) := by
  have := World.ownsRow_lit (e := 108) (size := 1) (base := w.heap.size) w (madeCells #[.int .u32 0] n) n (Nat.le_refl _) (by simp [maxLen]; omega) (by simp [size_madeCells])
  rw [toList_madeCells_one] at this
  unfold OwnU zerosU
  rw [List.length_replicate, show us (List.replicate n 0) = List.replicate n (.int .u32 0) by simp [us]]
  exact this
theorem val_set (ys : List Nat) (i x : Nat) (h : i < ys.length) : val ((ys.set i x).take (i + 1)) = val (ys.take i) + B32 ^ i * x := by
  rw [val_take_succ _ i (by rw [List.length_set]; exact h)]
  have e1 : (ys.set i x).take i = ys.take i := by rw [List.take_set, List.set_eq_of_length_le (by rw [List.length_take]; omega)]
  rw [e1]
  simp [List.getD, h]
theorem okN_set {ys : List Nat} {i x : Nat} (h : i < ys.length) (ho : okN (ys.take i)) (hx : x < B32) : okN ((ys.set i x).take (i + 1)) := by
  have e : (ys.set i x).take (i + 1) = ys.take i ++ [x] := by
    rw [List.take_succ_eq_append_getElem (by rw [List.length_set]; exact h)]
    rw [List.take_set, List.set_eq_of_length_le (by rw [List.length_take]; omega)]
    simp
  rw [e]
  intro y hy
  rcases List.mem_append.1 hy with hy | hy
  · exact ho y hy
  · simp only [List.mem_singleton] at hy; rw [hy]; exact hx
/-- one digit shifted up -/
theorem up_step {v C x P i vx : Nat} (hC : C < P) (hx : x < B32) (h : v + B32 ^ i * C = vx * P) :
    (C + x * P) / B32 < P ∧ v + B32 ^ i * ((C + x * P) % B32) + B32 ^ (i + 1) * ((C + x * P) / B32) = (vx + B32 ^ i * x) * P := by
  refine ⟨?_, ?_⟩
  · rw [Nat.div_lt_iff_lt_mul (by decide)]
    have h1 : x * P ≤ (B32 - 1) * P := Nat.mul_le_mul_right _ (by omega)
    rw [Nat.sub_mul, Nat.one_mul] at h1
    have h2 : P ≤ B32 * P := Nat.le_mul_of_pos_left _ (by decide)
    rw [Nat.mul_comm P B32]
    omega
  · have h3 := Nat.mod_add_div (C + x * P) B32
    rw [Nat.pow_succ, Nat.mul_assoc, Nat.add_assoc, ← Nat.mul_add, h3, Nat.mul_add, Nat.add_mul, ← h, Nat.mul_assoc]
    omega
def UpRel (g s : Nat) (xs : List Nat) (w : World) (iv cv : Value) (wr : World) : Prop :=
  ∃ (i C : Nat) (ys : List Nat), iv = .int .i64 (i : Int) ∧ i ≤ xs.length ∧ cv = .int .u64 (C : Int) ∧ ys.length = xs.length + 1 ∧ C < 2 ^ s ∧ Hid (okN (ys.take i)) ∧ Hid (val (ys.take i) + B32 ^ i * C = val (xs.take i) * 2 ^ s) ∧ Hid (OwnU wr w.heap.size (.slice (some ⟨g, 0, none⟩) (xs.length + 1) (xs.length + 1)) ys) ∧ Hid (Below w.heap.size w wr)
def UpRet (s : Nat) (xs : List Nat) (w : World) (e : Ending) (w' : World) : Prop :=
  ∃ (g : Nat) (ys : List Nat), e = .returned (.slice (some ⟨g, 0, none⟩) (xs.length + 1) (xs.length + 1)) ∧ ys.length = xs.length + 1 ∧ okN ys ∧ val ys = val xs * 2 ^ s ∧ OwnU w' w.heap.size (.slice (some ⟨g, 0, none⟩) (xs.length + 1) (xs.length + 1)) ys ∧ Below w.heap.size w w'
set_option maxHeartbeats 1000000 in
theorem up_any (A : Option Addr) (c B s : Nat) (xs : List Nat) (w : World) (hx : RdU w B A xs) (hB : B ≤ w.heap.size) (hok : okN xs) (hl : xs.length ≤ 4000000) (hs : s ≤ 31) :
    Calls Try.prog 104 #[.slice A xs.length c, .int .i64 (s : Int)] w (UpRet s xs w) := by
  have hmk := run_make_row' (P := Try.prog) 74 108 (.int .u32 0) 4 Try.underlying74 infoU rfl .i64 .i64 (xs.length + 1) (by omega) (by omega)
  have hcast : ((xs.length + 1 : Nat) : Int) = (xs.length : Int) + 1 := by omega
  rw [hcast] at hmk
  have HX := Lib.hid hx
  have HOk := Lib.hid hok
  have H0 : Hid (UpRel w.heap.size s xs w (.int .i64 0) (.int .u64 0) (w.alloc (.cells (madeCells #[.int .u32 0] (xs.length + 1)) 108))) :=
    Lib.hid ⟨0, 0, zerosU (xs.length + 1), rfl, Nat.zero_le _, rfl, by simp [zerosU], Nat.two_pow_pos s, Lib.hid (by intro y hy; simp at hy), Lib.hid (by simp [val]), Lib.hid (made_own w _ (by omega)), Lib.hid ((Below.refl _ _).alloc (Nat.le_refl _) _)⟩
  clear hx hok hcast
  go_enter Try.func104, Try.ntmps104
  go_wp2
  clear hmk
  go_loopw [15, 6] (fun iv cv wr => UpRel w.heap.size s xs w iv cv wr) (fun iv _ _ => xs.length - (intOf iv).toNat)
  case atStart => exact H0.out
  case round =>
    obtain ⟨i, C, ys, rfl, hi, rfl, hyl, hC, ho, hv, HO, HBl⟩ := hrel
    clear H0
    by_cases hlt : i < xs.length
    · have hx1 : xs.getD i 0 < B32 := HOk.out _ (by simp [List.getD, hlt])
      obtain ⟨b, off, rfl, _, hc⟩ := (HX.out.below HBl.out hB) (by omega)
      have gx := hc i hlt
      clear hc
      obtain ⟨gc, gf⟩ := HO.out.cell hyl i (by omega)
      have hvx := val_take_succ xs i hlt
      obtain ⟨q1, q2⟩ := up_step (i := i) hC hx1 hv.out
      rw [← hvx] at q2
      have hP : 2 ^ s ≤ 2 ^ 31 := Nat.pow_le_pow_right (by decide) hs
      have hP0 : 0 < 2 ^ s := Nat.two_pow_pos s
      have hM : xs.getD i 0 * 2 ^ s < 9223372036854775808 := by
        have h1 : xs.getD i 0 * 2 ^ s ≤ 4294967295 * 2147483648 := Nat.mul_le_mul (by unfold B32 at hx1; omega) hP
        omega
      obtain ⟨M, hMe⟩ : ∃ M, M = xs.getD i 0 * 2 ^ s := ⟨_, rfl⟩
      have hor : C ||| M = C + M := by
        have e := Nat.shiftLeft_add_eq_or_of_lt hC (xs.getD i 0)
        rw [Nat.shiftLeft_eq, ← hMe] at e
        rw [Nat.or_comm, ← e, Nat.add_comm]
      have hmul : ((xs.getD i 0 : Nat) : Int) * (2 : Int) ^ s = (M : Int) := by rw [hMe]; simp
      have hbo : bits .or .u64 (C : Int) (M : Int) = ((C + M : Nat) : Int) := by rw [u64_or C M (by omega) (by omega), hor]
      rw [← hMe] at q1 q2 hM
      have hCM : C + M < 9223372036854775808 + 2147483648 := by omega
      have Q := Lib.hid (And.intro q1 q2)
      have HM := Lib.hid hM
      clear hvx hor hMe q1 q2 hP hP0
      unfold B32 at hx1
      generalize hS : C + M = S at *
      have HN : Hid (UpRel w.heap.size s xs w (.int .i64 ((i : Int) + 1)) (.int .u64 ((S : Int) / 4294967296)) (wr.setCell ⟨w.heap.size, i, none⟩ (.int .u32 ((S : Int) % 4294967296)))) := Lib.hid (by
        have e1 : ((S % B32 : Nat) : Int) = (S : Int) % 4294967296 := by simp [B32]
        have e2 : ((S / B32 : Nat) : Int) = (S : Int) / 4294967296 := by simp [B32]
        obtain ⟨o1, _⟩ := HO.out.set hyl i (S % B32)
        rw [e1] at o1
        refine ⟨i + 1, S / B32, ys.set i (S % B32), by go_num, hlt, by rw [e2], by rw [List.length_set]; exact hyl, Q.out.1, Lib.hid (okN_set (by omega) ho.out (Nat.mod_lt _ (by decide))), Lib.hid ?_, Lib.hid o1, Lib.hid (HBl.out.setCell (Nat.le_refl _) _)⟩
        rw [val_set ys i _ (by omega)]
        exact Q.out.2)
      generalize xs.getD i 0 = x at *
      generalize ys.getD i 0 = y at *
      clear hS
      go_wp2
      go_roundw
      case rel => exact HN.out
      case measure => simp [intOf]; omega
    · obtain rfl : i = xs.length := by omega
      obtain ⟨gc, gf⟩ := HO.out.cell hyl xs.length (by omega)
      have hP : 2 ^ s ≤ 2 ^ 31 := Nat.pow_le_pow_right (by decide) hs
      have hC32 : C < 4294967296 := by omega
      have HR : Hid (UpRet s xs w (.returned (.slice (some ⟨w.heap.size, 0, none⟩) (xs.length + 1) (xs.length + 1))) (wr.setCell ⟨w.heap.size, xs.length, none⟩ (.int .u32 (C : Int)))) := Lib.hid (by
        obtain ⟨o1, _⟩ := HO.out.set hyl xs.length C
        refine ⟨w.heap.size, ys.set xs.length C, rfl, by rw [List.length_set]; exact hyl, ?_, ?_, o1, HBl.out.setCell (Nat.le_refl _) _⟩
        · have := okN_set (ys := ys) (i := xs.length) (x := C) (by omega) ho.out hC32
          rw [List.take_of_length_le (by rw [List.length_set]; omega)] at this
          exact this
        · have := val_set ys xs.length C (by omega)
          rw [List.take_of_length_le (by rw [List.length_set]; omega), hv.out, List.take_of_length_le (Nat.le_refl _)] at this
          exact this)
      generalize ys.getD xs.length 0 = y at *
      clear hP
      go_wp2
      go_ret
      exact HR.out
end Go.Proofs.Ytjkcdnfmmfpbjaa.Nat32

/- The reference's register: validity, a step, the cycle of states. -/
import Derived.Test.YtjajemdeioabkaaDoorBits
import Derived.Test.YtjajemdeioabkaaDoorCongSpec
namespace Go.Proofs.YtjajemdeioabkaaDoor.Reg
open Go.RowKit Go.Proofs.YtjajemdeioabkaaDoor Go.Proofs.YtjajemdeioabkaaDoor.Base Go.Proofs.YtjajemdeioabkaaDoor.Bits
set_option linter.unusedVariables false

theorem pw_bd {W : Nat} (h : W ≤ 16) : 1 ≤ (2 : Int) ^ W ∧ (2 : Int) ^ W ≤ 65536 := by
  have h1 : 2 ^ W ≤ 2 ^ 16 := Nat.pow_le_pow_right (by decide) h
  have h2 : 0 < 2 ^ W := Nat.two_pow_pos W
  have e : ((2 ^ W : Nat) : Int) = (2 : Int) ^ W := by simp
  rw [← e]; omega
def stB (W : Nat) (x : Int) : Bool := inR x 0 ((2 : Int) ^ W - 1)
def regB (W T : Int) : Bool := inR W 0 16 && stB W.toNat T
theorem regB_true {W T : Int} (h : regB W T = true) : 0 ≤ W ∧ W ≤ 16 ∧ 0 ≤ T ∧ T < (2 : Int) ^ W.toNat := by
  simp only [regB, Bool.and_eq_true, stB] at h
  have h1 := inR_true h.1
  have h2 := inR_true h.2
  omega
theorem l02State_any (W : Nat) (x : Int) (hn : W ≤ 16) (w : World) :
    Calls Tryd.prog 47 #[.int .i64 W, .int .i64 x] w fun e w' => e = .returned (.bool (stB W x)) ∧ w = w' := by
  obtain ⟨p1, p2⟩ := pw_bd hn
  go_enter Tryd.func47, Tryd.ntmps47
  go_wp2_with (go_at_call 49; refine (l00In_any _ _ _ _).mono ?_; rintro e w' ⟨rfl, rfl⟩)
  go_ret
  exact ⟨rfl, rfl⟩
theorem l02State_qb {W : Nat} {x : Int} {r : Bool} (h : stB W x = r) (hn : W ≤ 16) (w : World) :
    Calls Tryd.prog 47 #[.int .i64 W, .int .i64 x] w fun e w' => e = .returned (.bool r) ∧ w' = w := by
  subst h; exact (l02State_any W x hn w).mono fun _ _ h => ⟨h.1, h.2.symm⟩

theorem l02Is_any (b o : Nat) (W T : Int) (w : World) (h0 : w.cell? ⟨b, o, none⟩ = some (.int .i64 W)) (h1 : w.cell? ⟨b, o + 1, none⟩ = some (.int .i64 T)) :
    Calls Tryd.prog 46 #[.pointer (some ⟨b, o, none⟩)] w fun e w' => e = .returned (.bool (regB W T)) ∧ ∃ n, w' = w.drewN n := by
  cases hm : inR W 0 16
  · go_enter Tryd.func46, Tryd.ntmps46
    go_wp2
    go_quiet ((go_at_call 49; exact Calls.quiet_of_same (l00In_qb hm _)))
    go_wp2
    go_ret
    exact ⟨ret_bool (by simp [regB, hm]), _, rfl⟩
  · obtain ⟨b1, b2⟩ := inR_true hm
    obtain ⟨V, rfl⟩ := Int.eq_ofNat_of_zero_le b1
    cases hf : stB V T
    all_goals
      go_enter Tryd.func46, Tryd.ntmps46
      go_wp2
      go_quiet ((first | (go_at_call 49; exact Calls.quiet_of_same (l00In_qb hm _)) | (go_at_call 47; exact Calls.quiet_of_same (l02State_qb hf (by omega) _))))
      go_wp2
      go_ret
      exact ⟨ret_bool (by simp [regB, hm, hf]), _, rfl⟩

def bothR (W T x : Int) : Bool := regB W T && stB W.toNat x
theorem bothR_true {W T x : Int} (h : bothR W T x = true) : 0 ≤ W ∧ W ≤ 16 ∧ 0 ≤ T ∧ T < (2 : Int) ^ W.toNat ∧ 0 ≤ x ∧ x < (2 : Int) ^ W.toNat := by
  simp only [bothR, Bool.and_eq_true, stB] at h
  have h1 := regB_true h.1
  have h2 := inR_true h.2
  omega
theorem l02Both_any (b o : Nat) (W T x : Int) (w : World) (h0 : w.cell? ⟨b, o, none⟩ = some (.int .i64 W)) (h1 : w.cell? ⟨b, o + 1, none⟩ = some (.int .i64 T)) :
    Calls Tryd.prog 37 #[.pointer (some ⟨b, o, none⟩), .int .i64 x] w fun e w' => e = .returned (.bool (bothR W T x)) ∧ ∃ n, w' = w.drewN n := by
  cases hB : regB W T
  · go_enter Tryd.func37, Tryd.ntmps37
    go_wp2_with (go_at_call 46; refine (l02Is_any _ _ W T _ h0 h1).mono ?_; rintro e w1 ⟨rfl, k, rfl⟩)
    go_ret
    exact ⟨ret_bool (by simp [bothR, hB]), _, rfl⟩
  · obtain ⟨g1, g2, _⟩ := regB_true hB
    obtain ⟨V, rfl⟩ := Int.eq_ofNat_of_zero_le g1
    go_enter Tryd.func37, Tryd.ntmps37
    go_wp2_with (first | (go_at_call 46; refine (l02Is_any _ _ (V : Int) T _ h0 h1).mono ?_; rintro e w1 ⟨rfl, k, rfl⟩) | (go_at_call 47; refine (l02State_any V _ (by omega) _).mono ?_; rintro e w' ⟨rfl, rfl⟩))
    go_ret
    exact ⟨ret_bool (by simp [bothR, hB]), _, rfl⟩

/-- the next state -/
def nextR (W T x : Nat) : Nat := if W = 0 then 0 else x / 2 ||| PopM.par (x &&& T) * 2 ^ (W - 1)

theorem nextR_lt {W T x : Nat} (hx : x < 2 ^ W) : nextR W T x < 2 ^ W := by
  unfold nextR
  by_cases h : W = 0
  · rw [if_pos h]; exact Nat.two_pow_pos W
  · rw [if_neg h]
    obtain ⟨V, rfl⟩ : ∃ V, W = V + 1 := ⟨W - 1, by omega⟩
    have hp := PopM.par_lt (x &&& T)
    rw [Nat.pow_succ] at hx
    have h1 : PopM.par (x &&& T) * 2 ^ (V + 1 - 1) < 2 ^ (V + 1) := by
      rw [Nat.add_sub_cancel, Nat.pow_succ]
      have : PopM.par (x &&& T) * 2 ^ V ≤ 1 * 2 ^ V := Nat.mul_le_mul_right _ (by omega)
      have := Nat.two_pow_pos V
      omega
    exact Nat.or_lt_two_pow (by rw [Nat.pow_succ]; omega) h1
theorem nextR_int {W T x : Nat} (hW : 1 ≤ W) (hW2 : W ≤ 16) (hx : x < 2 ^ W) : bits .or .i64 ((x : Int) / 2) (wrap64 ((PopM.par (x &&& T) : Int) * (2 : Int) ^ (W - 1))) = ((nextR W T x : Nat) : Int) := by
  have hp := PopM.par_lt (x &&& T)
  have hW3 : 2 ^ W ≤ 65536 := Nat.pow_le_pow_right (by decide) hW2
  have h1 : 2 ^ (W - 1) ≤ 65536 := Nat.le_trans (Nat.pow_le_pow_right (by decide) (by omega)) hW3
  have h2 : PopM.par (x &&& T) * 2 ^ (W - 1) ≤ 1 * 65536 := Nat.mul_le_mul (by omega) h1
  have e : (PopM.par (x &&& T) : Int) * (2 : Int) ^ (W - 1) = ((PopM.par (x &&& T) * 2 ^ (W - 1) : Nat) : Int) := by simp
  have e2 : wrap64 (((PopM.par (x &&& T) * 2 ^ (W - 1) : Nat) : Int)) = ((PopM.par (x &&& T) * 2 ^ (W - 1) : Nat) : Int) := by simp only [wrap64]; omega
  rw [e, e2, show ((x : Int) / 2) = ((x / 2 : Nat) : Int) by omega, i64_or_nat _ _ (by omega) (by omega)]
  unfold nextR
  rw [if_neg (by omega)]

theorem ret_two {k : IntKind} {a b c d : Int} (h : a = b) (h' : c = d) : Ending.returned (.tuple #[.int k a, .int k c]) = .returned (.tuple #[.int k b, .int k d]) := by rw [h, h']
/-- what a step hands back: the next state, and a number -/
def StepRet (W T x : Nat) (w : World) (e : Ending) (w' : World) : Prop := e = .returned (.tuple #[.int .i64 (nextR W T x : Nat), .int .i64 (x % 2 : Nat)]) ∧ ∃ n, w' = w.drewN n
noncomputable def preR (W T x : Int) : Int := if bothR W T x = true then CycM.preOf (nextR W.toNat T.toNat) x.toNat else 0
noncomputable def perR (W T x : Int) : Int := if bothR W T x = true then CycM.perOf (nextR W.toNat T.toNat) x.toNat else 0
theorem preR_eq {m f x : Int} (h : bothR m f x = true) {j n : Nat} (hc : CycM.IsCyc (nextR m.toNat f.toNat) x.toNat j n) : preR m f x = j := by
  rw [preR, if_pos h, CycM.preOf_of hc]
theorem perR_eq {m f x : Int} (h : bothR m f x = true) {j n : Nat} (hc : CycM.IsCyc (nextR m.toNat f.toNat) x.toNat j n) : perR m f x = (n : Int) - j := by
  rw [perR, if_pos h, CycM.perOf_of hc]
theorem preR_no {m f x : Int} (h : bothR m f x = false) : preR m f x = 0 := by rw [preR, if_neg (by simp [h])]
theorem perR_no {m f x : Int} (h : bothR m f x = false) : perR m f x = 0 := by rw [perR, if_neg (by simp [h])]
theorem ret_tup3 {k : IntKind} {a b a' b' : Int} {c d : Bool} (h : a = b) (h' : a' = b') (h'' : c = d) : Ending.returned (.tuple #[.int k a, .int k a', .bool c]) = .returned (.tuple #[.int k b, .int k b', .bool d]) := by rw [h, h', h'']

/-- the reference's loop: the list of first visits, the state, the steps told so far; the box still holds the register -/
def RegRel (W T x : Nat) (t : TypeId) (w : World) (xv nv : Value) (wr : World) : Prop :=
  ∃ (n : Nat) (F : Nat → Nat), n ≤ 2 ^ W ∧ CycM.Seen (nextR W T) x (2 ^ W) n F ∧ wr.rowIs (w.heap.size + 1) t (2 ^ W) (fun s => .int .i64 (F s : Nat)) ∧ Below w.heap.size w wr ∧
    wr.cell? ⟨w.heap.size, 0, none⟩ = some (.int .i64 (W : Int)) ∧ wr.cell? ⟨w.heap.size, 1, none⟩ = some (.int .i64 (T : Int)) ∧ xv = .int .i64 (CycM.iter (nextR W T) x n : Nat) ∧ nv = .int .i64 (n : Int)
theorem RegRel.next {W T x n : Nat} {t : TypeId} {w wr : World} {F : Nat → Nat} (hT : ∀ s, s < 2 ^ W → nextR W T s < 2 ^ W) (hx : x < 2 ^ W) (hS : CycM.Seen (nextR W T) x (2 ^ W) n F)
    (hrow : wr.rowIs (w.heap.size + 1) t (2 ^ W) (fun s => .int .i64 (F s : Nat))) (hb : Below w.heap.size w wr) (e0 : wr.cell? ⟨w.heap.size, 0, none⟩ = some (.int .i64 (W : Int))) (e1 : wr.cell? ⟨w.heap.size, 1, none⟩ = some (.int .i64 (T : Int)))
    (h0 : F (CycM.iter (nextR W T) x n) = 0) (k : Nat) :
    RegRel W T x t w (.int .i64 (nextR W T (CycM.iter (nextR W T) x n) : Nat)) (.int .i64 ((n : Int) + 1)) ((wr.setCell ⟨w.heap.size + 1, CycM.iter (nextR W T) x n, none⟩ (.int .i64 ((n : Int) + 1))).drewN k) := by
  refine ⟨n + 1, _, (hS.step hT hx h0).le hT hx, hS.step hT hx h0, ?_, below_drewN (hb.setCell (by show w.heap.size ≤ w.heap.size + 1; omega) _) k, ?_, ?_, rfl, by simp⟩
  · obtain ⟨c, hc1, hc2, hc3⟩ := hrow.set (CycM.iter (nextR W T) x n) (.int .i64 ((n : Int) + 1))
    refine ⟨c, hc1, hc2, fun i hi => ?_⟩
    rw [hc3 i hi]
    by_cases e : i = CycM.iter (nextR W T) x n
    · simp [e]
    · simp [e]
  · exact Cong.setOther (by omega) e0 _
  · exact Cong.setOther (by omega) e1 _

end Go.Proofs.YtjajemdeioabkaaDoor.Reg

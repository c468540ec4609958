/- Cuts of points: whether they are some, of the program and of the reference; the counts of boxes. -/
import Derived.Test.YtjkcdnfmmfpbjaaShift
namespace Go.Proofs.Ytjkcdnfmmfpbjaa.Cuts
open Go.RowKit Go.Proofs.Ytjkcdnfmmfpbjaa Go.Proofs.Ytjkcdnfmmfpbjaa.Base Go.Proofs.Ytjkcdnfmmfpbjaa.Mem Go.Proofs.Ytjkcdnfmmfpbjaa.AllIn Go.Proofs.Ytjkcdnfmmfpbjaa.Pts Go.Proofs.Ytjkcdnfmmfpbjaa.RevNet Go.Proofs.Ytjkcdnfmmfpbjaa.Bits
set_option linter.unusedVariables false
def sumTo (ys : List Int) : Nat → Int
  | 0 => 0
  | d + 1 => sumTo ys d + ys.getD d 0
theorem sumTo_bd {ys : List Int} {hi : Int} (h : ∀ i, i < ys.length → 0 ≤ ys.getD i 0 ∧ ys.getD i 0 ≤ hi) : ∀ d, d ≤ ys.length → 0 ≤ sumTo ys d ∧ sumTo ys d ≤ d * hi
  | 0, _ => by simp [sumTo]
  | d + 1, hd => by
    have h1 := sumTo_bd h d (by omega)
    have h2 := h d (by omega)
    have e : ((d + 1 : Nat) : Int) * hi = d * hi + hi := by rw [Int.natCast_add, Int.add_mul]; simp
    rw [sumTo, e]; omega
theorem sumTo_mono {ys : List Int} (h : ∀ i, i < ys.length → 0 ≤ ys.getD i 0) : ∀ d e, d ≤ e → e ≤ ys.length → sumTo ys d ≤ sumTo ys e
  | d, 0, h1, _ => by
    obtain rfl : d = 0 := by omega
    exact Int.le_refl _
  | d, e + 1, h1, h2 => by
    rcases Nat.lt_or_ge e d with hlt | hge
    · obtain rfl : d = e + 1 := by omega
      exact Int.le_refl _
    · have := sumTo_mono h d e hge (by omega)
      have := h e (by omega)
      rw [sumTo]; omega
def cutsB (xss : List (List Int)) (bits : Int) (ys : List Int) : Bool := ptsB xss bits && (ys.length == (xss.getD 0 []).length && (allInB ys 0 bits && decide (sumTo ys ys.length ≤ 6)))
set_option maxHeartbeats 400000 in
theorem totalOf_any (A : Option Addr) (c B : Nat) (hi : Int) (ys : List Int) (w : World) (hy : RdI w B A ys) (h : ∀ i, i < ys.length → 0 ≤ ys.getD i 0 ∧ ys.getD i 0 ≤ 6) (hl : ys.length ≤ 4) :
    Calls Try.prog 89 #[.slice A ys.length c] w fun e w' => e = .returned (.int .i64 (sumTo ys ys.length)) ∧ w = w' := by
  have HB := Lib.hid (sumTo_bd h)
  have HY := Lib.hid hy
  have HR := Lib.hid h
  clear hy h
  go_enter Try.func89, Try.ntmps89
  go_wp2
  go_loop [3, 8] (fun s i => ∃ d : Nat, d ≤ ys.length ∧ i = .int .i64 (d : Int) ∧ s = .int .i64 (sumTo ys d)) (fun _ i => ys.length - (intOf i).toNat)
  case atStart => exact ⟨0, Nat.zero_le _, rfl, rfl⟩
  case round =>
    obtain ⟨d, hd, rfl, rfl⟩ := hrel
    by_cases hdt : d < ys.length
    · obtain ⟨b, off, rfl, _, hc⟩ := HY.out (by omega)
      have g := hc d hdt
      obtain ⟨h1, h2⟩ := HB.out d hd
      obtain ⟨h3, h4⟩ := HR.out d hdt
      have HS : Hid (sumTo ys (d + 1) = sumTo ys d + ys.getD d 0) := Lib.hid rfl
      clear hc
      generalize ys.getD d 0 = y at *
      generalize sumTo ys d = s at *
      go_wp2
      go_round
      case rel => exact ⟨d + 1, hdt, by go_num, by rw [HS.out]⟩
      case measure => simp [intOf]; omega
    · obtain rfl : d = ys.length := by omega
      go_wp2
      go_ret
      exact ⟨rfl, rfl⟩
theorem cutsB_true {xss : List (List Int)} {bits : Int} {ys : List Int} (h : cutsB xss bits ys = true) : ptsB xss bits = true ∧ ys.length = (xss.getD 0 []).length ∧ allInB ys 0 bits = true ∧ sumTo ys ys.length ≤ 6 := by
  simp only [cutsB, Bool.and_eq_true, beq_iff_eq, decide_eq_true_eq] at h
  exact h
set_option maxHeartbeats 2000000 in
theorem areCuts_any (A A' : Option Addr) (c c' B : Nat) (bits : Int) (xss : List (List Int)) (ys : List Int) (w : World) (hx : RdII w B A xss) (hy : RdI w B A' ys) (hB : B ≤ w.heap.size) (hl : xss.length ≤ 1048576) (hm : tot xss ≤ 1048576) (hly : ys.length ≤ 1048576) :
    Calls Try.prog 88 #[.slice A xss.length c, .int .i64 bits, .slice A' ys.length c'] w fun e w' => e = .returned (.bool (cutsB xss bits ys)) ∧ Below w.heap.size w w' := by
  have HV := Lib.hid (implIsPoints_any A c B bits xss w hx hB hl hm)
  cases hp : ptsB xss bits with
  | false =>
    rw [hp] at HV
    have HF := Lib.hid (show cutsB xss bits ys = false by simp [cutsB, hp])
    clear hx hy hp
    go_enter Try.func88, Try.ntmps88
    go_wp2_with fail
    refine HV.out.mono ?_
    rintro e w1 ⟨rfl, hb1⟩
    have B1 := Lib.hid hb1
    clear hb1
    go_wp2
    go_ret
    exact ⟨ret_bool HF.out.symm, B1.out⟩
  | true =>
    rw [hp] at HV
    obtain ⟨q1, q2, q3, q4, q5, q6, _⟩ := ptsB_true hp
    obtain ⟨bb, off, hA, hbB, hc⟩ := hx (by omega)
    obtain ⟨A0, c0, g0, _⟩ := hc 0 (by omega)
    rw [Nat.add_zero] at g0
    subst hA
    have hbw : bb < w.heap.size := by omega
    have hpos : 0 < xss.length := by omega
    by_cases hL : ys.length = (xss.getD 0 []).length
    · have HAny := Lib.hid (fun W hW => allIn_any A' c' B ys 0 bits W (hy.below (hW : Below w.heap.size w W) hB) (Nat.le_trans hB hW.size) (by omega))
      rw [← hL] at g0 q5 q6
      have heq : ((ys.length : Int) == (ys.length : Int)) = true := by simp
      cases hyA : allInB ys 0 bits with
      | false =>
        rw [hyA] at HAny
        have HF := Lib.hid (show cutsB xss bits ys = false by unfold cutsB; rw [hyA]; simp)
        clear hx hy hp hL hyA hc
        go_enter Try.func88, Try.ntmps88
        go_wp2_with fail
        refine HV.out.mono ?_
        rintro e w1 ⟨rfl, hb1⟩
        have B1 := Lib.hid hb1
        have g1 := (hb1.cell (p := ⟨bb, off, none⟩) hbw).trans g0
        clear hb1 g0
        go_wp2_with fail
        refine (HAny.out w1 B1.out).mono ?_
        rintro e w2 ⟨rfl, hb2⟩
        have B2 := Lib.hid (Base.Below.nextA B1.out hb2)
        clear hb2 g1
        go_wp2
        go_ret
        exact ⟨ret_bool HF.out.symm, B2.out⟩
      | true =>
        rw [hyA] at HAny
        have hin := allInB_true hyA
        have HF := Lib.hid (show cutsB xss bits ys = decide (sumTo ys ys.length ≤ 6) by unfold cutsB; rw [hyA, hp, beq_iff_eq.2 hL]; simp)
        have HTo := Lib.hid (fun W (hW : Below w.heap.size w W) => totalOf_any A' c' B bits ys W (hy.below hW hB) (fun i hi => by have := hin i hi; omega) (by omega))
        clear hx hy hp hL hyA hc hin
        go_enter Try.func88, Try.ntmps88
        go_wp2_with fail
        refine HV.out.mono ?_
        rintro e w1 ⟨rfl, hb1⟩
        have B1 := Lib.hid hb1
        have g1 := (hb1.cell (p := ⟨bb, off, none⟩) hbw).trans g0
        clear hb1 g0
        go_wp2_with fail
        refine (HAny.out w1 B1.out).mono ?_
        rintro e w2 ⟨rfl, hb2⟩
        have B2 := Lib.hid (Base.Below.nextA B1.out hb2)
        clear hb2 g1
        go_wp2_with fail
        refine (HTo.out w2 B2.out).mono ?_
        rintro e w' ⟨rfl, rfl⟩
        go_wp2
        go_ret
        exact ⟨ret_bool HF.out.symm, B2.out⟩
    · have HF := Lib.hid (show cutsB xss bits ys = false by unfold cutsB; rw [beq_eq_false_iff_ne.2 hL]; simp)
      have hneq : ((ys.length : Int) == ((xss.getD 0 []).length : Int)) = false := beq_eq_false_iff_ne.2 (by omega)
      clear hx hy hp hc q5
      generalize (xss.getD 0 []).length = L at *
      go_enter Try.func88, Try.ntmps88
      go_wp2_with fail
      refine HV.out.mono ?_
      rintro e w1 ⟨rfl, hb1⟩
      have B1 := Lib.hid hb1
      have g1 := (hb1.cell (p := ⟨bb, off, none⟩) hbw).trans g0
      clear hb1 g0
      go_wp2
      go_ret
      exact ⟨ret_bool HF.out.symm, B1.out⟩
end Go.Proofs.Ytjkcdnfmmfpbjaa.Cuts

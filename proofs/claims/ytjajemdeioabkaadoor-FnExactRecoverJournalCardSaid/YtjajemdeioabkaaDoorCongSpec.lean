/- The reference's congruence: validity, a step, the cycle of states. -/
import Derived.Test.YtjajemdeioabkaaDoorBase
import Derived.Test.YtjajemdeioabkaaDoorCycMath
import Derived.Deep.OwnRows
namespace Go.Proofs.YtjajemdeioabkaaDoor.Cong
open Go.RowKit Go.Proofs.YtjajemdeioabkaaDoor Go.Proofs.YtjajemdeioabkaaDoor.Base
set_option linter.unusedVariables false

def congB (m f a : Int) : Bool := inR m 2 100000 && (inR f 0 (m - 1) && inR a 0 (m - 1))
theorem congB_true {m f a : Int} (h : congB m f a = true) : 2 ≤ m ∧ m ≤ 100000 ∧ 0 ≤ f ∧ f < m ∧ 0 ≤ a ∧ a < m := by
  simp only [congB, Bool.and_eq_true] at h
  have h1 := inR_true h.1
  have h2 := inR_true h.2.1
  have h3 := inR_true h.2.2
  omega

set_option maxHeartbeats 400000 in
theorem l03Is_any (b o : Nat) (m f a : Int) (w : World) (h0 : w.cell? ⟨b, o, none⟩ = some (.int .i64 m)) (h1 : w.cell? ⟨b, o + 1, none⟩ = some (.int .i64 f)) (h2 : w.cell? ⟨b, o + 2, none⟩ = some (.int .i64 a)) :
    Calls Tryd.prog 48 #[.pointer (some ⟨b, o, none⟩)] w fun e w' => e = .returned (.bool (congB m f a)) ∧ ∃ n, w' = w.drewN n := by
  cases hm : inR m 2 100000
  · go_enter Tryd.func48, Tryd.ntmps48
    go_wp2
    go_quiet ((go_at_call 49; exact Calls.quiet_of_same (l00In_qb hm _)))
    go_wp2
    go_ret
    exact ⟨ret_bool (by simp [congB, hm]), _, rfl⟩
  · obtain ⟨b1, b2⟩ := inR_true hm
    cases hf : inR f 0 (m - 1)
    · go_enter Tryd.func48, Tryd.ntmps48
      go_wp2
      go_quiet ((go_at_call 49; (first | (with_reducible exact Calls.quiet_of_same (l00In_qb hm _)) | (with_reducible exact Calls.quiet_of_same (l00In_qb hf _)))))
      go_wp2
      go_ret
      exact ⟨ret_bool (by simp [congB, hm, hf]), _, rfl⟩
    · cases ha : inR a 0 (m - 1)
      all_goals
        go_enter Tryd.func48, Tryd.ntmps48
        go_wp2
        go_quiet ((go_at_call 49; (first | (with_reducible exact Calls.quiet_of_same (l00In_qb hm _)) | (with_reducible exact Calls.quiet_of_same (l00In_qb hf _)) | (with_reducible exact Calls.quiet_of_same (l00In_qb ha _)))))
        go_wp2
        go_ret
        exact ⟨ret_bool (by simp [congB, hm, hf, ha]), _, rfl⟩

/-- a step, on numbers that are not negative -/
def stepN (m f a x : Nat) : Nat := (f * x + a) % m
theorem stepN_lt {m f a : Nat} (hm : 0 < m) (x : Nat) : stepN m f a x < m := Nat.mod_lt _ hm
theorem stepN_int (m f a x : Nat) : ((f : Int) * (x : Int) + (a : Int)) % (m : Int) = ((stepN m f a x : Nat) : Int) := by
  unfold stepN; simp
theorem prod_le {f x m : Nat} (h1 : f < m) (h2 : x < m) (h3 : m ≤ 100000) : (f : Int) * (x : Int) ≤ 10000000000 ∧ 0 ≤ (f : Int) * (x : Int) := by
  have h : f * x ≤ 100000 * 100000 := Nat.mul_le_mul (by omega) (by omega)
  have e : ((f * x : Nat) : Int) = (f : Int) * (x : Int) := by simp
  rw [← e]; omega

theorem info64 : (Tryd.prog.info? 2).map (fun i => (i.zero, i.size, i.bytes)) = some (some (.int .i64 0), 1, 8) := by kernel_rfl

/-- what the cycle's functions hand back -/
def CycRet (T : Nat → Nat) (x : Nat) (w : World) (e : Ending) (w' : World) : Prop :=
  ∃ j n : Nat, CycM.IsCyc T x j n ∧ e = .returned (.tuple #[.int .i64 j, .int .i64 ((n : Int) - j)]) ∧ Below w.heap.size w w'

/-- the loop's relation: the list of first visits, the state, the count of steps -/
def CycRel (T : Nat → Nat) (x m : Nat) (t : TypeId) (w : World) (xv nv : Value) (wr : World) : Prop :=
  ∃ (n : Nat) (F : Nat → Nat), n ≤ m ∧ CycM.Seen T x m n F ∧ wr.rowIs w.heap.size t m (fun s => .int .i64 (F s : Nat)) ∧ Below w.heap.size w wr ∧ xv = .int .i64 (CycM.iter T x n : Nat) ∧ nv = .int .i64 ((n : Int) + 1)
theorem CycRel.start (T : Nat → Nat) (x m : Nat) (t : TypeId) (w : World) : CycRel T x m t w (.int .i64 (x : Int)) (.int .i64 1) (w.alloc (.cells (madeCells #[.int .i64 0] m) t)) :=
  ⟨0, fun _ => 0, Nat.zero_le _, CycM.Seen.start T x m, World.rowIs_made w _ m t, (Below.refl _ _).alloc (Nat.le_refl _) _, rfl, rfl⟩
theorem CycRel.next {T : Nat → Nat} {x m n : Nat} {t : TypeId} {w wr : World} {F : Nat → Nat} (hT : ∀ s, s < m → T s < m) (hx : x < m) (hS : CycM.Seen T x m n F)
    (hrow : wr.rowIs w.heap.size t m (fun s => .int .i64 (F s : Nat))) (hb : Below w.heap.size w wr) (h0 : F (CycM.iter T x n) = 0) (k : Nat) :
    CycRel T x m t w (.int .i64 (T (CycM.iter T x n) : Nat)) (.int .i64 ((n : Int) + 1 + 1)) ((wr.setCell ⟨w.heap.size, CycM.iter T x n, none⟩ (.int .i64 ((n : Int) + 1))).drewN k) := by
  refine ⟨n + 1, _, ?_, hS.step hT hx h0, ?_, ?_, rfl, by simp⟩
  · exact (hS.step hT hx h0).le hT hx
  · obtain ⟨c, hc1, hc2, hc3⟩ := hrow.set (CycM.iter T x n) (.int .i64 ((n : Int) + 1))
    refine ⟨c, hc1, hc2, fun i hi => ?_⟩
    rw [hc3 i hi]
    by_cases e : i = CycM.iter T x n
    · simp [e]
    · simp [e]
  · exact below_drewN (hb.setCell (Nat.le_refl _) _) k

theorem CycRel.next2 {T : Nat → Nat} {x m n : Nat} {t : TypeId} {w wr : World} {F : Nat → Nat} (hT : ∀ s, s < m → T s < m) (hx : x < m) (hS : CycM.Seen T x m n F)
    (hrow : wr.rowIs w.heap.size t m (fun s => .int .i64 (F s : Nat))) (hb : Below w.heap.size w wr) (h0 : F (CycM.iter T x n) = 0) (w1 : World)
    (hb1 : Below wr.heap.size (wr.setCell ⟨w.heap.size, CycM.iter T x n, none⟩ (.int .i64 ((n : Int) + 1))) w1) :
    CycRel T x m t w (.int .i64 (T (CycM.iter T x n) : Nat)) (.int .i64 ((n : Int) + 1 + 1)) w1 := by
  obtain ⟨k, G, g1, g2, g3, g4, g5, g6⟩ := CycRel.next (t := t) hT hx hS hrow hb h0 0
  have hlt : w.heap.size < wr.heap.size := hrow.lt
  exact ⟨k, G, g1, g2, g3.of_block (hb1.block _ hlt), g4.trans (hb1.mono (Nat.le_of_lt hlt)), g5, g6⟩
theorem CycRet.mk {T : Nat → Nat} {x n k : Nat} {w w' : World} {u v : Int} (h : CycM.IsCyc T x (k - 1) n) (hk : 1 ≤ k) (hv : v = (n : Int) + 1 - k) (hu : u = (k : Int) - 1) (hb : Below w.heap.size w w') :
    CycRet T x w (.returned (.tuple #[.int .i64 u, .int .i64 v])) w' :=
  ⟨k - 1, n, h, by rw [hv, hu, show ((k : Int) - 1) = ((k - 1 : Nat) : Int) by omega, show ((n : Int) + 1 - k) = (n : Int) - ((k - 1 : Nat) : Int) by omega], hb⟩
theorem setOther {w : World} {B s b o : Nat} {v : Value} (hb : b < B) (h : w.cell? ⟨b, o, none⟩ = some v) (u : Value) : (w.setCell ⟨B, s, none⟩ u).cell? ⟨b, o, none⟩ = some v := by
  rw [World.cell?_setCell_other _ _ _ _ (fun e => by have := congrArg Addr.block e; simp at this; omega)]
  exact h

end Go.Proofs.YtjajemdeioabkaaDoor.Cong

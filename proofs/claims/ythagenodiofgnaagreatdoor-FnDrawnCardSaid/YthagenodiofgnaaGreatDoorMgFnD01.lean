/- A block of cells of the call's own: what its cells hold, however they are written. -/
import Derived.Test.YthagenodiofgnaaGreatDoorMgFnD00
import Derived.Lib.Builder
import Derived.StillTailTactics
import Derived.Deep.OwnRows
namespace Go.Proofs.YthagenodiofgnaaGreatDoor.Blk
open Go.RowKit Go.Proofs.YthagenodiofgnaaGreatDoor Go.Proofs.YthagenodiofgnaaGreatDoor.Base Go.Proofs.YthagenodiofgnaaGreatDoor.Mem
set_option linter.unusedVariables false
def Blk (w : World) (b : Nat) (t : TypeId) (cs : Array Value) : Prop := w.heap[b]? = some (.cells cs t (0, 0))
section
variable {w w' : World} {b : Nat} {t : TypeId} {cs : Array Value}
theorem Blk.new (w : World) (t : TypeId) (cs : Array Value) : Blk (w.alloc (.cells cs t)) w.heap.size t cs := by
 unfold Blk
 show (w.heap.push _)[w.heap.size]? = _
 simp
theorem Blk.newAt {n : Nat} (t : TypeId) (cs : Array Value) (h : n = w.heap.size) : Blk (w.alloc (.cells cs t)) n t cs := h ▸ Blk.new w t cs
theorem Blk.lt (h : Blk w b t cs) : b < w.heap.size := by
 rcases Nat.lt_or_ge b w.heap.size with hlt | hge
 ·exact hlt
 ·unfold Blk at h; rw [Array.getElem?_eq_none hge] at h; cases h
theorem Blk.cell (h : Blk w b t cs) (i : Nat) : w.cell? ⟨b, i, none⟩ = cs[i]? := Lib.cell_of_heap h i
theorem Blk.at (h : Blk w b t cs) (i : Nat) {v : Value} (hv : cs[i]? = some v) : w.cell? ⟨b, i, none⟩ = some v := (h.cell i).trans hv
theorem Blk.frz (h : Blk w b t cs) (i : Nat) : w.frozen? ⟨b, i, none⟩ = false := Lib.frozen_of_heap h i
theorem Blk.below {B : Nat} (h : Blk w b t cs) (hb : Below B w w') (hB : b < B) : Blk w' b t cs := (hb.block b hB).trans h
theorem Blk.belowS (h : Blk w b t cs) (hb : Below w.heap.size w w') : Blk w' b t cs := h.below hb h.lt
theorem Blk.kept {row : Option Nat} (h : Blk w b t cs) (hg : w.grownBy w' row) (hne : row ≠ some b) : Blk w' b t cs := (hg.block b h.lt fun e => hne e.symm).trans h
theorem Blk.alloc (h : Blk w b t cs) (o : Obj) : Blk (w.alloc o) b t cs := h.belowS ((Below.refl _ _).alloc (Nat.le_refl _) _)
theorem Blk.drewN (h : Blk w b t cs) (n : Nat) : Blk (w.drewN n) b t cs := h
theorem Blk.drew (h : Blk w b t cs) : Blk w.drew b t cs := h
theorem Blk.set (h : Blk w b t cs) (i : Nat) (v : Value) : Blk (w.setCell ⟨b, i, none⟩ v) b t (cs.setIfInBounds i v) := by
 unfold Blk at *
 simp [World.setCell, Array.getElem?_modify, h]
theorem Blk.other (h : Blk w b t cs) {a : Addr} (v : Value) (hne : a.block ≠ b) : Blk (w.setCell a v) b t cs :=
 h.kept (Src.grown_setCell w a v) fun e => hne (Option.some.inj e)
theorem Blk.setTo {cs' : Array Value} (h : Blk w b t cs) (i : Nat) (v : Value) (hc : cs.setIfInBounds i v = cs') : Blk (w.setCell ⟨b, i, none⟩ v) b t cs' := hc ▸ h.set i v
def put3 (w : World) (b : Nat) (v0 v1 v2 : Value) : World := ((w.setCell ⟨b, 0, none⟩ v0).setCell ⟨b, 1, none⟩ v1).setCell ⟨b, 2, none⟩ v2
theorem Blk.set3 {u0 u1 u2 : Value} (h : Blk w b t #[u0, u1, u2]) (v0 v1 v2 : Value) : Blk (put3 w b v0 v1 v2) b t #[v0, v1, v2] :=
 ((h.setTo 0 v0 rfl).setTo 1 v1 rfl).setTo 2 v2 rfl
theorem Blk.oth3 {b' : Nat} (h : Blk w b t cs) (v0 v1 v2 : Value) (hne : b' ≠ b) : Blk (put3 w b' v0 v1 v2) b t cs := ((h.other v0 hne).other v1 hne).other v2 hne
theorem below_put3 {B b' : Nat} {w0 : World} (h : Below B w0 w) (hB : B ≤ b') (v0 v1 v2 : Value) : Below B w0 (put3 w b' v0 v1 v2) :=
 ((h.setCell (p := ⟨b', 0, none⟩) hB v0).setCell (p := ⟨b', 1, none⟩) hB v1).setCell (p := ⟨b', 2, none⟩) hB v2
end
structure Beside (p : Nat) (w w' : World) : Prop where
 os : w'.os = w.os
 tape : w'.tape = w.tape
 output : w'.output = w.output
 size : w.heap.size ≤ w'.heap.size
 same : ∀ q, q < w.heap.size → q ≠ p → w'.heap[q]? = w.heap[q]?
theorem Beside.refl (p : Nat) (w : World) : Beside p w w := ⟨rfl, rfl, rfl, Nat.le_refl _, fun _ _ _ => rfl⟩
theorem Beside.trans {p : Nat} {a b c : World} (h : Beside p a b) (k : Beside p b c) : Beside p a c :=
 ⟨k.os.trans h.os, k.tape.trans h.tape, k.output.trans h.output, Nat.le_trans h.size k.size, fun q h1 h2 => (k.same q (Nat.lt_of_lt_of_le h1 h.size) h2).trans (h.same q h1 h2)⟩
theorem Beside.grown {p : Nat} {w w' : World} (h : w.grownBy w' (some p)) : Beside p w w' := ⟨h.os, h.tape, h.output, h.size, fun q h1 h2 => h.block q h1 fun e => h2 (Option.some.inj e)⟩
theorem Beside.ofBelow {p : Nat} {w w' : World} (h : Below w.heap.size w w') : Beside p w w' := ⟨h.os, h.tape, h.output, h.size, fun q h1 _ => h.block q h1⟩
theorem Beside.below {p B : Nat} {w w' : World} (h : Beside p w w') (hp : B ≤ p) (hB : B ≤ w.heap.size) : Below B w w' := ⟨h.os, h.tape, h.output, h.size, fun q hq => h.same q (by omega) (by omega)⟩
theorem Beside.alloc {p : Nat} {w w' : World} (h : Beside p w w') (o : Obj) : Beside p w (w'.alloc o) := h.trans (Beside.ofBelow ((Below.refl _ _).alloc (Nat.le_refl _) o))
theorem Beside.drewN {p : Nat} {w w' : World} (h : Beside p w w') (n : Nat) : Beside p w (w'.drewN n) := h.trans (Beside.ofBelow (below_drewN (Below.refl _ _) n))
theorem Beside.drew {p : Nat} {w w' : World} (h : Beside p w w') : Beside p w w'.drew := h.drewN 1
theorem Beside.set {p : Nat} {w w' : World} (h : Beside p w w') {a : Addr} (ha : w.heap.size ≤ a.block) (v : Value) : Beside p w (w'.setCell a v) := by
 have g := Src.grown_setCell w' a v
 exact ⟨g.os.trans h.os, g.tape.trans h.tape, g.output.trans h.output, Nat.le_trans h.size g.size, fun q h1 h2 => (g.block q (Nat.lt_of_lt_of_le h1 h.size) fun e => by have := Option.some.inj e; omega).trans (h.same q h1 h2)⟩
theorem Blk.beside {p b : Nat} {t : TypeId} {cs : Array Value} {w w' : World} (h : Blk w b t cs) (hb : Beside p w w') (hne : b ≠ p) : Blk w' b t cs := (hb.same b h.lt hne).trans h
theorem Blk.src {p b : Nat} {t : TypeId} {cs : Array Value} {w w' : World} (h : Blk w b t cs) (hg : w.grownBy w' (some p)) (hne : b ≠ p) : Blk w' b t cs := h.kept hg fun e => hne (Option.some.inj e).symm
end Go.Proofs.YthagenodiofgnaaGreatDoor.Blk
set_option linter.unusedVariables false
namespace Go.Proofs.YthagenodiofgnaaGreatDoor.CycM
theorem pigeon : ∀ (M n : Nat) (g : Nat → Nat), (∀ i, i < n → g i < M) → (∀ a b, a < b → b < n → g a ≠ g b) → n ≤ M
 | 0, n, g, h, _ => by
  rcases Nat.eq_zero_or_pos n with h0 | h0
  ·omega
  ·have := h 0 h0; omega
 | M + 1, n, g, h, hd => by
  by_cases hex : ∃ i, i < n ∧ g i = M
  ·obtain ⟨i0, hi0, he⟩ := hex
   have ih := pigeon M (n - 1) (fun i => g (if i < i0 then i else i + 1)) (fun i hi => by
    show g (if i < i0 then i else i + 1) < M
    by_cases hlt : i < i0
    ·rw [if_pos hlt]
     have h1 := h i (by omega)
     have h2 := hd i i0 hlt hi0
     omega
    ·rw [if_neg hlt]
     have h1 := h (i + 1) (by omega)
     have h2 := hd i0 (i + 1) (by omega) (by omega)
     omega) (fun a b hab hb => by
    show g (if a < i0 then a else a + 1) ≠ g (if b < i0 then b else b + 1)
    by_cases ha : a < i0 <;> by_cases hb' : b < i0
    ·rw [if_pos ha, if_pos hb']; exact hd a b hab (by omega)
    ·rw [if_pos ha, if_neg hb']; exact hd a (b + 1) (by omega) (by omega)
    ·omega
    ·rw [if_neg ha, if_neg hb']; exact hd (a + 1) (b + 1) (by omega) (by omega))
   omega
  ·have ih := pigeon M n g (fun i hi => by
    have h1 := h i hi
    have h2 : g i ≠ M := fun e => hex ⟨i, hi, e⟩
    omega) hd
   omega
def iter (T : Nat → Nat) (x : Nat) : Nat → Nat
 | 0 => x
 | k + 1 => T (iter T x k)
theorem iter_succ (T : Nat → Nat) (x k : Nat) : iter T x (k + 1) = T (iter T x k) := rfl
theorem iter_lt {T : Nat → Nat} {M x : Nat} (hT : ∀ s, s < M → T s < M) (hx : x < M) (k : Nat) : iter T x k < M := by
 induction k with
 | zero => exact hx
 | succ k ih => exact hT _ ih
theorem iter_add (T : Nat → Nat) (x j k : Nat) : iter T x (j + k) = iter T (iter T x j) k := by
 induction k with
 | zero => rfl
 | succ k ih => rw [← Nat.add_assoc, iter_succ, iter_succ, ih]
theorem iter_congr {T U : Nat → Nat} {M x : Nat} (hT : ∀ s, s < M → T s < M) (hx : x < M) (h : ∀ s, s < M → T s = U s) (k : Nat) : iter T x k = iter U x k := by
 induction k with
 | zero => rfl
 | succ k ih => rw [iter_succ, iter_succ, ← ih, h _ (iter_lt hT hx k)]
def IsCyc (T : Nat → Nat) (x j n : Nat) : Prop :=
 j < n ∧ iter T x j = iter T x n ∧ ∀ a b, a < b → b < n → iter T x a ≠ iter T x b
theorem IsCyc.le {T : Nat → Nat} {M x j n : Nat} (hT : ∀ s, s < M → T s < M) (hx : x < M) (h : IsCyc T x j n) : n ≤ M :=
 pigeon M n (iter T x) (fun i _ => iter_lt hT hx i) h.2.2
theorem IsCyc.congr {T U : Nat → Nat} {M x j n : Nat} (hT : ∀ s, s < M → T s < M) (hx : x < M) (hTU : ∀ s, s < M → T s = U s) (h : IsCyc T x j n) : IsCyc U x j n := by
 obtain ⟨h1, h2, h3⟩ := h
 refine ⟨h1, ?_, fun a b hab hb => ?_⟩
 ·rw [← iter_congr hT hx hTU, ← iter_congr hT hx hTU]; exact h2
 ·rw [← iter_congr hT hx hTU, ← iter_congr hT hx hTU]; exact h3 a b hab hb
structure Seen (T : Nat → Nat) (x M n : Nat) (f : Nat → Nat) : Prop where
 zero : ∀ s, s < M → f s = 0 → ∀ i, i < n → iter T x i ≠ s
 pos : ∀ s, s < M → f s ≠ 0 → f s ≤ n ∧ iter T x (f s - 1) = s
 dist : ∀ a b, a < b → b < n → iter T x a ≠ iter T x b
theorem Seen.start (T : Nat → Nat) (x M : Nat) : Seen T x M 0 (fun _ => 0) :=
 ⟨fun _ _ _ i hi => absurd hi (Nat.not_lt_zero i), fun _ _ h => absurd rfl h, fun a b _ hb => absurd hb (Nat.not_lt_zero b)⟩
theorem Seen.step {T : Nat → Nat} {x M n : Nat} {f : Nat → Nat} (hT : ∀ s, s < M → T s < M) (hx : x < M) (h : Seen T x M n f) (h0 : f (iter T x n) = 0) :
  Seen T x M (n + 1) (fun s => if s = iter T x n then n + 1 else f s) := by
 have hn := h.zero _ (iter_lt hT hx n) h0
 refine ⟨fun s hs hf i hi => ?_, fun s hs hf => ?_, fun a b hab hb => ?_⟩
 ·by_cases e : s = iter T x n
  ·simp [e] at hf
  ·simp only [if_neg e] at hf
   rcases Nat.lt_or_ge i n with h1 | h1
   ·exact h.zero s hs hf i h1
   ·obtain rfl : i = n := by omega
    exact fun h2 => e h2.symm
 ·by_cases e : s = iter T x n
  ·simp only [if_pos e]
   exact ⟨Nat.le_refl _, by simpa using e.symm⟩
  ·simp only [if_neg e] at hf ⊢
   have := h.pos s hs hf
   exact ⟨by omega, this.2⟩
 ·rcases Nat.lt_or_ge b n with h1 | h1
  ·exact h.dist a b hab h1
  ·obtain rfl : b = n := by omega
   exact hn a hab
theorem Seen.le {T : Nat → Nat} {x M n : Nat} {f : Nat → Nat} (hT : ∀ s, s < M → T s < M) (hx : x < M) (h : Seen T x M n f) : n ≤ M :=
 pigeon M n (iter T x) (fun i _ => iter_lt hT hx i) h.dist
theorem Seen.done {T : Nat → Nat} {x M n : Nat} {f : Nat → Nat} (hT : ∀ s, s < M → T s < M) (hx : x < M) (h : Seen T x M n f) (h0 : f (iter T x n) ≠ 0) :
  IsCyc T x (f (iter T x n) - 1) n := by
 have := h.pos _ (iter_lt hT hx n) h0
 exact ⟨by omega, this.2, h.dist⟩
end Go.Proofs.YthagenodiofgnaaGreatDoor.CycM
namespace Go.Proofs.YthagenodiofgnaaGreatDoor.Cong
open Go.RowKit Go.Proofs.YthagenodiofgnaaGreatDoor Go.Proofs.YthagenodiofgnaaGreatDoor.Base
set_option linter.unusedVariables false
def congB (m f a : Int) : Bool := inR m 2 100000 && (inR f 0 (m - 1) && inR a 0 (m - 1))
theorem congB_true {m f a : Int} (h : congB m f a = true) : 2 ≤ m ∧ m ≤ 100000 ∧ 0 ≤ f ∧ f < m ∧ 0 ≤ a ∧ a < m := by
 simp only [congB, Bool.and_eq_true] at h
 have h1 := inR_true h.1
 have h2 := inR_true h.2.1
 have h3 := inR_true h.2.2
 omega
set_option maxHeartbeats 400000 in
theorem l03Is_any (b o : Nat) (m f a : Int) (w : World) (h0 : w.cell? ⟨b, o, none⟩ = some (.int .i64 m)) (h1 : w.cell? ⟨b, o + 1, none⟩ = some (.int .i64 f)) (h2 : w.cell? ⟨b, o + 2, none⟩ = some (.int .i64 a)) :
  Calls Tryz.prog 71 #[.pointer (some ⟨b, o, none⟩)] w fun e w' => e = .returned (.bool (congB m f a)) ∧ ∃ n, w' = w.drewN n := by
 cases hm : inR m 2 100000
 ·go_enter Tryz.func71, Tryz.ntmps71
  go_wp2
  go_quiet ((go_at_call 22; exact Calls.quiet_of_same (l00In_qb hm _)))
  go_wp2
  go_ret
  exact ⟨ret_bool (by simp [congB, hm]), _, rfl⟩
 ·obtain ⟨b1, b2⟩ := inR_true hm
  cases hf : inR f 0 (m - 1)
  ·go_enter Tryz.func71, Tryz.ntmps71
   go_wp2
   go_quiet ((go_at_call 22; (first | (with_reducible exact Calls.quiet_of_same (l00In_qb hm _)) | (with_reducible exact Calls.quiet_of_same (l00In_qb hf _)))))
   go_wp2
   go_ret
   exact ⟨ret_bool (by simp [congB, hm, hf]), _, rfl⟩
  ·cases ha : inR a 0 (m - 1)
   all_goals
    go_enter Tryz.func71, Tryz.ntmps71
    go_wp2
    go_quiet ((go_at_call 22; (first | (with_reducible exact Calls.quiet_of_same (l00In_qb hm _)) | (with_reducible exact Calls.quiet_of_same (l00In_qb hf _)) | (with_reducible exact Calls.quiet_of_same (l00In_qb ha _)))))
    go_wp2
    go_ret
    exact ⟨ret_bool (by simp [congB, hm, hf, ha]), _, rfl⟩
def stepN (m f a x : Nat) : Nat := (f * x + a) % m
theorem stepN_lt {m f a : Nat} (hm : 0 < m) (x : Nat) : stepN m f a x < m := Nat.mod_lt _ hm
theorem stepN_int (m f a x : Nat) : ((f : Int) * (x : Int) + (a : Int)) % (m : Int) = ((stepN m f a x : Nat) : Int) := by
 unfold stepN; simp
theorem prod_le {f x m : Nat} (h1 : f < m) (h2 : x < m) (h3 : m ≤ 100000) : (f : Int) * (x : Int) ≤ 10000000000 ∧ 0 ≤ (f : Int) * (x : Int) := by
 have h : f * x ≤ 100000 * 100000 := Nat.mul_le_mul (by omega) (by omega)
 have e : ((f * x : Nat) : Int) = (f : Int) * (x : Int) := by simp
 rw [← e]; omega
theorem l03Step_any (b o m f a x : Nat) (w : World) (h0 : w.cell? ⟨b, o, none⟩ = some (.int .i64 m)) (h1 : w.cell? ⟨b, o + 1, none⟩ = some (.int .i64 f)) (h2 : w.cell? ⟨b, o + 2, none⟩ = some (.int .i64 a))
  (hm : 2 ≤ m) (hm2 : m ≤ 100000) (hf : f < m) (ha : a < m) (hx : x < m) :
  Calls Tryz.prog 77 #[.pointer (some ⟨b, o, none⟩), .int .i64 x] w fun e w' => e = .returned (.int .i64 (stepN m f a x : Nat)) ∧ ∃ n, w' = w.drewN n := by
 obtain ⟨p1, p2⟩ := prod_le hf hx hm2
 have H := Lib.hid (stepN_int m f a x)
 have hm0 : ((m : Int) == 0) = false := by simp; omega
 go_enter Tryz.func77, Tryz.ntmps77
 go_wp2
 go_quiet (fail)
 go_wp2
 go_ret
 exact ⟨ret_int H.out, _, rfl⟩
theorem info64 : (Tryz.prog.info? 2).map (fun i => (i.zero, i.size, i.bytes)) = some (some (.int .i64 0), 1, 8) := by kernel_rfl
def CycRet (T : Nat → Nat) (x : Nat) (w : World) (e : Ending) (w' : World) : Prop :=
 ∃ j n : Nat, CycM.IsCyc T x j n ∧ e = .returned (.tuple #[.int .i64 j, .int .i64 ((n : Int) - j)]) ∧ Below w.heap.size w w'
def CycRel (T : Nat → Nat) (x m : Nat) (t : TypeId) (w : World) (xv nv : Value) (wr : World) : Prop :=
 ∃ (n : Nat) (F : Nat → Nat), n ≤ m ∧ CycM.Seen T x m n F ∧ wr.rowIs w.heap.size t m (fun s => .int .i64 (F s : Nat)) ∧ Below w.heap.size w wr ∧ xv = .int .i64 (CycM.iter T x n : Nat) ∧ nv = .int .i64 ((n : Int) + 1)
theorem CycRel.start (T : Nat → Nat) (x m : Nat) (t : TypeId) (w : World) : CycRel T x m t w (.int .i64 (x : Int)) (.int .i64 1) (w.alloc (.cells (madeCells #[.int .i64 0] m) t)) :=
 ⟨0, fun _ => 0, Nat.zero_le _, CycM.Seen.start T x m, World.rowIs_made w _ m t, (Below.refl _ _).alloc (Nat.le_refl _) _, rfl, rfl⟩
theorem CycRel.next {T : Nat → Nat} {x m n : Nat} {t : TypeId} {w wr : World} {F : Nat → Nat} (hT : ∀ s, s < m → T s < m) (hx : x < m) (hS : CycM.Seen T x m n F)
  (hrow : wr.rowIs w.heap.size t m (fun s => .int .i64 (F s : Nat))) (hb : Below w.heap.size w wr) (h0 : F (CycM.iter T x n) = 0) (k : Nat) :
  CycRel T x m t w (.int .i64 (T (CycM.iter T x n) : Nat)) (.int .i64 ((n : Int) + 1 + 1)) ((wr.setCell ⟨w.heap.size, CycM.iter T x n, none⟩ (.int .i64 ((n : Int) + 1))).drewN k) := by
 refine ⟨n + 1, _, ?_, hS.step hT hx h0, ?_, ?_, rfl, by simp⟩
 ·exact (hS.step hT hx h0).le hT hx
 ·obtain ⟨c, hc1, hc2, hc3⟩ := hrow.set (CycM.iter T x n) (.int .i64 ((n : Int) + 1))
  refine ⟨c, hc1, hc2, fun i hi => ?_⟩
  rw [hc3 i hi]
  by_cases e : i = CycM.iter T x n
  ·simp [e]
  ·simp [e]
 ·exact below_drewN (hb.setCell (Nat.le_refl _) _) k
theorem CycRel.next2 {T : Nat → Nat} {x m n : Nat} {t : TypeId} {w wr : World} {F : Nat → Nat} (hT : ∀ s, s < m → T s < m) (hx : x < m) (hS : CycM.Seen T x m n F)
  (hrow : wr.rowIs w.heap.size t m (fun s => .int .i64 (F s : Nat))) (hb : Below w.heap.size w wr) (h0 : F (CycM.iter T x n) = 0) (w1 : World)
  (hb1 : Below wr.heap.size (wr.setCell ⟨w.heap.size, CycM.iter T x n, none⟩ (.int .i64 ((n : Int) + 1))) w1) :
  CycRel T x m t w (.int .i64 (T (CycM.iter T x n) : Nat)) (.int .i64 ((n : Int) + 1 + 1)) w1 := by
 obtain ⟨k, G, g1, g2, g3, g4, g5, g6⟩ := CycRel.next (t := t) hT hx hS hrow hb h0 0
 have hlt : w.heap.size < wr.heap.size := hrow.lt
 exact ⟨k, G, g1, g2, g3.of_block (hb1.block _ hlt), g4.trans (hb1.mono (Nat.le_of_lt hlt)), g5, g6⟩
theorem CycRet.mk {T : Nat → Nat} {x n k : Nat} {w w' : World} {u v : Int} (h : CycM.IsCyc T x (k - 1) n) (hk : 1 ≤ k) (hv : v = (n : Int) + 1 - k) (hu : u = (k : Int) - 1) (hb : Below w.heap.size w w') :
  CycRet T x w (.returned (.tuple #[.int .i64 u, .int .i64 v])) w' :=
 ⟨k - 1, n, h, by rw [hv, hu, show ((k : Int) - 1) = ((k - 1 : Nat) : Int) by omega, show ((n : Int) + 1 - k) = (n : Int) - ((k - 1 : Nat) : Int) by omega], hb⟩
theorem setOther {w : World} {B s b o : Nat} {v : Value} (hb : b < B) (h : w.cell? ⟨b, o, none⟩ = some v) (u : Value) : (w.setCell ⟨B, s, none⟩ u).cell? ⟨b, o, none⟩ = some v := by
 rw [World.cell?_setCell_other _ _ _ _ (fun e => by have := congrArg Addr.block e; simp at this; omega)]
 exact h
end Go.Proofs.YthagenodiofgnaaGreatDoor.Cong
namespace Go.Proofs.YthagenodiofgnaaGreatDoor.Cong
open Go.RowKit Go.Proofs.YthagenodiofgnaaGreatDoor Go.Proofs.YthagenodiofgnaaGreatDoor.Base
set_option linter.unusedVariables false
theorem validCong_any (m f a : Int) (w : World) :
  Calls Tryz.prog 68 #[.agg #[.int .i64 m, .int .i64 f, .int .i64 a]] w fun e w' => e = .returned (.bool (congB m f a)) ∧ Below w.heap.size w w' := by
 cases hm : inR m 2 100000
 ·go_enter Tryz.func68, Tryz.ntmps68
  go_wp2_with (go_at_call 19; refine (inRange_any _ _ _ _).mono ?_; rintro e w' ⟨rfl, rfl⟩)
  go_ret
  exact ⟨ret_bool (by simp [congB, hm]), (Below.refl _ _).alloc (Nat.le_refl _) _⟩
 ·obtain ⟨b1, b2⟩ := inR_true hm
  cases hf : inR f 0 (m - 1)
  ·go_enter Tryz.func68, Tryz.ntmps68
   go_wp2_with (go_at_call 19; refine (inRange_any _ _ _ _).mono ?_; rintro e w' ⟨rfl, rfl⟩)
   go_ret
   exact ⟨ret_bool (by simp [congB, hm, hf]), (Below.refl _ _).alloc (Nat.le_refl _) _⟩
  ·go_enter Tryz.func68, Tryz.ntmps68
   go_wp2_with (go_at_call 19; refine (inRange_any _ _ _ _).mono ?_; rintro e w' ⟨rfl, rfl⟩)
   go_ret
   exact ⟨ret_bool (by simp [congB, hm, hf]), (Below.refl _ _).alloc (Nat.le_refl _) _⟩
theorem congStep_any (m f a x : Nat) (w : World) (hm : 2 ≤ m) (hm2 : m ≤ 100000) (hf : f < m) (ha : a < m) (hx : x < m) :
  Calls Tryz.prog 52 #[.agg #[.int .i64 m, .int .i64 f, .int .i64 a], .int .i64 x] w fun e w' => e = .returned (.int .i64 (stepN m f a x : Nat)) ∧ Below w.heap.size w w' := by
 obtain ⟨p1, p2⟩ := prod_le hf hx hm2
 have H := Lib.hid (stepN_int m f a x)
 have hm0 : ((m : Int) == 0) = false := by simp; omega
 go_enter Tryz.func52, Tryz.ntmps52
 go_wp2
 go_ret
 exact ⟨ret_int H.out, (Below.refl _ _).alloc (Nat.le_refl _) _⟩
end Go.Proofs.YthagenodiofgnaaGreatDoor.Cong
namespace Go.Proofs.YthagenodiofgnaaGreatDoor.Cong
open Go.RowKit Go.Proofs.YthagenodiofgnaaGreatDoor Go.Proofs.YthagenodiofgnaaGreatDoor.Base
set_option linter.unusedVariables false
def bothB (m f a x : Int) : Bool := congB m f a && inR x 0 (m - 1)
theorem bothB_true {m f a x : Int} (h : bothB m f a x = true) : 2 ≤ m ∧ m ≤ 100000 ∧ 0 ≤ f ∧ f < m ∧ 0 ≤ a ∧ a < m ∧ 0 ≤ x ∧ x < m := by
 simp only [bothB, Bool.and_eq_true] at h
 have h1 := congB_true h.1
 have h2 := inR_true h.2
 omega
theorem l03Both_any (b o : Nat) (m f a x : Int) (w : World) (h0 : w.cell? ⟨b, o, none⟩ = some (.int .i64 m)) (h1 : w.cell? ⟨b, o + 1, none⟩ = some (.int .i64 f)) (h2 : w.cell? ⟨b, o + 2, none⟩ = some (.int .i64 a)) :
  Calls Tryz.prog 47 #[.pointer (some ⟨b, o, none⟩), .int .i64 x] w fun e w' => e = .returned (.bool (bothB m f a x)) ∧ ∃ n, w' = w.drewN n := by
 cases hB : congB m f a
 ·go_enter Tryz.func47, Tryz.ntmps47
  go_wp2_with (go_at_call 71; refine (l03Is_any _ _ m f a _ h0 h1 h2).mono ?_; rintro e w1 ⟨rfl, k, rfl⟩)
  go_ret
  exact ⟨ret_bool (by simp [bothB, hB]), _, rfl⟩
 ·obtain ⟨g1, g2, _⟩ := congB_true hB
  go_enter Tryz.func47, Tryz.ntmps47
  go_wp2_with (first | (go_at_call 71; refine (l03Is_any _ _ m f a _ h0 h1 h2).mono ?_; rintro e w1 ⟨rfl, k, rfl⟩) | (go_at_call 22; refine (l00In_any _ _ _ _).mono ?_; rintro e w' ⟨rfl, rfl⟩))
  go_ret
  exact ⟨ret_bool (by simp [bothB, hB]), _, rfl⟩
theorem isState_any (m f a x : Int) (w : World) :
  Calls Tryz.prog 45 #[.agg #[.int .i64 m, .int .i64 f, .int .i64 a], .int .i64 x] w fun e w' => e = .returned (.bool (bothB m f a x)) ∧ Below w.heap.size w w' := by
 cases hB : congB m f a
 ·go_enter Tryz.func45, Tryz.ntmps45
  go_wp2_with (go_at_call 68; refine (validCong_any m f a _).mono ?_; rintro e w1 ⟨rfl, hb1⟩)
  go_ret
  exact ⟨ret_bool (by simp [bothB, hB]), Base.Below.boxed hb1⟩
 ·obtain ⟨g1, g2, _⟩ := congB_true hB
  go_enter Tryz.func45, Tryz.ntmps45
  go_wp2_with (first | (go_at_call 68; refine (validCong_any m f a _).mono ?_; rintro e w1 ⟨rfl, hb1⟩; have d0 : w1.cell? ⟨w.heap.size, 0, none⟩ = some (.int .i64 m) := box_cells hb1 0) | (go_at_call 19; refine (inRange_any _ _ _ _).mono ?_; rintro e w' ⟨rfl, rfl⟩))
  go_ret
  exact ⟨ret_bool (by simp [bothB, hB]), Base.Below.boxed hb1⟩
end Go.Proofs.YthagenodiofgnaaGreatDoor.Cong

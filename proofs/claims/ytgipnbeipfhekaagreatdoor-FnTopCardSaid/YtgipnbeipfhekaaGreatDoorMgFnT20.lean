/- A line of a script is carried out. -/
import Derived.Test.YtgipnbeipfhekaaGreatDoorMgFnT19
namespace Go.Proofs.YtgipnbeipfhekaaGreatDoor.LcG
open Go.RowKit Go.Proofs.YtgipnbeipfhekaaGreatDoor Go.Proofs.YtgipnbeipfhekaaGreatDoor.Base Go.Proofs.YtgipnbeipfhekaaGreatDoor.Mem Go.Proofs.YtgipnbeipfhekaaGreatDoor.MemS Go.Proofs.YtgipnbeipfhekaaGreatDoor.LabM Go.Proofs.YtgipnbeipfhekaaGreatDoor.LabV Go.Proofs.YtgipnbeipfhekaaGreatDoor.StM Go.Proofs.YtgipnbeipfhekaaGreatDoor.StTx Go.Proofs.YtgipnbeipfhekaaGreatDoor.Dec Go.Proofs.YtgipnbeipfhekaaGreatDoor.Val Go.Proofs.YtgipnbeipfhekaaGreatDoor.Rd Go.Proofs.YtgipnbeipfhekaaGreatDoor.CutP Go.Proofs.YtgipnbeipfhekaaGreatDoor.RecJ Go.Proofs.YtgipnbeipfhekaaGreatDoor.CarM Go.Proofs.YtgipnbeipfhekaaGreatDoor.LcA
set_option linter.unusedVariables false
theorem rdT_put {w : World} {B : Nat} {A : Option Addr} {ss : List ByteArray} (h : RdT w B A ss) {p : Addr} {a : Option Addr} {n c : Nat} (hp : w.cell? p = some (.slice a n c)) (x : Value) : RdT (w.setCell p x) B A ss := fun h0 => by
 obtain ⟨b, off, e, hb, hc⟩ := h h0
 refine ⟨b, off, e, hb, fun i hi => ?_⟩
 rw [World.cell?_setCell_other w p _ x (fun e2 => by have := hc i hi; rw [← e2, hp] at this; cases this)]
 exact hc i hi
theorem rdS_put {w : World} {B n' : Nat} {A : Option Addr} {fs : List Int} (h : RdS w B A n' fs) {p : Addr} {a : Option Addr} {n c : Nat} (hp : w.cell? p = some (.slice a n c)) (x : Value) : RdS (w.setCell p x) B A n' fs := fun h0 => by
 obtain ⟨b, off, e, hb, hc⟩ := h h0
 refine ⟨b, off, e, hb, fun i hi => ?_⟩
 rw [World.cell?_setCell_other w p _ x (fun e2 => by have := hc i hi; rw [← e2, hp] at this; cases this)]
 exact hc i hi
theorem labPut {w : World} {v : Value} {L : Lb} (h : LabAt w v L) {p : Addr} {a : Option Addr} {n c : Nat} (hp : w.cell? p = some (.slice a n c)) (x : Value) : LabAt (w.setCell p x) v L := by
 obtain ⟨A, k, A', k', e, h1, h2, h3, h4⟩ := h
 refine ⟨A, k, A', k', e, ?_, ?_, h3.put p x, h4.put p x⟩
 ·have := rdT_put h1 hp x
  simpa using this
 ·have := rdS_put h2 hp x
  simpa using this
theorem labPut2 {w : World} {v : Value} {L : Lb} {b : Nat} {t : TypeId} {a1 a2 : Option Addr} {n1 n2 c1 c2 : Nat} (h : LabAt w v L) (hK : Blk.Blk w b t #[.slice a1 n1 c1, .slice a2 n2 c2]) (x y : Value) : LabAt ((w.setCell ⟨b, 0, none⟩ x).setCell ⟨b, 1, none⟩ y) v L :=
 labPut (labPut h (hK.at 0 (v := .slice a1 n1 c1) rfl) x) ((hK.setTo 0 x rfl).at 1 (v := .slice a2 n2 c2) rfl) y
set_option maxRecDepth 100000 in
theorem words_set (w : World) : Calls Tryz.prog 86 #[.string ⟨#[115, 101, 116]⟩] w fun e w' => e = .returned (.int .i64 3) ∧ w = w' := by
 go_enter Tryz.func86, Tryz.ntmps86
 go_wp2
 go_ret
 exact ⟨rfl, rfl⟩
set_option maxRecDepth 100000 in
theorem words_bits (w : World) : Calls Tryz.prog 86 #[.string ⟨#[98, 105, 116, 115]⟩] w fun e w' => e = .returned (.int .i64 3) ∧ w = w' := by
 go_enter Tryz.func86, Tryz.ntmps86
 go_wp2
 go_ret
 exact ⟨rfl, rfl⟩
set_option maxRecDepth 100000 in
theorem words_roll (w : World) : Calls Tryz.prog 86 #[.string ⟨#[114, 111, 108, 108]⟩] w fun e w' => e = .returned (.int .i64 3) ∧ w = w' := by
 go_enter Tryz.func86, Tryz.ntmps86
 go_wp2
 go_ret
 exact ⟨rfl, rfl⟩
set_option maxRecDepth 100000 in
theorem words_levels (w : World) : Calls Tryz.prog 86 #[.string ⟨#[108, 101, 118, 101, 108, 115]⟩] w fun e w' => e = .returned (.int .i64 3) ∧ w = w' := by
 go_enter Tryz.func86, Tryz.ntmps86
 go_wp2
 go_ret
 exact ⟨rfl, rfl⟩
set_option maxRecDepth 100000 in
theorem words_cycle (w : World) : Calls Tryz.prog 86 #[.string ⟨#[99, 121, 99, 108, 101]⟩] w fun e w' => e = .returned (.int .i64 2) ∧ w = w' := by
 go_enter Tryz.func86, Tryz.ntmps86
 go_wp2
 go_ret
 exact ⟨rfl, rfl⟩
end Go.Proofs.YtgipnbeipfhekaaGreatDoor.LcG

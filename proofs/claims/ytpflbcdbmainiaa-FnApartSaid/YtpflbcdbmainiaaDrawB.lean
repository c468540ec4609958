/- A congruence and a state, drawn by bytes. -/
import Derived.Test.YtpflbcdbmainiaaDraw
namespace Go.Proofs.Ytpflbcdbmainiaa.Draw
open Go.RowKit Go.Proofs.Ytpflbcdbmainiaa Go.Proofs.Ytpflbcdbmainiaa.Base Go.Proofs.Ytpflbcdbmainiaa.Mem Go.Proofs.Ytpflbcdbmainiaa.Src Go.Proofs.Ytpflbcdbmainiaa.Blk Go.Proofs.Ytpflbcdbmainiaa.Pow
set_option linter.unusedVariables false
/-- a choice leaves a block beside the source as it was -/
theorem src_keeps {p b : Nat} {w w6 : World} {t : TypeId} {cs : Array Value} (h : Blk w b t cs) (g : w.grownBy w6 (some p)) (hne : b ≠ p) : Blk w6 b t cs := h.src g hne
theorem keepsA {p H b : Nat} {w0 w w6 : World} {m f a : Nat} {u0 u1 u2 : Value} (hH : w0.heap.size = H) (hb : Below H w0 w) (hr : Blk w H 25 #[u0, u1, u2]) (hn : Blk w b 25 #[.int .i64 ((m : Nat) : Int), .int .i64 ((f : Nat) : Int), .int .i64 ((a : Nat) : Int)]) (g : w.grownBy w6 (some p)) (h1 : H < p) (h2 : b ≠ p) :
    w6.cell? ⟨b, 0, none⟩ = some (.int .i64 (m : Int)) ∧ w6.cell? ⟨b, 1, none⟩ = some (.int .i64 (f : Int)) ∧ w6.cell? ⟨b, 2, none⟩ = some (.int .i64 (a : Int)) ∧
    w6.cell? ⟨H, 0, none⟩ = some u0 ∧ w6.cell? ⟨H, 1, none⟩ = some u1 ∧ w6.cell? ⟨H, 2, none⟩ = some u2 ∧ w6.frozen? ⟨H, 0, none⟩ = false ∧ w6.frozen? ⟨H, 1, none⟩ = false ∧ w6.frozen? ⟨H, 2, none⟩ = false ∧ Hid (Below H w0 w6) ∧ Hid (Blk w6 H 25 #[u0, u1, u2]) := by
  have n := hn.src g h2
  have r := hr.src g (by omega)
  exact ⟨n.at 0 rfl, n.at 1 rfl, n.at 2 rfl, r.at 0 rfl, r.at 1 rfl, r.at 2 rfl, r.frz 0, r.frz 1, r.frz 2, Lib.hid (hb.trans (grown_below g (fun q e => by cases e; omega) (by have := hb.size; omega))), Lib.hid r⟩
theorem off3 {w : World} {b q i : Nat} {v x y z : Value} (h : w.cell? ⟨b, i, none⟩ = some v) (hne : q ≠ b) : (((w.setCell ⟨q, 0, none⟩ x).setCell ⟨q, 1, none⟩ y).setCell ⟨q, 2, none⟩ z).cell? ⟨b, i, none⟩ = some v := by
  have hn : ∀ j, (⟨q, j, none⟩ : Addr) ≠ ⟨b, i, none⟩ := fun j e => hne (congrArg Addr.block e)
  rw [World.cell?_setCell_other _ _ _ _ (hn 2), World.cell?_setCell_other _ _ _ _ (hn 1), World.cell?_setCell_other _ _ _ _ (hn 0)]
  exact h
def B10C (w : World) (e : Ending) (w' : World) : Prop := ∃ m f a x : Nat, 2 ≤ m ∧ m ≤ 5000 ∧ f < m ∧ a < m ∧ x < m ∧ e = .returned (.tuple #[.agg #[.int .i64 ((m : Nat) : Int), .int .i64 ((f : Nat) : Int), .int .i64 ((a : Nat) : Int)], .int .i64 (x : Int)]) ∧ Below w.heap.size w w'
set_option maxHeartbeats 1000000 in
set_option maxRecDepth 100000 in
theorem b10Cong_any (A : Option Addr) (c B : Nat) (zs : List Int) (w : World) (hx : RdB w B A zs) (hB : B ≤ w.heap.size) (hl : zs.length ≤ 9223372036854775807) (hz : ∀ z ∈ zs, 0 ≤ z ∧ z ≤ 255) :
    Calls Try.prog 15 #[.slice A zs.length c] w (B10C w) := by
  obtain ⟨W0, hW0⟩ : ∃ W0, W0 = w.alloc (.cells #[.int .i64 0, .int .i64 0, .int .i64 0] 25) := ⟨_, rfl⟩
  have e0 : W0.heap.size = w.heap.size + 1 := by rw [hW0]; simp
  have B0 : Below w.heap.size w W0 := by rw [hW0]; exact (Below.refl _ _).alloc (Nat.le_refl _) _
  have R0 : Blk W0 w.heap.size 25 #[.int .i64 0, .int .i64 0, .int .i64 0] := by rw [hW0]; exact Blk.new _ _ _
  have HF := Lib.hid (from_any A c w.heap.size zs W0 ((hx.below B0 hB).more hB) (by omega) hl hz)
  rw [e0] at HF
  have HW := Lib.hid hW0
  have HB0 := Lib.hid B0
  have HR0 := Lib.hid R0
  have E0 := Lib.hid e0
  clear hW0 B0 R0 hx hz e0
  go_enter Try.func15, Try.ntmps15
  go_wp2_with fail
  rw [← HW.out]
  refine HF.out.mono ?_
  rintro e w1 ⟨rfl, s1, b1⟩
  have B1 := Lib.hid (HB0.out.trans (b1.mono (by have := E0.out; omega)))
  have R1 := Lib.hid (HR0.out.below b1 (by omega))
  have HD := Lib.hid (l03DrawOk_any (w.heap.size + 1) 0 w1 s1 (by decide))
  have hz1 := s1.lt
  clear s1 b1
  go_wp2_with fail
  refine HD.out.mono ?_
  rintro e w2 ⟨m, f, a, h1, h2, h3, h4, rfl, s2, bs2⟩
  have B2 := B1.out.trans (bs2.below (Nat.le_succ _) (by have := B1.out.size; omega))
  have R2 := R1.out.beside bs2 (by omega)
  have hz2 := s2.lt
  obtain ⟨W2, hW2⟩ : ∃ W2, W2 = w2.alloc (.cells #[.int .i64 ((m : Nat) : Int), .int .i64 ((f : Nat) : Int), .int .i64 ((a : Nat) : Int)] 25) := ⟨_, rfl⟩
  have B3 : Below w.heap.size w W2 := by rw [hW2]; exact B2.alloc (by omega) _
  have R3 : Blk W2 w.heap.size 25 #[.int .i64 0, .int .i64 0, .int .i64 0] := by rw [hW2]; exact R2.alloc _
  have N3 : Blk W2 w2.heap.size 25 #[.int .i64 ((m : Nat) : Int), .int .i64 ((f : Nat) : Int), .int .i64 ((a : Nat) : Int)] := by rw [hW2]; exact Blk.new _ _ _
  have S3 : Src W2 (w.heap.size + 1) 12 := by rw [hW2]; exact s2.below ((Below.refl _ _).alloc (Nat.le_refl _) _)
  have HW2 := Lib.hid hW2
  have HB3 := Lib.hid B3
  have HR3 := Lib.hid R3
  have HN3 := Lib.hid N3
  have HS3 := Lib.hid S3
  have c0 := N3.at 0 (v := .int .i64 (m : Int)) rfl
  have c1 := N3.at 1 (v := .int .i64 (f : Int)) rfl
  have c2 := N3.at 2 (v := .int .i64 (a : Int)) rfl
  have r0 := R3.at 0 (v := .int .i64 0) rfl
  have r1 := R3.at 1 (v := .int .i64 0) rfl
  have r2 := R3.at 2 (v := .int .i64 0) rfl
  have f0 := R3.frz 0
  have f1 := R3.frz 1
  have f2 := R3.frz 2
  have HSd := Lib.hid (show Src W2.drew (w.heap.size + 1) 12 from S3.below (Below.refl _ _).drew)
  have FA := Lib.hid (fun w6 g => keepsA (w6 := w6) (p := w.heap.size + 1) rfl B3.drew R3.drew N3.drew g (by omega) (by omega))
  have hss := Src.put3 (x := (m : Int)) (y := (f : Int)) (z := (a : Int)) HSd.out R3.drew (by omega)
  have FB := Lib.hid (fun w6 g => keepsA (w6 := w6) (p := w.heap.size + 1) rfl (below_put3 (b' := w.heap.size) B3.drew (Nat.le_refl _) (.int .i64 (m : Int)) (.int .i64 (f : Int)) (.int .i64 (a : Int))) (R3.drew.set3 (.int .i64 (m : Int)) (.int .i64 (f : Int)) (.int .i64 (a : Int))) (N3.drew.oth3 _ _ _ (by omega)) g (by omega) (by omega))
  unfold put3 at hss FB
  have HSs := Lib.hid hss
  clear hW2 B3 R3 N3 S3 bs2 B2 R2 s2 hss
  have hne8 : w.heap.size ≠ w2.heap.size := by omega
  go_wp2_with fail
  rw [← HW2.out]
  go_region_held3 (fun w' => w'.cell? ⟨w2.heap.size, 0, none⟩ = some (.int .i64 (m : Int)) ∧ w'.cell? ⟨w2.heap.size, 1, none⟩ = some (.int .i64 (f : Int)) ∧ w'.cell? ⟨w2.heap.size, 2, none⟩ = some (.int .i64 (a : Int)))
    (first
      | go_keep
      | exact ⟨k0, k1, k2⟩
      | exact ⟨off3 k0 hne8, off3 k1 hne8, off3 k2 hne8⟩)
    (first
      | (go_at_call 66; refine (pick_any (w.heap.size + 1) 12 (m : Int) _ HSd.out (by decide)).mono ?_; rintro e w6 ⟨x, rfl, hx, s6, g6⟩; obtain ⟨k0, k1, k2, q0, q1, q2, e0, e1, e2, b6, bk⟩ := FA.out w6 g6; clear s6 g6)
      | (go_at_call 66; refine (pick_any (w.heap.size + 1) 12 (m : Int) _ HSs.out (by decide)).mono ?_; rintro e w6 ⟨x, rfl, hx, s6, g6⟩; obtain ⟨k0, k1, k2, q0, q1, q2, e0, e1, e2, b6, bk⟩ := FB.out w6 g6; clear s6 g6))
  all_goals
    have hxm : x < m := by omega
    go_wp2
    first
      | exact bodyPost_ret (v := .tuple #[.agg #[.int .i64 ((m : Nat) : Int), .int .i64 ((f : Nat) : Int), .int .i64 ((a : Nat) : Int)], .int .i64 (x : Int)]) (by simp [results, Try.results15, go_sem, q0, q1, q2]) rfl ⟨m, f, a, x, h1, h2, h3, h4, hxm, rfl, b6.out⟩
      | (have S := bk.out.set3 (.int .i64 (m : Int)) (.int .i64 (f : Int)) (.int .i64 (a : Int))
         have q0 := S.at 0 rfl
         have q1 := S.at 1 rfl
         have q2 := S.at 2 rfl
         simp only [put3] at q0 q1 q2
         exact bodyPost_ret (v := .tuple #[.agg #[.int .i64 ((m : Nat) : Int), .int .i64 ((f : Nat) : Int), .int .i64 ((a : Nat) : Int)], .int .i64 (x : Int)]) (by simp [results, Try.results15, go_sem, q0, q1, q2]) rfl ⟨m, f, a, x, h1, h2, h3, h4, hxm, rfl, below_put3 b6.out (Nat.le_refl _) _ _ _⟩)
end Go.Proofs.Ytpflbcdbmainiaa.Draw

/- TakeBits, of the program and of the reference; the law. -/
import Derived.Test.YthagenodiofgnaaGreatDoorMgFnD11
namespace Go.Proofs.YthagenodiofgnaaGreatDoor.Take
open Go.RowKit Go.Proofs.YthagenodiofgnaaGreatDoor Go.Proofs.YthagenodiofgnaaGreatDoor.Base Go.Proofs.YthagenodiofgnaaGreatDoor.Mem Go.Proofs.YthagenodiofgnaaGreatDoor.Reg Go.Proofs.YthagenodiofgnaaGreatDoor.Str
set_option linter.unusedVariables false
theorem implTake_yes {K W T m f a s c : Int} (hB : streamB K W T m f a s = true) (hc : inR c 0 400 = true) (w : World) : Calls Tryz.prog 24 #[.agg #[.int .i64 K, .int .i64 W, .int .i64 T, .int .i64 m, .int .i64 f, .int .i64 a, .int .i64 s], .int .i64 c] w (TakeR K W T m f a s c w) := by
 obtain ⟨X, N, rfl, rfl, hN, ⟨rfl, V, A, rfl, rfl, hV, hA, hX⟩ | ⟨rfl, M, F, A, rfl, rfl, rfl, h1, h2, h3, h4, h5⟩⟩ := nats hB hc
 ·exact implTake_reg V A X N m f a w hV hA hX hN
 ·exact implTake_con M F A X N W T w h1 h2 h3 h4 h5 hN
def okB (K W T m f a s c : Int) : Bool := streamB K W T m f a s && inR c 0 400
def TBRet (K W T m f a s c : Int) (w : World) (e : Ending) (w' : World) : Prop :=
 (okB K W T m f a s c = true → e = .returned (.tuple #[.string ⟨(takeL K W T m f a s c).toArray⟩, .agg #[.int .i64 K, .int .i64 W, .int .i64 T, .int .i64 m, .int .i64 f, .int .i64 a, .int .i64 (takeX K W T m f a s c)], .bool true])) ∧
 (okB K W T m f a s c = false → e = .returned (.tuple #[.string ⟨#[]⟩, .agg #[.int .i64 0, .int .i64 0, .int .i64 0, .int .i64 0, .int .i64 0, .int .i64 0, .int .i64 0], .bool false])) ∧ Below w.heap.size w w'
theorem TBRet.no {K W T m f a s c : Int} {w w' : World} {e : Ending} (h : okB K W T m f a s c = false) (he : e = .returned (.tuple #[.string ⟨#[]⟩, .agg #[.int .i64 0, .int .i64 0, .int .i64 0, .int .i64 0, .int .i64 0, .int .i64 0, .int .i64 0], .bool false])) (hb : Below w.heap.size w w') : TBRet K W T m f a s c w e w' :=
 ⟨fun h2 => (by rw [h] at h2; cases h2), fun _ => he, hb⟩
theorem TBRet.yes {K W T m f a s c : Int} {w w' : World} {e : Ending} (h : okB K W T m f a s c = true) (he : e = .returned (.tuple #[.string ⟨(takeL K W T m f a s c).toArray⟩, .agg #[.int .i64 K, .int .i64 W, .int .i64 T, .int .i64 m, .int .i64 f, .int .i64 a, .int .i64 (takeX K W T m f a s c)], .bool true])) (hb : Below w.heap.size w w') : TBRet K W T m f a s c w e w' :=
 ⟨fun _ => he, fun h2 => (by rw [h] at h2; cases h2), hb⟩
set_option maxHeartbeats 1000000 in
set_option maxRecDepth 100000 in
theorem implTB_any (K W T m f a s c : Int) (w : World) : Calls Tryz.prog 9 #[.agg #[.int .i64 K, .int .i64 W, .int .i64 T, .int .i64 m, .int .i64 f, .int .i64 a, .int .i64 s], .int .i64 c] w (TBRet K W T m f a s c w) := by
 cases hB : streamB K W T m f a s with
 | false =>
  have HB := Lib.hid hB
  have HN := Lib.hid (fun e w' => TBRet.no (w := w) (w' := w') (e := e) (show okB K W T m f a s c = false by simp [okB, hB]))
  clear hB
  obtain ⟨W1, hW1⟩ : ∃ W1, W1 = (w.alloc (.cells #[.int .i64 K, .int .i64 W, .int .i64 T, .int .i64 m, .int .i64 f, .int .i64 a, .int .i64 s] 29)).alloc (.cells #[.int .i64 0, .int .i64 0, .int .i64 0, .int .i64 0, .int .i64 0, .int .i64 0, .int .i64 0] 29) := ⟨_, rfl⟩
  have R1 : SBox W1 (w.heap.size + 1) 0 0 0 0 0 0 0 := by
   have := SBox.new (w.alloc (.cells #[.int .i64 K, .int .i64 W, .int .i64 T, .int .i64 m, .int .i64 f, .int .i64 a, .int .i64 s] 29)) 0 0 0 0 0 0 0
   rw [World.size_alloc] at this
   rw [hW1]; exact this
  have B1 : Below w.heap.size w W1 := by rw [hW1]; exact ((Below.refl _ _).alloc (Nat.le_refl _) _).alloc (by simp) _
  have HR := Lib.hid R1
  have HB1 := Lib.hid B1
  have HW1 := Lib.hid hW1
  clear R1 B1 hW1
  go_enter Tryz.func9, Tryz.ntmps9
  go_wp2_with (go_at_call 18; rw [← HW1.out]; refine (validStream_any K W T m f a s _).mono ?_; rintro e w1 ⟨rfl, hb1⟩; rw [HB.out]; have y0 := (HR.out.below hb1 HR.out.lt).c0; have y1 := (HR.out.below hb1 HR.out.lt).c1; have y2 := (HR.out.below hb1 HR.out.lt).c2; have y3 := (HR.out.below hb1 HR.out.lt).c3; have y4 := (HR.out.below hb1 HR.out.lt).c4; have y5 := (HR.out.below hb1 HR.out.lt).c5; have y6 := (HR.out.below hb1 HR.out.lt).c6; have e0 := (HR.out.below hb1 HR.out.lt).frz 0; have e1 := (HR.out.below hb1 HR.out.lt).frz 1; have e2 := (HR.out.below hb1 HR.out.lt).frz 2; have e3 := (HR.out.below hb1 HR.out.lt).frz 3; have e4 := (HR.out.below hb1 HR.out.lt).frz 4; have e5 := (HR.out.below hb1 HR.out.lt).frz 5; have e6 := (HR.out.below hb1 HR.out.lt).frz 6; have S8 := (HR.out.below hb1 HR.out.lt).set7 0 0 0 0 0 0 0; have p0 := S8.c0; have p1 := S8.c1; have p2 := S8.c2; have p3 := S8.c3; have p4 := S8.c4; have p5 := S8.c5; have p6 := S8.c6; simp only [set7] at p0 p1 p2 p3 p4 p5 p6; clear S8; have HB2 := Lib.hid (HB1.out.trans (hb1.mono HB1.out.size)))
  refine bodyPost_ret (v := .tuple #[.string ⟨#[]⟩, .agg #[.int .i64 0, .int .i64 0, .int .i64 0, .int .i64 0, .int .i64 0, .int .i64 0, .int .i64 0], .bool false]) (by simp [results, Tryz.results9, go_sem, p0, p1, p2, p3, p4, p5, p6]) rfl (HN.out _ _ rfl ?_)
  exact (((((((HB2.out.setCell (by simp) _).setCell (by simp) _).setCell (by simp) _).setCell (by simp) _).setCell (by simp) _).setCell (by simp) _).setCell (by simp) _)
 | true =>
  cases hc : inR c 0 400 with
  | false =>
   have HB := Lib.hid hB
   have HC := Lib.hid hc
   have HN := Lib.hid (fun e w' => TBRet.no (w := w) (w' := w') (e := e) (show okB K W T m f a s c = false by simp [okB, hB, hc]))
   clear hB hc
   obtain ⟨W1, hW1⟩ : ∃ W1, W1 = (w.alloc (.cells #[.int .i64 K, .int .i64 W, .int .i64 T, .int .i64 m, .int .i64 f, .int .i64 a, .int .i64 s] 29)).alloc (.cells #[.int .i64 0, .int .i64 0, .int .i64 0, .int .i64 0, .int .i64 0, .int .i64 0, .int .i64 0] 29) := ⟨_, rfl⟩
   have R1 : SBox W1 (w.heap.size + 1) 0 0 0 0 0 0 0 := by
    have := SBox.new (w.alloc (.cells #[.int .i64 K, .int .i64 W, .int .i64 T, .int .i64 m, .int .i64 f, .int .i64 a, .int .i64 s] 29)) 0 0 0 0 0 0 0
    rw [World.size_alloc] at this
    rw [hW1]; exact this
   have B1 : Below w.heap.size w W1 := by rw [hW1]; exact ((Below.refl _ _).alloc (Nat.le_refl _) _).alloc (by simp) _
   have HR := Lib.hid R1
   have HB1 := Lib.hid B1
   have HW1 := Lib.hid hW1
   clear R1 B1 hW1
   go_enter Tryz.func9, Tryz.ntmps9
   go_wp2_with (first | (go_at_call 18; rw [← HW1.out]; refine (validStream_any K W T m f a s _).mono ?_; rintro e w1 ⟨rfl, hb1⟩; rw [HB.out]; have y0 := (HR.out.below hb1 HR.out.lt).c0; have y1 := (HR.out.below hb1 HR.out.lt).c1; have y2 := (HR.out.below hb1 HR.out.lt).c2; have y3 := (HR.out.below hb1 HR.out.lt).c3; have y4 := (HR.out.below hb1 HR.out.lt).c4; have y5 := (HR.out.below hb1 HR.out.lt).c5; have y6 := (HR.out.below hb1 HR.out.lt).c6; have e0 := (HR.out.below hb1 HR.out.lt).frz 0; have e1 := (HR.out.below hb1 HR.out.lt).frz 1; have e2 := (HR.out.below hb1 HR.out.lt).frz 2; have e3 := (HR.out.below hb1 HR.out.lt).frz 3; have e4 := (HR.out.below hb1 HR.out.lt).frz 4; have e5 := (HR.out.below hb1 HR.out.lt).frz 5; have e6 := (HR.out.below hb1 HR.out.lt).frz 6; have S8 := (HR.out.below hb1 HR.out.lt).set7 0 0 0 0 0 0 0; have p0 := S8.c0; have p1 := S8.c1; have p2 := S8.c2; have p3 := S8.c3; have p4 := S8.c4; have p5 := S8.c5; have p6 := S8.c6; simp only [set7] at p0 p1 p2 p3 p4 p5 p6; clear S8; have HB2 := Lib.hid (HB1.out.trans (hb1.mono HB1.out.size))) | (go_at_call 19; refine (inRange_any _ _ _ _).mono ?_; rintro e w' ⟨rfl, rfl⟩; rw [HC.out]))
   refine bodyPost_ret (v := .tuple #[.string ⟨#[]⟩, .agg #[.int .i64 0, .int .i64 0, .int .i64 0, .int .i64 0, .int .i64 0, .int .i64 0, .int .i64 0], .bool false]) (by simp [results, Tryz.results9, go_sem, p0, p1, p2, p3, p4, p5, p6]) rfl (HN.out _ _ rfl ?_)
   exact (((((((HB2.out.setCell (by simp) _).setCell (by simp) _).setCell (by simp) _).setCell (by simp) _).setCell (by simp) _).setCell (by simp) _).setCell (by simp) _)
  | true =>
   have HB := Lib.hid hB
   have HC := Lib.hid hc
   have HY := Lib.hid (fun e w' => TBRet.yes (w := w) (w' := w') (e := e) (show okB K W T m f a s c = true by simp [okB, hB, hc]))
   have HT := Lib.hid (fun w => implTake_yes hB hc w)
   clear hB hc
   obtain ⟨l, hl⟩ : ∃ l, takeL K W T m f a s c = l := ⟨_, rfl⟩
   obtain ⟨x, hx⟩ : ∃ x, takeX K W T m f a s c = x := ⟨_, rfl⟩
   unfold TakeR at HT
   rw [hl, hx] at HY HT
   clear hl hx
   obtain ⟨W1, hW1⟩ : ∃ W1, W1 = (w.alloc (.cells #[.int .i64 K, .int .i64 W, .int .i64 T, .int .i64 m, .int .i64 f, .int .i64 a, .int .i64 s] 29)).alloc (.cells #[.int .i64 0, .int .i64 0, .int .i64 0, .int .i64 0, .int .i64 0, .int .i64 0, .int .i64 0] 29) := ⟨_, rfl⟩
   have R1 : SBox W1 (w.heap.size + 1) 0 0 0 0 0 0 0 := by
    have := SBox.new (w.alloc (.cells #[.int .i64 K, .int .i64 W, .int .i64 T, .int .i64 m, .int .i64 f, .int .i64 a, .int .i64 s] 29)) 0 0 0 0 0 0 0
    rw [World.size_alloc] at this
    rw [hW1]; exact this
   have B1 : Below w.heap.size w W1 := by rw [hW1]; exact ((Below.refl _ _).alloc (Nat.le_refl _) _).alloc (by simp) _
   have HR := Lib.hid R1
   have HB1 := Lib.hid B1
   have HW1 := Lib.hid hW1
   have S1 : SBox W1 w.heap.size K W T m f a s := by
    have := (SBox.new w K W T m f a s).below ((Below.refl (w.heap.size + 1) _).alloc (by simp) (.cells #[.int .i64 0, .int .i64 0, .int .i64 0, .int .i64 0, .int .i64 0, .int .i64 0, .int .i64 0] 29)) (Nat.lt_succ_self _)
    rw [hW1]; exact this
   have HS1 := Lib.hid S1
   clear R1 B1 hW1 S1
   go_enter Tryz.func9, Tryz.ntmps9
   go_wp2_with (first | (go_at_call 18; rw [← HW1.out]; refine (validStream_any K W T m f a s _).mono ?_; rintro e w1 ⟨rfl, hb1⟩; rw [HB.out]; have d0 := (HS1.out.below hb1 HS1.out.lt).c0; have d1 := (HS1.out.below hb1 HS1.out.lt).c1; have d2 := (HS1.out.below hb1 HS1.out.lt).c2; have d3 := (HS1.out.below hb1 HS1.out.lt).c3; have d4 := (HS1.out.below hb1 HS1.out.lt).c4; have d5 := (HS1.out.below hb1 HS1.out.lt).c5; have d6 := (HS1.out.below hb1 HS1.out.lt).c6; have HR2 := HR.out.below hb1 HR.out.lt; have HB2 := HB1.out.trans (hb1.mono HB1.out.size)) | (go_at_call 19; refine (inRange_any _ _ _ _).mono ?_; rintro e w' ⟨rfl, rfl⟩; rw [HC.out]) | (go_at_call 24; refine (HT.out _).mono ?_; rintro e w2 ⟨rfl, hb2⟩))
   have t1 := HR2.below hb2 HR2.lt
   have hz2 := hb2.size
   have hr2 := HR2.lt
   have B2 := Lib.hid (HB2.trans (hb2.mono HB2.size))
   clear hb2 HR2 HB2
   obtain ⟨w3, hw3⟩ : ∃ w3, w3 = w2.alloc (.cells #[.int .i64 K, .int .i64 W, .int .i64 T, .int .i64 m, .int .i64 f, .int .i64 a, .int .i64 x] 29) := ⟨_, rfl⟩
   have b3 : Below w2.heap.size w2 w3 := by rw [hw3]; exact (Below.refl _ _).alloc (Nat.le_refl _) _
   have u0 : SBox w3 w2.heap.size K W T m f a x := by rw [hw3]; exact SBox.new _ _ _ _ _ _ _ _
   have u1 := t1.below b3 t1.lt
   have HW3 := Lib.hid hw3
   have HB3 := Lib.hid (B2.out.trans (b3.mono B2.out.size))
   have hlt := t1.lt
   have x0 := u0.c0
   have x1 := u0.c1
   have x2 := u0.c2
   have x3 := u0.c3
   have x4 := u0.c4
   have x5 := u0.c5
   have x6 := u0.c6
   have g0 := u1.frz 0
   have g1 := u1.frz 1
   have g2 := u1.frz 2
   have g3 := u1.frz 3
   have g4 := u1.frz 4
   have g5 := u1.frz 5
   have g6 := u1.frz 6
   have h0 := u1.c0
   have h1 := u1.c1
   have h2 := u1.c2
   have h3 := u1.c3
   have h4 := u1.c4
   have h5 := u1.c5
   have h6 := u1.c6
   have S8 := u1.set7 K W T m f a x
   have p0 := S8.c0
   have p1 := S8.c1
   have p2 := S8.c2
   have p3 := S8.c3
   have p4 := S8.c4
   have p5 := S8.c5
   have p6 := S8.c6
   simp only [set7] at p0 p1 p2 p3 p4 p5 p6
   have B7 := Lib.hid (HB3.out.trans (grown_below (grown_set7 w3 (w.heap.size + 1) K W T m f a x) (fun g e => by cases e; exact Nat.le_succ _) HB3.out.size))
   have mixed : Tryz.prog.follows .mixedOrders = true := by kernel_rfl
   clear t1 hw3 u0 u1 S8 b3
   go_wp2_with fail
   rw [← HW3.out]
   go_region_o
   all_goals
    go_wp2
    refine bodyPost_ret (v := .tuple #[.string ⟨l.toArray⟩, .agg #[.int .i64 K, .int .i64 W, .int .i64 T, .int .i64 m, .int .i64 f, .int .i64 a, .int .i64 x], .bool true]) ?_ rfl (HY.out _ _ rfl ?_)
    ·simp [results, Tryz.results9, go_sem, p0, p1, p2, p3, p4, p5, p6]
    ·exact Below.drew B7.out
end Go.Proofs.YthagenodiofgnaaGreatDoor.Take
namespace Go.Proofs.YthagenodiofgnaaGreatDoor.Take
open Go.RowKit Go.Proofs.YthagenodiofgnaaGreatDoor Go.Proofs.YthagenodiofgnaaGreatDoor.Base Go.Proofs.YthagenodiofgnaaGreatDoor.Mem Go.Proofs.YthagenodiofgnaaGreatDoor.Reg Go.Proofs.YthagenodiofgnaaGreatDoor.Str
set_option linter.unusedVariables false
end Go.Proofs.YthagenodiofgnaaGreatDoor.Take

/- The commands of a lab: a stream and a number. -/
import Derived.Test.YtgipnbeipfhekaaGreatDoorMgFnT15
import Derived.Test.YtgipnbeipfhekaaGreatDoorMgFnT12
import Derived.Test.YtgipnbeipfhekaaGreatDoorMgFnT03
import Derived.Test.YtgipnbeipfhekaaGreatDoorMgFnT18
import Derived.Shelf.Lay
import Derived.Shelf.Strings.OnBuilder
namespace Go.Proofs.YtgipnbeipfhekaaGreatDoor.LcG
open Go.RowKit Go.Proofs.YtgipnbeipfhekaaGreatDoor Go.Proofs.YtgipnbeipfhekaaGreatDoor.Base Go.Proofs.YtgipnbeipfhekaaGreatDoor.Mem Go.Proofs.YtgipnbeipfhekaaGreatDoor.MemS Go.Proofs.YtgipnbeipfhekaaGreatDoor.LabM Go.Proofs.YtgipnbeipfhekaaGreatDoor.LabV Go.Proofs.YtgipnbeipfhekaaGreatDoor.StM Go.Proofs.YtgipnbeipfhekaaGreatDoor.Str Go.Proofs.YtgipnbeipfhekaaGreatDoor.StTx Go.Proofs.YtgipnbeipfhekaaGreatDoor.Dec Go.Proofs.YtgipnbeipfhekaaGreatDoor.Val Go.Proofs.YtgipnbeipfhekaaGreatDoor.Rd Go.Proofs.YtgipnbeipfhekaaGreatDoor.CarM Go.Proofs.YtgipnbeipfhekaaGreatDoor.LcA Go.Proofs.YtgipnbeipfhekaaGreatDoor.LcC Go.Proofs.YtgipnbeipfhekaaGreatDoor.Take
set_option linter.unusedVariables false
theorem readN {n : Nat} (hn : n ≤ 1000000000000000) (w : World) (ht : Tabs w) : Calls Tryz.prog 141 #[.string (tx (Lib.decDigits n))] w fun e w' => e = .returned (.tuple #[.int .i64 (n : Int), .bool true]) ∧ Below w.heap.size w w' := by
 have hdl := dec_len (u := n) (by omega)
 refine (readDec_any (tx (Lib.decDigits n)) (by rw [size_tx]; omega) w.heap.size w ht.1 ht.2.1 (Nat.le_refl _)).mono ?_
 rintro e w' ⟨v, b, rfl, h1, h2, hb⟩
 rw [list_tx] at h1 h2
 have hy : isVal (Lib.decDigits n) (n : Int) := ⟨itoa_pos n, by omega, by omega⟩
 cases b with
 | false => exact absurd hy ((h2 rfl).2 _)
 | true =>
  have e1 := valO_yes (h1 rfl)
  rw [valO_yes hy] at e1
  obtain rfl := Option.some.inj e1
  exact ⟨rfl, hb⟩
set_option maxHeartbeats 4000000 in
set_option maxRecDepth 100000 in
theorem draw_bits {L : Lb} {nm : ByteArray} {r : St} {n : Nat} (hf : findR L nm = some r) (hv : r.ok = true) (h1 : 1 ≤ n) (hn4 : n ≤ 400) (hl : L.1.length = L.2.length) (hn : L.1.length ≤ 6) (hW : ∀ q, WithC L nm q) (v : Value) (w : World) (h : LabAt w v L) (ht : Tabs w) :
  Calls Tryz.prog 89 #[v, .string ⟨#[98, 105, 116, 115]⟩, .string nm, .string (tx (Lib.decDigits n))] w fun e w' => ∃ v', e = .returned (.tuple #[v', .string (tx (takeL r.K r.W r.T r.m r.f r.a r.s n)), .bool true]) ∧ LabAt w' v' (withR L nm (r.to (takeX r.K r.W r.T r.m r.f r.a r.s n))) ∧ Below w.heap.size w w' := by
 have HTk : Hid (∀ W, Calls Tryz.prog 9 #[.agg #[.int .i64 r.K, .int .i64 r.W, .int .i64 r.T, .int .i64 r.m, .int .i64 r.f, .int .i64 r.a, .int .i64 r.s], .int .i64 (n : Int)] W fun e w' => e = .returned (.tuple #[.string (tx (takeL r.K r.W r.T r.m r.f r.a r.s n)), .agg #[.int .i64 r.K, .int .i64 r.W, .int .i64 r.T, .int .i64 r.m, .int .i64 r.f, .int .i64 r.a, .int .i64 (takeX r.K r.W r.T r.m r.f r.a r.s n)], .bool true]) ∧ Below W.heap.size W w') := Lib.hid fun W => (implTB_any r.K r.W r.T r.m r.f r.a r.s (n : Int) W).mono fun e w' hr => ⟨hr.1 (by rw [okB, show streamB r.K r.W r.T r.m r.f r.a r.s = true from hv, inR_yes (by omega)]; rfl), hr.2.2⟩
 obtain ⟨t, htt⟩ : ∃ t, t = tx (takeL r.K r.W r.T r.m r.f r.a r.s n) := ⟨_, rfl⟩
 have hts : t.size = n := by rw [htt, size_tx, StrM.takeL_len]
 have hte : ¬ t = ⟨#[]⟩ := fun e => by rw [e] at hts; simp [ByteArray.size] at hts; omega
 obtain ⟨y, hy⟩ : ∃ y, y = takeX r.K r.W r.T r.m r.f r.a r.s n := ⟨_, rfl⟩
 rw [← htt, ← hy] at HTk ⊢
 have htl : ¬ t.toList = [] := fun e => by rw [Lib.toList_data] at e; exact hte (tx_ext (by simpa using e))
 have HTE := Lib.hid (And.intro htl (show (t.toList == []) = false from beq_eq_false_iff_ne.2 htl))
 obtain ⟨q, hq⟩ : ∃ q, q = r.to y := ⟨_, rfl⟩
 have HQ : Hid (q = ⟨r.K, r.W, r.T, r.m, r.f, r.a, y⟩) := Lib.hid hq
 rw [← hq]
 clear hv htt hts hte htl hy hq h1
 have hv0 := h
 obtain ⟨A, c, A', c', rfl, hx, hy, _⟩ := h
 obtain ⟨W2, hW2⟩ : ∃ W2, W2 = (w.alloc (.cells #[.slice A L.1.length c, .slice A' L.2.length c'] 53)).alloc (.cells #[.slice none 0 0, .slice none 0 0] 53) := ⟨_, rfl⟩
 have b2 : Below w.heap.size w W2 := by rw [hW2]; exact ((Below.refl _ _).alloc (Nat.le_refl _) _).alloc (by simp) _
 have KL : Hid (Blk.Blk W2 w.heap.size 53 #[.slice A L.1.length c, .slice A' L.2.length c']) := Lib.hid (by rw [hW2]; exact (Blk.Blk.new w _ _).alloc _)
 have KR : Hid (Blk.Blk W2 (w.heap.size + 1) 53 #[.slice none 0 0, .slice none 0 0]) := Lib.hid (by rw [hW2]; exact Blk.Blk.newAt _ _ (by simp))
 have HF := Lib.hid (find_ex L (.agg #[.slice A L.1.length c, .slice A' L.2.length c']) nm W2 (hv0.below b2) hl hn)
 have HB := Lib.hid b2
 have HW := Lib.hid hW2
 have HV := Lib.hid hv0
 rw [hf] at HF
 have HRd := Lib.hid (fun W (hb : Below w.heap.size w W) => readN (n := n) (by omega) W (ht.on hb))
 have HWC := Lib.hid hW
 have HTB := Lib.hid ht
 clear hv0 hx hy hW2 b2 ht hl hf hW
 generalize tx (Lib.decDigits n) = wd at *
 obtain ⟨K, W, T, m, f, a, s⟩ := r
 dsimp only at *
 go_enter Tryz.func89, Tryz.ntmps89
 go_wp2_with fail
 rw [← HW.out]
 refine HF.out.mono ?_
 rintro e w1 ⟨r0, rfl, hr0, b1⟩
 obtain rfl := hr0 _ rfl
 have KL1 := Lib.hid (KL.out.belowS b1)
 have KR1 := Lib.hid (KR.out.belowS b1)
 have HB1 := Lib.hid (Base.Below.nextA HB.out b1)
 clear b1 KL KR HB HF HW hr0
 unfold St.val
 dsimp only
 obtain ⟨W3, hW3⟩ : ∃ W3, W3 = w1.alloc (.cells #[.int .i64 K, .int .i64 W, .int .i64 T, .int .i64 m, .int .i64 f, .int .i64 a, .int .i64 s] 29) := ⟨_, rfl⟩
 have b3 : Below w1.heap.size w1 W3 := by rw [hW3]; exact (Below.refl _ _).alloc (Nat.le_refl _) _
 have HW3 := Lib.hid hW3
 have KS3 : Hid (Blk.Blk W3 w1.heap.size 29 #[.int .i64 K, .int .i64 W, .int .i64 T, .int .i64 m, .int .i64 f, .int .i64 a, .int .i64 s]) := Lib.hid (by rw [hW3]; exact Blk.Blk.new _ _ _)
 have KL3 := Lib.hid (KL1.out.belowS b3)
 have KR3 := Lib.hid (KR1.out.belowS b3)
 have HB3 := Lib.hid (Base.Below.nextA HB1.out b3)
 have hk1 := KR1.out.lt
 clear b3 hW3 KL1 KR1 HB1
 go_wp2_with fail
 rw [← HW3.out]
 refine (HRd.out W3 HB3.out).mono ?_
 rintro e w4 ⟨rfl, b4⟩
 have KL4 := Lib.hid (KL3.out.belowS b4)
 have KR4 := Lib.hid (KR3.out.belowS b4)
 have KS4 := Lib.hid (KS3.out.belowS b4)
 have HB4 := Lib.hid (Base.Below.nextA HB3.out b4)
 have hk4 := KS4.out.lt
 clear b4 KL3 KR3 HB3 KS3 HW3 HRd
 go_wp2_with fail
 obtain ⟨S, hSE⟩ : ∃ S : World → Prop, S = fun w' => w'.cell? ⟨w1.heap.size, 0, none⟩ = some (.int .i64 K) ∧ w'.cell? ⟨w1.heap.size, 1, none⟩ = some (.int .i64 W) ∧ w'.cell? ⟨w1.heap.size, 2, none⟩ = some (.int .i64 T) ∧ w'.cell? ⟨w1.heap.size, 3, none⟩ = some (.int .i64 m) ∧ w'.cell? ⟨w1.heap.size, 4, none⟩ = some (.int .i64 f) ∧ w'.cell? ⟨w1.heap.size, 5, none⟩ = some (.int .i64 a) ∧ w'.cell? ⟨w1.heap.size, 6, none⟩ = some (.int .i64 s) := ⟨_, rfl⟩
 have HSE := Lib.hid hSE
 have HSA : Hid (∀ V, Blk.Blk V w1.heap.size 29 #[.int .i64 K, .int .i64 W, .int .i64 T, .int .i64 m, .int .i64 f, .int .i64 a, .int .i64 s] → S V) := Lib.hid (fun V h2 => by rw [hSE]; exact ⟨h2.at 0 rfl, h2.at 1 rfl, h2.at 2 rfl, h2.at 3 rfl, h2.at 4 rfl, h2.at 5 rfl, h2.at 6 rfl⟩)
 clear hSE
 refine Late.start S [3] 4 (by kernel_rfl) (HSA.out _ KS4.out) rfl (fun hS => ?_)
 refine Late.take (i := 0) (v := ?_) (by rfl) (by kernel_rfl) (by kernel_rfl) (by kernel_rfl) (by intro _ _ _ h; exact h) (by kernel_rfl) (by kernel_rfl) (Or.inl ⟨by rfl, ?_⟩) hS ?_
 rotate_left
 ·(intro W' hW'; rw [HSE.out] at hW'; obtain ⟨y0, y1, y2, y3, y4, y5, y6⟩ := hW'; go_simp; (try with_reducible rfl))
 try simp only [Act.put, List.setIfInBounds_toArray, List.set_cons_zero, List.set_cons_succ]
 refine Late.one (i := 1) (by kernel_rfl) (by rfl) (fun K' hK => ?_)
 go_simp
 refine hK.out _ _ (fun _ => HSA.out _ (KS4.out.alloc _)) (fun hS' => ?_)
 have hS := hS' (by decide)
 clear hS' hK
 clear K'
 try simp only [Act.put, List.setIfInBounds_toArray, List.set_cons_zero, List.set_cons_succ]
 refine Late.take (i := 2) (v := ?_) (by rfl) (by kernel_rfl) (by kernel_rfl) (by kernel_rfl) (by intro _ _ _ h; exact h) (by kernel_rfl) (by kernel_rfl) (Or.inl ⟨by rfl, ?_⟩) hS ?_
 rotate_left
 ·(intro W' hW'; rw [HSE.out] at hW'; obtain ⟨y0, y1, y2, y3, y4, y5, y6⟩ := hW'; go_simp; (try with_reducible rfl))
 try simp only [Act.put, List.setIfInBounds_toArray, List.set_cons_zero, List.set_cons_succ]
 refine Late.one (i := 3) (by kernel_rfl) (by rfl) (fun K' hK => ?_)
 go_simp
 refine hK.out _ _ (fun h => absurd h (by decide)) (fun _ => ?_)
 clear hK
 clear K'
 try simp only [Act.put, List.setIfInBounds_toArray, List.set_cons_zero, List.set_cons_succ]
 refine Late.done (by kernel_rfl) ?_ _
 clear HSA HSE
 obtain ⟨W5, hW5⟩ : ∃ W5, W5 = (w4.alloc (.cells #[.int .i64 K, .int .i64 W, .int .i64 T, .int .i64 m, .int .i64 f, .int .i64 a, .int .i64 s] 29)).drew := ⟨_, rfl⟩
 have b5 : Below w4.heap.size w4 W5 := by rw [hW5]; exact ((Below.refl _ _).alloc (Nat.le_refl _) _).drew
 have HW5 := Lib.hid hW5
 have KN5 : Hid (SBox W5 w4.heap.size K W T m f a s) := Lib.hid (by rw [hW5]; exact SBox.new w4 K W T m f a s)
 have KS5 := Lib.hid (KS4.out.belowS b5)
 have KL5 := Lib.hid (KL4.out.belowS b5)
 have KR5 := Lib.hid (KR4.out.belowS b5)
 have HB5 := Lib.hid (Base.Below.nextA HB4.out b5)
 have e0 := KS5.out.at 0 (v := .int .i64 K) rfl
 have e1 := KS5.out.at 1 (v := .int .i64 W) rfl
 have e2 := KS5.out.at 2 (v := .int .i64 T) rfl
 have e3 := KS5.out.at 3 (v := .int .i64 m) rfl
 have e4 := KS5.out.at 4 (v := .int .i64 f) rfl
 have e5 := KS5.out.at 5 (v := .int .i64 a) rfl
 have e6 := KS5.out.at 6 (v := .int .i64 s) rfl
 rw [hW5] at e0 e1 e2 e3 e4 e5 e6
 clear b5 hW5 KS4 KL4 KR4 HB4
 go_wp2_with fail
 rw [← HW5.out]
 refine (HTk.out W5).mono ?_
 rintro e w6 ⟨rfl, hb6⟩
 obtain ⟨hte, hte2⟩ := HTE.out
 have b6 := hb6
 have KN6 := KN5.out.below b6 KN5.out.lt
 have KL6 := KL5.out.belowS b6
 have KR6 := KR5.out.belowS b6
 have HB6 := Base.Below.nextA HB5.out b6
 have S8 := KN6.set7 K W T m f a y
 have x0 := (KN6).c0; have x1 := (KN6).c1; have x2 := (KN6).c2; have x3 := (KN6).c3; have x4 := (KN6).c4; have x5 := (KN6).c5; have x6 := (KN6).c6
 have z0 := (KN6).frz 0; have z1 := (KN6).frz 1; have z2 := (KN6).frz 2; have z3 := (KN6).frz 3; have z4 := (KN6).frz 4; have z5 := (KN6).frz 5; have z6 := (KN6).frz 6
 obtain ⟨W7, hW7⟩ : ∃ W7, W7 = set7 w6 w4.heap.size K W T m f a y := ⟨_, rfl⟩
 rw [← hW7] at S8
 have gs : w6.grownBy W7 (some w4.heap.size) := by rw [hW7]; exact Take.grown_set7 _ _ _ _ _ _ _ _ _
 have hk5 := KN5.out.lt
 have KL7 := Lib.hid (KL6.kept gs (fun e => by injection e with e; omega))
 have KR7 := Lib.hid (KR6.kept gs (fun e => by injection e with e; omega))
 have HB7 := Lib.hid (HB6.trans (grown_below (B := w.heap.size) gs (fun q e => by injection e with e; omega) (by have := HB6.size; omega)))
 have HW7 := Lib.hid hW7
 unfold set7 at HW7
 have HC := Lib.hid (HWC.out q (.agg #[.slice A L.1.length c, .slice A' L.2.length c']) W7 (HV.out.below HB7.out))
 rw [HQ.out] at HC
 unfold St.val at HC
 dsimp only at HC
 rw [← HQ.out] at HC
 have c0 := KL7.out.at 0 (v := .slice A L.1.length c) rfl
 have c1 := KL7.out.at 1 (v := .slice A' L.2.length c') rfl
 have y0 := (S8).c0; have y1 := (S8).c1; have y2 := (S8).c2; have y3 := (S8).c3; have y4 := (S8).c4; have y5 := (S8).c5; have y6 := (S8).c6
 rw [HW7.out] at c0 c1 y0 y1 y2 y3 y4 y5 y6
 clear hb6 b6 KN6 KL6 KR6 HB6 S8 gs hW7 KN5 KS5 KL5 KR5 HB5 HWC HV HW5
 go_wp2_with fail
 rw [← HW7.out]
 refine HC.out.mono ?_
 rintro e w8 ⟨v8, rfl, hv8, b8⟩
 have hv9 := hv8
 obtain ⟨A7, c7, A8, c8, rfl, _, _⟩ := hv8
 have KR8 := KR7.out.belowS b8
 have HB8 := Base.Below.nextA HB7.out b8
 have hk8 := KR8.lt
 have r0 := KR8.at 0 (v := .slice none 0 0) rfl
 have r1 := KR8.at 1 (v := .slice none 0 0) rfl
 have f0 := KR8.frz 0
 have f1 := KR8.frz 1
 have KK := ((KR8.setTo 0 (.slice A7 (withR L nm q).1.length c7) rfl).setTo 1 (.slice A8 (withR L nm q).2.length c8) rfl).alloc (.cells #[.slice A7 (withR L nm q).1.length c7, .slice A8 (withR L nm q).2.length c8] 53)
 have k0 := KK.at 0 (v := .slice A7 (withR L nm q).1.length c7) rfl
 have k1 := KK.at 1 (v := .slice A8 (withR L nm q).2.length c8) rfl
 have hvf := (ownPut hv9 (b := w.heap.size + 1) (by have := KR7.out.lt; omega) (.slice A7 (withR L nm q).1.length c7) (.slice A8 (withR L nm q).2.length c8)).at.below ((Below.refl _ _).alloc (Nat.le_refl _) (.cells #[.slice A7 (withR L nm q).1.length c7, .slice A8 (withR L nm q).2.length c8] 53))
 have HFIN := Lib.hid (And.intro hvf (((HB8.setCell (p := ⟨w.heap.size + 1, 0, none⟩) (Nat.le_succ _) (.slice A7 (withR L nm q).1.length c7)).setCell (p := ⟨w.heap.size + 1, 1, none⟩) (Nat.le_succ _) (.slice A8 (withR L nm q).2.length c8)).alloc (by have := HB8.size; simp; omega) (.cells #[.slice A7 (withR L nm q).1.length c7, .slice A8 (withR L nm q).2.length c8] 53)))
 clear hv9 KR8 HB8 KK hvf b8 HC KL7 KR7 HB7 c0 c1 y0 y1 y2 y3 y4 y5 y6 x0 x1 x2 x3 x4 x5 x6 z0 z1 z2 z3 z4 z5 z6 e0 e1 e2 e3 e4 e5 e6
 go_wp2
 refine bodyPost_ret (v := .tuple #[.agg #[.slice A7 (withR L nm q).1.length c7, .slice A8 (withR L nm q).2.length c8], .string t, .bool true]) (by simp [results, Tryz.results89, go_sem, k0, k1]) rfl ?_
 exact ⟨_, rfl, HFIN.out.1, HFIN.out.2⟩
end Go.Proofs.YtgipnbeipfhekaaGreatDoor.LcG
namespace Go.Proofs
open Go.Shelf
def YtgipnbeipfhekaaGreatDoor.lj156_ren : Go.Shelf.Ren := ⟨fun | 156 => 144 | 165 => 192 | 166 => 46 | 169 => 48 | 240 => 90 | 241 => 228 | 276 => 145 | 277 => 246 | n => n, fun | 31 => 50 | 9 => 9 | 3 => 3 | 4 => 4 | 0 => 0 | 20 => 20 | 72 => 93 | 76 => 98 | 70 => 91 | 37 => 22 | 75 => 97 | 127 => 141 | 164 => 190 | 5 => 5 | 80 => 101 | n => n, fun | n => n⟩
theorem YtgipnbeipfhekaaGreatDoor.lj156 : Go.Proofs.Lays.n156 Tryz.prog YtgipnbeipfhekaaGreatDoor.lj156_ren := {
 mixed := by kernel_rfl
 f156 := Tryz.func144.trans (congrArg some (by kernel_rfl))
 f165 := Tryz.func192.trans (congrArg some (by kernel_rfl))
 f166 := Tryz.func46.trans (congrArg some (by kernel_rfl))
 f169 := Tryz.func48.trans (congrArg some (by kernel_rfl))
 f240 := Tryz.func90.trans (congrArg some (by kernel_rfl))
 f241 := Tryz.func228.trans (congrArg some (by kernel_rfl))
 f276 := Tryz.func145.trans (congrArg some (by kernel_rfl))
 f277 := Tryz.func246.trans (congrArg some (by kernel_rfl))
 t0 := Tryz.underlying0
 a0 := Tryz.isAgg0
 z0 := Tryz.sizeOf0
 v0 := Tryz.zeroValue0
 t3 := Tryz.underlying3
 a3 := Tryz.isAgg3
 z3 := Tryz.sizeOf3
 v3 := Tryz.zeroValue3
 t4 := Tryz.underlying4
 a4 := Tryz.isAgg4
 z4 := Tryz.sizeOf4
 v4 := Tryz.zeroValue4
 t9 := Tryz.underlying9
 a9 := Tryz.isAgg9
 z9 := Tryz.sizeOf9
 v9 := Tryz.zeroValue9
 t20 := Tryz.underlying20
 a20 := Tryz.isAgg20
 z20 := Tryz.sizeOf20
 v20 := Tryz.zeroValue20
 t31 := Tryz.underlying50
 a31 := Tryz.isAgg50
 z31 := Tryz.sizeOf50
 v31 := Tryz.zeroValue50
 t37 := Tryz.underlying22
 a37 := Tryz.isAgg22
 z37 := Tryz.sizeOf22
 v37 := Tryz.zeroValue22
 t70 := Tryz.underlying91
 a70 := Tryz.isAgg91
 z70 := Tryz.sizeOf91
 v70 := Tryz.zeroValue91
 t72 := Tryz.underlying93
 a72 := Tryz.isAgg93
 z72 := Tryz.sizeOf93
 v72 := Tryz.zeroValue93
 t75 := Tryz.underlying97
 a75 := Tryz.isAgg97
 z75 := Tryz.sizeOf97
 v75 := Tryz.zeroValue97
 t76 := Tryz.underlying98
 a76 := Tryz.isAgg98
 z76 := Tryz.sizeOf98
 v76 := Tryz.zeroValue98
 t127 := Tryz.underlying141
 a127 := Tryz.isAgg141
 z127 := Tryz.sizeOf141
 v127 := Tryz.zeroValue141
 t164 := Tryz.underlying190
 a164 := Tryz.isAgg190
 z164 := Tryz.sizeOf190
 v164 := Tryz.zeroValue190 }
theorem YtgipnbeipfhekaaGreatDoor.ljx156 : Builder.Extra Tryz.prog YtgipnbeipfhekaaGreatDoor.lj156_ren where
 sizeBuilder := by kernel_rfl
 liesBuilder := by kernel_rfl
 t5 := Tryz.underlying5
 a5 := Tryz.isAgg5
 z5 := Tryz.sizeOf5
 v5 := Tryz.zeroValue5
 infoByte := by kernel_rfl
 cellsByte := by kernel_rfl
 sizeByte := by kernel_rfl
 neB5 := by decide
end Go.Proofs
namespace Go.Proofs.YtgipnbeipfhekaaGreatDoor.LcG
open Go.RowKit Go.Proofs.YtgipnbeipfhekaaGreatDoor Go.Proofs.YtgipnbeipfhekaaGreatDoor.Base Go.Proofs.YtgipnbeipfhekaaGreatDoor.Mem Go.Proofs.YtgipnbeipfhekaaGreatDoor.MemS Go.Proofs.YtgipnbeipfhekaaGreatDoor.LabM Go.Proofs.YtgipnbeipfhekaaGreatDoor.LabV Go.Proofs.YtgipnbeipfhekaaGreatDoor.StM Go.Proofs.YtgipnbeipfhekaaGreatDoor.StTx Go.Proofs.YtgipnbeipfhekaaGreatDoor.Dec Go.Proofs.YtgipnbeipfhekaaGreatDoor.Val Go.Proofs.YtgipnbeipfhekaaGreatDoor.Rd Go.Proofs.YtgipnbeipfhekaaGreatDoor.CarM
set_option linter.unusedVariables false
theorem join_own {w : World} {B c : Nat} {A : Option Addr} {ls : List (List UInt8)} (sep : List UInt8) (hO : w.ownsRow B 9 1 (.slice A ls.length c) ls.length (texts (ls.map tx))) (h0 : 0 < ls.length) (hn : ls.length ≤ 1000) (hlen : (Lib.join ls sep).length ≤ 100000) :
  Calls Tryz.prog 144 #[.slice A ls.length c, .string (tx sep)] w fun e w' => e = .returned (.string (tx (Lib.join ls sep))) ∧ Below w.heap.size w w' := by
 have hml : (ls.map tx).length = ls.length := List.length_map _
 obtain ⟨g, hA, hc, hg⟩ : ∃ g, A = some ⟨g, 0, none⟩ ∧ ls.length ≤ c ∧ g < w.heap.size := by
  rcases hO.2 with ⟨hv, h1⟩ | ⟨g, cap, cur, hv, _, h2, h3, _⟩
  ·omega
  ·injection hv with e1 e2 e3
   refine ⟨g, e1, by omega, ?_⟩
   rcases Nat.lt_or_ge g w.heap.size with hlt | hge
   ·exact hlt
   ·rw [Array.getElem?_eq_none hge] at h2; cases h2
 subst hA
 have e1 : (ls.map tx).map (·.data.toList) = ls := by rw [List.map_map]; exact (List.map_congr_left fun x _ => by simp).trans (List.map_id ls)
 have k := Any.strings_Join YtgipnbeipfhekaaGreatDoor.lj156 YtgipnbeipfhekaaGreatDoor.ljx156 g 0 c (ls.map tx) (tx sep) w (fun j x hj => by
  have hjl : j < ls.length := by have := (List.getElem?_eq_some_iff.1 hj).1; omega
  rw [Nat.zero_add, World.ownsRow.cellAt hO j (by omega)]
  simp only [texts, List.getElem?_map, hj, Option.map_some]) hg (by omega) (by omega) (by rw [e1, list_tx]; omega)
 rw [e1, list_tx, hml] at k
 exact k
set_option maxHeartbeats 2000000 in
set_option maxRecDepth 100000 in
theorem fracText_any (p q : Nat) (hp : p ≤ 1000000000000000000) (hq : q ≤ 1000000000000000000) (w : World) (ht : Tabs w) :
  Calls Tryz.prog 42 #[.agg #[.int .i64 (p : Int), .int .i64 (q : Int)]] w fun e w' => e = .returned (.string (tx (fracR p q))) ∧ Below w.heap.size w w' := by
 have hd1 := dec_len (u := p) (by omega)
 have hd2 := dec_len (u := q) (by omega)
 obtain ⟨W2, hW2⟩ : ∃ W2, W2 = w.alloc (.cells #[.int .i64 (p : Int), .int .i64 (q : Int)] 49) := ⟨_, rfl⟩
 have b2 : Below w.heap.size w W2 := by rw [hW2]; exact (Below.refl _ _).alloc (Nat.le_refl _) _
 have KF : Hid (Blk.Blk W2 w.heap.size 49 #[.int .i64 (p : Int), .int .i64 (q : Int)]) := Lib.hid (by rw [hW2]; exact Blk.Blk.new w _ _)
 have HD := Lib.hid (fun W (hb : Below W2.heap.size W2 W) => And.intro (decimal_any p (by omega) W.heap.size W (ht.on (Base.Below.nextA b2 hb)).1 (Nat.le_refl _)) (decimal_any q (by omega) W.heap.size W (ht.on (Base.Below.nextA b2 hb)).1 (Nat.le_refl _)))
 have HB := Lib.hid b2
 have HW := Lib.hid hW2
 by_cases h1 : q = 1
 ·have hf : fracR p q = Lib.decDigits p := by unfold fracR decI; rw [if_pos (by omega), Int.toNat_natCast]
  rw [hf]
  subst h1
  clear hW2 b2 ht hf
  go_enter Tryz.func42, Tryz.ntmps42
  go_wp2_with fail
  rw [show w.alloc (.cells #[.int .i64 (p : Int), .int .i64 1] 49) = W2 from HW.out.symm]
  refine (HD.out W2 (Below.refl _ _)).1.mono ?_
  rintro e w1 ⟨rfl, b1⟩
  have HB1 := Lib.hid (Base.Below.nextA HB.out b1)
  clear b1
  go_wp2
  go_ret
  exact ⟨rfl, HB1.out⟩
 ·have hf : fracR p q = Lib.decDigits p ++ 47 :: Lib.decDigits q := by unfold fracR decI; rw [if_neg (by omega), Int.toNat_natCast, Int.toNat_natCast]
  rw [hf]
  have HA1 := Lib.hid (addTx (Lib.decDigits p) [47] (by simp; omega))
  have HA2 := Lib.hid (addTx (Lib.decDigits p ++ [47]) (Lib.decDigits q) (by simp; omega))
  rw [show Lib.decDigits p ++ [47] ++ Lib.decDigits q = Lib.decDigits p ++ 47 :: Lib.decDigits q by simp] at HA2
  have hq1 : ¬ ((q : Int) = 1) := by omega
  have hq2 : ((q : Int) == 1) = false := by simp only [beq_eq_false_iff_ne]; omega
  clear hW2 b2 ht hf hd1 hd2
  generalize tx (Lib.decDigits p ++ 47 :: Lib.decDigits q) = t3 at *
  generalize tx (Lib.decDigits p ++ [47]) = t2 at *
  generalize tx (Lib.decDigits p) = t1 at *
  generalize tx (Lib.decDigits q) = t0 at *
  go_enter Tryz.func42, Tryz.ntmps42
  go_wp2_with fail
  rw [← HW.out]
  refine Rel.wp_region_rel 8 (by kernel_rfl) (by kernel_rfl) (fun F hF => ?_)
  simp only [List.take_succ_cons, List.take_zero, List.drop_succ_cons, List.drop_zero, Rel.putL] at hF ⊢
  have HF := Lib.hid hF
  clear hF
  have uv := @Rel.upon_value Tryz.prog
  have ue := @Rel.upon_enter Tryz.prog
  apply Rel.rel_pure
  apply Exists.intro
  refine ⟨fun vs wq hq hdp R hR => ?_, ?_⟩
  ·(rw [HF.out, Rel.stepAt_eq]; clear hdp; skip; go_simp; exact hR)
  apply Rel.rel_pure
  apply Exists.intro
  refine ⟨fun vs wq hq hdp R hR => ?_, ?_⟩
  ·(rw [HF.out, Rel.stepAt_eq]; have qd0 : vs 0 = _ := Rel.dep hdp 0 (by kernel_rfl); clear hdp; have x0 := (KF.out.belowS hq).at 0 (v := .int .i64 (p : Int)) rfl; go_simp; exact hR)
  apply Rel.rel_same
  apply Exists.intro
  refine ⟨fun vs wq hq hdp => ?_, ?_⟩
  ·(rw [HF.out, Rel.stepAt_eq]; have qd1 : vs 1 = _ := Rel.dep hdp 1 (by kernel_rfl); clear hdp; skip; go_simp; refine (HD.out wq hq).1.mono ?_; rintro e w7 ⟨rfl, hb⟩; exact ⟨_, rfl, rfl, hb⟩)
  apply Rel.rel_pure
  apply Exists.intro
  refine ⟨fun vs wq hq hdp R hR => ?_, ?_⟩
  ·(rw [HF.out, Rel.stepAt_eq]; have qd2 : vs 2 = _ := Rel.dep hdp 2 (by kernel_rfl); clear hdp; have ha := HA1.out; go_simp; exact hR)
  apply Rel.rel_pure
  apply Exists.intro
  refine ⟨fun vs wq hq hdp R hR => ?_, ?_⟩
  ·(rw [HF.out, Rel.stepAt_eq]; clear hdp; skip; go_simp; exact hR)
  apply Rel.rel_pure
  apply Exists.intro
  refine ⟨fun vs wq hq hdp R hR => ?_, ?_⟩
  ·(rw [HF.out, Rel.stepAt_eq]; have qd4 : vs 4 = _ := Rel.dep hdp 4 (by kernel_rfl); clear hdp; have x1 := (KF.out.belowS hq).at 1 (v := .int .i64 (q : Int)) rfl; go_simp; exact hR)
  apply Rel.rel_same
  apply Exists.intro
  refine ⟨fun vs wq hq hdp => ?_, ?_⟩
  ·(rw [HF.out, Rel.stepAt_eq]; have qd5 : vs 5 = _ := Rel.dep hdp 5 (by kernel_rfl); clear hdp; skip; go_simp; refine (HD.out wq hq).2.mono ?_; rintro e w7 ⟨rfl, hb⟩; exact ⟨_, rfl, rfl, hb⟩)
  apply Rel.rel_pure
  apply Exists.intro
  refine ⟨fun vs wq hq hdp R hR => ?_, ?_⟩
  ·(rw [HF.out, Rel.stepAt_eq]; have qd3 : vs 3 = _ := Rel.dep hdp 3 (by kernel_rfl); have qd6 : vs 6 = _ := Rel.dep hdp 6 (by kernel_rfl); clear hdp; have ha := HA2.out; go_simp; exact hR)
  refine Rel.rel_end (fun vs wq hq hall => ?_)
  rw [HF.out]
  have qe0 : vs 0 = _ := Rel.fin hall 0 (by decide)
  have qe1 : vs 1 = _ := Rel.fin hall 1 (by decide)
  have qe2 : vs 2 = _ := Rel.fin hall 2 (by decide)
  have qe3 : vs 3 = _ := Rel.fin hall 3 (by decide)
  have qe4 : vs 4 = _ := Rel.fin hall 4 (by decide)
  have qe5 : vs 5 = _ := Rel.fin hall 5 (by decide)
  have qe6 : vs 6 = _ := Rel.fin hall 6 (by decide)
  have qe7 : vs 7 = _ := Rel.fin hall 7 (by decide)
  clear hall HF uv ue
  have HBF := Lib.hid (Base.Below.nextA HB.out hq)
  clear hq qe0 qe1 qe2 qe3 qe4 qe5 qe6
  go_wp2
  go_ret
  exact ⟨rfl, HBF.out⟩
end Go.Proofs.YtgipnbeipfhekaaGreatDoor.LcG
namespace Go.Proofs.YtgipnbeipfhekaaGreatDoor.LcG
open Go.RowKit Go.Proofs.YtgipnbeipfhekaaGreatDoor Go.Proofs.YtgipnbeipfhekaaGreatDoor.Base Go.Proofs.YtgipnbeipfhekaaGreatDoor.Mem Go.Proofs.YtgipnbeipfhekaaGreatDoor.MemS Go.Proofs.YtgipnbeipfhekaaGreatDoor.LabM Go.Proofs.YtgipnbeipfhekaaGreatDoor.LabV Go.Proofs.YtgipnbeipfhekaaGreatDoor.StM Go.Proofs.YtgipnbeipfhekaaGreatDoor.StTx Go.Proofs.YtgipnbeipfhekaaGreatDoor.Dec Go.Proofs.YtgipnbeipfhekaaGreatDoor.Val Go.Proofs.YtgipnbeipfhekaaGreatDoor.Rd Go.Proofs.YtgipnbeipfhekaaGreatDoor.CarM
set_option linter.unusedVariables false
def PtRel (ls : List (List UInt8)) (w : World) (ov : Value) (i : Nat) (wr : World) : Prop := Hid (wr.ownsRow w.heap.size 9 1 ov i (texts ((ls.take i).map tx))) ∧ Hid (Below w.heap.size w wr)
theorem PtRel.nil (ls : List (List UInt8)) (w : World) : PtRel ls w (.slice (some ⟨w.heap.size, 0, none⟩) 0 0) 0 (w.alloc (.cells #[] 9)) :=
 ⟨Lib.hid (by have := World.ownsRow_made (base := w.heap.size) (e := 9) (size := 1) w #[] 0 (Nat.le_refl _) (Nat.zero_le _) rfl; simpa [texts] using this), Lib.hid ((Below.refl _ _).alloc (Nat.le_refl _) _)⟩
theorem PtRel.row {ls : List (List UInt8)} {w wr w2 : World} {ov : Value} {i : Nat} (h : PtRel ls w ov i wr) (hb : Below wr.heap.size wr w2) (t : ByteArray) : (w2.alloc (.cells #[.string t] 9)).ownsRow w.heap.size 9 1 ov i (texts ((ls.take i).map tx)) := World.ownsRow.alloc (ownsRow_below h.1.out hb) _
theorem PtRel.next {ls : List (List UInt8)} {w wr w2 w3 : World} {v v' : Value} {i : Nat} {d : List UInt8} (h : PtRel ls w v i wr) (hi : ls[i]? = some d) (hb : Below wr.heap.size wr w2)
  (hown : w3.ownsRow w.heap.size 9 1 v' (i + 1) (texts ((ls.take i).map tx) ++ [.string (tx d)])) (hg : (w2.alloc (.cells #[.string (tx d)] 9)).grownBy w3 v.ownBlock) : PtRel ls w v' (i + 1) w3 := by
 have e : texts ((ls.take (i + 1)).map tx) = texts ((ls.take i).map tx) ++ [.string (tx d)] := by rw [List.take_add_one, hi]; simp [texts]
 refine ⟨Lib.hid (by rw [e]; exact hown), Lib.hid ?_⟩
 have h1 := (h.row hb (tx d))
 have b2 := Base.Below.nextA h.2.out hb
 exact (b2.alloc b2.size _).trans (grown_below hg (fun q hq => (ownsRow_block h1 hq).choose_spec.2.1) (by have := b2.size; simp; omega))
theorem PtRel.form {ls : List (List UInt8)} {w wr : World} {v : Value} {i : Nat} (h : PtRel ls w v i wr) : ∃ A c, v = .slice A i c := by
 obtain ⟨A, c, e, _⟩ := ownsRow_form h.1.out
 exact ⟨A, c, e⟩
set_option maxHeartbeats 4000000 in
set_option maxRecDepth 100000 in
theorem listText_any (A : Option Addr) (c B : Nat) (xs : List Int) (w : World) (hx : RdI w B A xs) (hB : B ≤ w.heap.size) (hn : xs.length ≤ 40) (hr : ∀ x ∈ xs, 0 ≤ x ∧ x ≤ 1000000000000000000) (hlen : (Lib.join (xs.map decI) [44]).length ≤ 100000) (ht : Tabs w) :
  Calls Tryz.prog 142 #[.slice A xs.length c] w fun e w' => e = .returned (.string (tx (listR xs))) ∧ Below w.heap.size w w' := by
 obtain ⟨ix, hix, xz0, xz1, xz2⟩ := info_parts infoT
 have H0 := Lib.hid (PtRel.nil (xs.map decI) w)
 have HX := Lib.hid hx
 have HT := Lib.hid ht
 have HR := Lib.hid hr
 have HLN := Lib.hid hlen
 clear hx hr ht hlen
 go_enter Tryz.func142, Tryz.ntmps142
 go_wp2
 go_loopw [3, 9] (fun ov iv wr => ∃ i : Nat, i ≤ xs.length ∧ iv = .int .i64 (i : Int) ∧ PtRel (xs.map decI) w ov i wr) (fun _ iv _ => xs.length - (intOf iv).toNat)
 case atStart => exact ⟨0, Nat.zero_le _, rfl, H0.out⟩
 case round =>
  obtain ⟨i, hi, rfl, HP⟩ := hrel
  obtain ⟨wo, rfl⟩ : ∃ x, x = wr := ⟨_, rfl⟩
  by_cases hlt : i < xs.length
  ·obtain ⟨b, off, rfl, hb2, hcc⟩ := (HX.out.below HP.2.out hB) (by omega)
   have g1 := hcc i hlt
   have hxi := HR.out _ (List.getElem_mem hlt)
   have hgd : xs.getD i 0 = xs[i] := by simp [List.getD, hlt]
   rw [hgd] at g1
   have hmi : (xs.map decI)[i]? = some (decI xs[i]) := by simp [hlt]
   obtain ⟨u, hu⟩ := Int.eq_ofNat_of_zero_le hxi.1
   rw [hu] at g1 hmi hxi
   have hde : decI ((u : Nat) : Int) = Lib.decDigits u := by unfold decI; rw [Int.toNat_natCast]
   rw [hde] at hmi
   have HD := Lib.hid (decimal_any u (by omega) wo.heap.size wo (HT.out.on HP.2.out).1 (Nat.le_refl _))
   have HPP := Lib.hid HP
   have HMI := Lib.hid hmi
   obtain ⟨A1, c1, e5⟩ := HP.form
   subst e5
   clear H0 HP hcc hgd hmi hu hde
   go_wp2_with fail
   refine HD.out.mono ?_
   rintro e w2 ⟨rfl, hb⟩
   have HW := Lib.hid (HPP.out.row hb (tx (Lib.decDigits u)))
   have HB2 := Lib.hid hb
   have hs2 := hb.size
   have hs3 := HPP.out.2.out.size
   clear hb HD
   obtain ⟨d, hd⟩ : ∃ d, d = tx (Lib.decDigits u) := ⟨_, rfl⟩
   have HDD := Lib.hid hd
   rw [← hd] at HW ⊢
   clear hd
   obtain ⟨Rw, hRw⟩ : ∃ R, R = texts (((xs.map decI).take i).map tx) := ⟨_, rfl⟩
   have HRW := Lib.hid hRw
   rw [← hRw] at HW
   clear hRw
   go_wp2_with (at_builtin; refine wpList_append_own_at _ rfl (.tmp 13) (.tmp 16) 50 rfl w.heap.size 9 ix (.string ByteArray.empty) 1 16 Tryz.underlying50 hix xz0 xz1 xz2 rfl (by decide) _ _ _ rfl HW.out ⟨w2.heap.size, 0, none⟩ 1 1 [.string d] rfl rfl ?p1a ?p2a ?p3a ?p4a ?p5a ?_)
   try case p1a => exact news_one _ _ _ (by simp)
   try case p2a => first | rfl | (intro u hu; simp at hu; subst hu; rfl)
   try case p3a => first | (simp only [maxLen]; omega) | omega
   try case p4a => omega
   try case p5a => first | (simp only [World.size_alloc]; omega) | omega
   intro v' w3 hown' hg' _ he
   rw [HRW.out, HDD.out] at hown'
   rw [HDD.out] at hg'
   have HN := Lib.hid (HPP.out.next HMI.out HB2.out hown' hg')
   clear hown' hg' he
   go_wp2
   go_roundw
   case rel => exact ⟨i + 1, by omega, by simp, HN.out⟩
   case measure => simp [intOf]; omega
  ·obtain rfl : i = xs.length := by omega
   obtain ⟨A1, c1, e5⟩ := HP.form
   subst e5
   by_cases h0 : xs.length = 0
   ·have hz : xs = [] := List.length_eq_zero_iff.1 h0
    have HBF := Lib.hid HP.2.out
    have hl0 : (xs.length : Int) = 0 := by omega
    have hres : tx (listR xs) = ⟨#[110, 111, 110, 101]⟩ := by rw [hz]; rfl
    have HRS := Lib.hid hres
    clear H0 HP HX HR HLN hz hlt hres
    go_wp2
    go_ret
    exact ⟨by rw [HRS.out]; rfl, HBF.out⟩
   ·have hrow := HP.1.out
    have hml : (xs.map decI).length = xs.length := List.length_map _
    rw [show (xs.map decI).take xs.length = xs.map decI by rw [← hml, List.take_length]] at hrow
    have HJ := Lib.hid (join_own (B := w.heap.size) (c := c1) (A := A1) (ls := xs.map decI) [44] (by rw [hml]; exact hrow) (by omega) (by omega) HLN.out)
    rw [hml] at HJ
    have hres : listR xs = Lib.join (xs.map decI) [44] := by unfold listR joinR; rw [if_neg (fun e => h0 (by rw [e]; rfl))]
    have HRS := Lib.hid hres
    have HBF := Lib.hid HP.2.out
    have hl0 : ¬ ((xs.length : Int) = 0) := by omega
    have hl1 : ((xs.length : Int) == 0) = false := by simp only [beq_eq_false_iff_ne]; omega
    clear H0 HP HX HR HLN hrow hml hres
    go_wp2_with fail
    refine HJ.out.mono ?_
    rintro e w3 ⟨rfl, hb3⟩
    have HB3 := Lib.hid (Base.Below.nextA HBF.out hb3)
    clear hb3
    go_wp2
    go_ret
    exact ⟨by rw [HRS.out]; rfl, HB3.out⟩
end Go.Proofs.YtgipnbeipfhekaaGreatDoor.LcG
namespace Go.Proofs.YtgipnbeipfhekaaGreatDoor.LcG
open Go.RowKit Go.Proofs.YtgipnbeipfhekaaGreatDoor Go.Proofs.YtgipnbeipfhekaaGreatDoor.Base Go.Proofs.YtgipnbeipfhekaaGreatDoor.Mem Go.Proofs.YtgipnbeipfhekaaGreatDoor.MemS Go.Proofs.YtgipnbeipfhekaaGreatDoor.LabM Go.Proofs.YtgipnbeipfhekaaGreatDoor.LabV Go.Proofs.YtgipnbeipfhekaaGreatDoor.StM Go.Proofs.YtgipnbeipfhekaaGreatDoor.Str Go.Proofs.YtgipnbeipfhekaaGreatDoor.StTx Go.Proofs.YtgipnbeipfhekaaGreatDoor.Dec Go.Proofs.YtgipnbeipfhekaaGreatDoor.Val Go.Proofs.YtgipnbeipfhekaaGreatDoor.Rd Go.Proofs.YtgipnbeipfhekaaGreatDoor.CarM Go.Proofs.YtgipnbeipfhekaaGreatDoor.LcA Go.Proofs.YtgipnbeipfhekaaGreatDoor.LcC Go.Proofs.YtgipnbeipfhekaaGreatDoor.Take Go.Proofs.YtgipnbeipfhekaaGreatDoor.Face
set_option linter.unusedVariables false
set_option maxHeartbeats 4000000 in
set_option maxRecDepth 100000 in
theorem draw_roll {L : Lb} {nm : ByteArray} {r : St} {n : Nat} {xs : List Int} {y : Int} (hf : findR L nm = some r) (hn4 : n ≤ 400) (hR : facesR r.K r.W r.T r.m r.f r.a r.s n 1 = some (xs, y)) (hx1 : xs.length ≤ 40) (hx2 : ∀ x ∈ xs, 0 ≤ x ∧ x ≤ 1000000000000000000) (hx3 : (Lib.join (xs.map decI) [44]).length ≤ 100000) (hl : L.1.length = L.2.length) (hn : L.1.length ≤ 6) (hW : ∀ q, WithC L nm q) (v : Value) (w : World) (h : LabAt w v L) (ht : Tabs w) :
  Calls Tryz.prog 89 #[v, .string ⟨#[114, 111, 108, 108]⟩, .string nm, .string (tx (Lib.decDigits n))] w fun e w' => ∃ v', e = .returned (.tuple #[v', .string (tx (listR xs)), .bool true]) ∧ LabAt w' v' (withR L nm (r.to y)) ∧ Below w.heap.size w w' := by
 have HTk : Hid (∀ W, Calls Tryz.prog 13 #[.agg #[.int .i64 r.K, .int .i64 r.W, .int .i64 r.T, .int .i64 r.m, .int .i64 r.f, .int .i64 r.a, .int .i64 r.s], .int .i64 (n : Int), .int .i64 1] W fun e w' => ∃ A6 c6, e = .returned (.tuple #[.slice A6 xs.length c6, .agg #[.int .i64 r.K, .int .i64 r.W, .int .i64 r.T, .int .i64 r.m, .int .i64 r.f, .int .i64 r.a, .int .i64 y], .bool true]) ∧ OwnI w' W.heap.size (.slice A6 xs.length c6) xs ∧ Below W.heap.size W w') := Lib.hid fun W => (implFaces_any r.K r.W r.T r.m r.f r.a r.s (n : Int) 1 W).mono fun e w' hr => by
  obtain ⟨A6, c6, g1, g2⟩ := hr.1 _ _ hR
  exact ⟨A6, c6, g1, g2, hr.2.2⟩
 have HXS := Lib.hid (And.intro hx2 hx3)
 obtain ⟨t, htt⟩ : ∃ t, t = tx (listR xs) := ⟨_, rfl⟩
 have HTT := Lib.hid htt
 rw [← htt]
 obtain ⟨q, hq⟩ : ∃ q, q = r.to y := ⟨_, rfl⟩
 have HQ : Hid (q = ⟨r.K, r.W, r.T, r.m, r.f, r.a, y⟩) := Lib.hid hq
 rw [← hq]
 clear hR hx2 hx3 htt hq
 have hv0 := h
 obtain ⟨A, c, A', c', rfl, hx, hy, _⟩ := h
 obtain ⟨W2, hW2⟩ : ∃ W2, W2 = (w.alloc (.cells #[.slice A L.1.length c, .slice A' L.2.length c'] 53)).alloc (.cells #[.slice none 0 0, .slice none 0 0] 53) := ⟨_, rfl⟩
 have b2 : Below w.heap.size w W2 := by rw [hW2]; exact ((Below.refl _ _).alloc (Nat.le_refl _) _).alloc (by simp) _
 have KL : Hid (Blk.Blk W2 w.heap.size 53 #[.slice A L.1.length c, .slice A' L.2.length c']) := Lib.hid (by rw [hW2]; exact (Blk.Blk.new w _ _).alloc _)
 have KR : Hid (Blk.Blk W2 (w.heap.size + 1) 53 #[.slice none 0 0, .slice none 0 0]) := Lib.hid (by rw [hW2]; exact Blk.Blk.newAt _ _ (by simp))
 have HF := Lib.hid (find_ex L (.agg #[.slice A L.1.length c, .slice A' L.2.length c']) nm W2 (hv0.below b2) hl hn)
 have HB := Lib.hid b2
 have HW := Lib.hid hW2
 have HV := Lib.hid hv0
 rw [hf] at HF
 have HRd := Lib.hid (fun W (hb : Below w.heap.size w W) => readN (n := n) (by omega) W (ht.on hb))
 have HWC := Lib.hid hW
 have HTB := Lib.hid ht
 clear hv0 hx hy hW2 b2 ht hl hf hW
 generalize tx (Lib.decDigits n) = wd at *
 obtain ⟨K, W, T, m, f, a, s⟩ := r
 dsimp only at *
 go_enter Tryz.func89, Tryz.ntmps89
 go_wp2_with fail
 rw [← HW.out]
 refine HF.out.mono ?_
 rintro e w1 ⟨r0, rfl, hr0, b1⟩
 obtain rfl := hr0 _ rfl
 have KL1 := Lib.hid (KL.out.belowS b1)
 have KR1 := Lib.hid (KR.out.belowS b1)
 have HB1 := Lib.hid (Base.Below.nextA HB.out b1)
 clear b1 KL KR HB HF HW hr0
 unfold St.val
 dsimp only
 obtain ⟨W3, hW3⟩ : ∃ W3, W3 = w1.alloc (.cells #[.int .i64 K, .int .i64 W, .int .i64 T, .int .i64 m, .int .i64 f, .int .i64 a, .int .i64 s] 29) := ⟨_, rfl⟩
 have b3 : Below w1.heap.size w1 W3 := by rw [hW3]; exact (Below.refl _ _).alloc (Nat.le_refl _) _
 have HW3 := Lib.hid hW3
 have KS3 : Hid (Blk.Blk W3 w1.heap.size 29 #[.int .i64 K, .int .i64 W, .int .i64 T, .int .i64 m, .int .i64 f, .int .i64 a, .int .i64 s]) := Lib.hid (by rw [hW3]; exact Blk.Blk.new _ _ _)
 have KL3 := Lib.hid (KL1.out.belowS b3)
 have KR3 := Lib.hid (KR1.out.belowS b3)
 have HB3 := Lib.hid (Base.Below.nextA HB1.out b3)
 have hk1 := KR1.out.lt
 clear b3 hW3 KL1 KR1 HB1
 go_wp2_with fail
 rw [← HW3.out]
 refine (HRd.out W3 HB3.out).mono ?_
 rintro e w4 ⟨rfl, b4⟩
 have KL4 := Lib.hid (KL3.out.belowS b4)
 have KR4 := Lib.hid (KR3.out.belowS b4)
 have KS4 := Lib.hid (KS3.out.belowS b4)
 have HB4 := Lib.hid (Base.Below.nextA HB3.out b4)
 have hk4 := KS4.out.lt
 clear b4 KL3 KR3 HB3 KS3 HW3 HRd
 go_wp2_with fail
 obtain ⟨S, hSE⟩ : ∃ S : World → Prop, S = fun w' => w'.cell? ⟨w1.heap.size, 0, none⟩ = some (.int .i64 K) ∧ w'.cell? ⟨w1.heap.size, 1, none⟩ = some (.int .i64 W) ∧ w'.cell? ⟨w1.heap.size, 2, none⟩ = some (.int .i64 T) ∧ w'.cell? ⟨w1.heap.size, 3, none⟩ = some (.int .i64 m) ∧ w'.cell? ⟨w1.heap.size, 4, none⟩ = some (.int .i64 f) ∧ w'.cell? ⟨w1.heap.size, 5, none⟩ = some (.int .i64 a) ∧ w'.cell? ⟨w1.heap.size, 6, none⟩ = some (.int .i64 s) := ⟨_, rfl⟩
 have HSE := Lib.hid hSE
 have HSA : Hid (∀ V, Blk.Blk V w1.heap.size 29 #[.int .i64 K, .int .i64 W, .int .i64 T, .int .i64 m, .int .i64 f, .int .i64 a, .int .i64 s] → S V) := Lib.hid (fun V h2 => by rw [hSE]; exact ⟨h2.at 0 rfl, h2.at 1 rfl, h2.at 2 rfl, h2.at 3 rfl, h2.at 4 rfl, h2.at 5 rfl, h2.at 6 rfl⟩)
 clear hSE
 refine Late.start S [3] 4 (by kernel_rfl) (HSA.out _ KS4.out) rfl (fun hS => ?_)
 refine Late.take (i := 0) (v := ?_) (by rfl) (by kernel_rfl) (by kernel_rfl) (by kernel_rfl) (by intro _ _ _ h; exact h) (by kernel_rfl) (by kernel_rfl) (Or.inl ⟨by rfl, ?_⟩) hS ?_
 rotate_left
 ·(intro W' hW'; rw [HSE.out] at hW'; obtain ⟨y0, y1, y2, y3, y4, y5, y6⟩ := hW'; go_simp; (try with_reducible rfl))
 try simp only [Act.put, List.setIfInBounds_toArray, List.set_cons_zero, List.set_cons_succ]
 refine Late.one (i := 1) (by kernel_rfl) (by rfl) (fun K' hK => ?_)
 go_simp
 refine hK.out _ _ (fun _ => HSA.out _ (KS4.out.alloc _)) (fun hS' => ?_)
 have hS := hS' (by decide)
 clear hS' hK
 clear K'
 try simp only [Act.put, List.setIfInBounds_toArray, List.set_cons_zero, List.set_cons_succ]
 refine Late.take (i := 2) (v := ?_) (by rfl) (by kernel_rfl) (by kernel_rfl) (by kernel_rfl) (by intro _ _ _ h; exact h) (by kernel_rfl) (by kernel_rfl) (Or.inl ⟨by rfl, ?_⟩) hS ?_
 rotate_left
 ·(intro W' hW'; rw [HSE.out] at hW'; obtain ⟨y0, y1, y2, y3, y4, y5, y6⟩ := hW'; go_simp; (try with_reducible rfl))
 try simp only [Act.put, List.setIfInBounds_toArray, List.set_cons_zero, List.set_cons_succ]
 refine Late.one (i := 3) (by kernel_rfl) (by rfl) (fun K' hK => ?_)
 go_simp
 refine hK.out _ _ (fun h => absurd h (by decide)) (fun _ => ?_)
 clear hK
 clear K'
 try simp only [Act.put, List.setIfInBounds_toArray, List.set_cons_zero, List.set_cons_succ]
 refine Late.done (by kernel_rfl) ?_ _
 clear HSA HSE
 obtain ⟨W5, hW5⟩ : ∃ W5, W5 = (w4.alloc (.cells #[.int .i64 K, .int .i64 W, .int .i64 T, .int .i64 m, .int .i64 f, .int .i64 a, .int .i64 s] 29)).drew := ⟨_, rfl⟩
 have b5 : Below w4.heap.size w4 W5 := by rw [hW5]; exact ((Below.refl _ _).alloc (Nat.le_refl _) _).drew
 have HW5 := Lib.hid hW5
 have KN5 : Hid (SBox W5 w4.heap.size K W T m f a s) := Lib.hid (by rw [hW5]; exact SBox.new w4 K W T m f a s)
 have KS5 := Lib.hid (KS4.out.belowS b5)
 have KL5 := Lib.hid (KL4.out.belowS b5)
 have KR5 := Lib.hid (KR4.out.belowS b5)
 have HB5 := Lib.hid (Base.Below.nextA HB4.out b5)
 have e0 := KS5.out.at 0 (v := .int .i64 K) rfl
 have e1 := KS5.out.at 1 (v := .int .i64 W) rfl
 have e2 := KS5.out.at 2 (v := .int .i64 T) rfl
 have e3 := KS5.out.at 3 (v := .int .i64 m) rfl
 have e4 := KS5.out.at 4 (v := .int .i64 f) rfl
 have e5 := KS5.out.at 5 (v := .int .i64 a) rfl
 have e6 := KS5.out.at 6 (v := .int .i64 s) rfl
 rw [hW5] at e0 e1 e2 e3 e4 e5 e6
 clear b5 hW5 KS4 KL4 KR4 HB4
 go_wp2_with fail
 rw [← HW5.out]
 refine (HTk.out W5).mono ?_
 rintro e w6 ⟨A6, c6, rfl, o6, hb6⟩
 have hz5 : w4.heap.size < W5.heap.size := KN5.out.lt
 have b6 := hb6
 have KN6 := KN5.out.below b6 KN5.out.lt
 have KL6 := KL5.out.belowS b6
 have KR6 := KR5.out.belowS b6
 have HB6 := Base.Below.nextA HB5.out b6
 have S8 := KN6.set7 K W T m f a y
 have x0 := (KN6).c0; have x1 := (KN6).c1; have x2 := (KN6).c2; have x3 := (KN6).c3; have x4 := (KN6).c4; have x5 := (KN6).c5; have x6 := (KN6).c6
 have z0 := (KN6).frz 0; have z1 := (KN6).frz 1; have z2 := (KN6).frz 2; have z3 := (KN6).frz 3; have z4 := (KN6).frz 4; have z5 := (KN6).frz 5; have z6 := (KN6).frz 6
 obtain ⟨W7, hW7⟩ : ∃ W7, W7 = set7 w6 w4.heap.size K W T m f a y := ⟨_, rfl⟩
 rw [← hW7] at S8
 have gs : w6.grownBy W7 (some w4.heap.size) := by rw [hW7]; exact Take.grown_set7 _ _ _ _ _ _ _ _ _
 have hk5 := KN5.out.lt
 have KL7 := Lib.hid (KL6.kept gs (fun e => by injection e with e; omega))
 have KR7 := Lib.hid (KR6.kept gs (fun e => by injection e with e; omega))
 have HB7 := Lib.hid (HB6.trans (grown_below (B := w.heap.size) gs (fun q e => by injection e with e; omega) (by have := HB6.size; omega)))
 have HW7 := Lib.hid hW7
 unfold set7 at HW7
 have HO7 := Lib.hid (World.ownsRow.kept o6 gs (.inr fun e => by obtain ⟨_, _, k1, _⟩ := ownsRow_block o6 e; omega))
 have HT7 := HTB.out.on HB7.out
 have HLT := Lib.hid (listText_any A6 c6 W7.heap.size xs W7 (OwnI.rd HO7.out) (Nat.le_refl _) (by omega) HXS.out.1 HXS.out.2 HT7)
 have HS8 := Lib.hid S8
 clear hb6 b6 o6 KN6 KL6 KR6 HB6 S8 gs hW7 KN5 KS5 KL5 KR5 HB5 HW5 HT7
 go_wp2_with fail
 rw [← HW7.out]
 refine HLT.out.mono ?_
 rintro e w9 ⟨rfl, b9⟩
 rw [← HTT.out]
 have KL9 := Lib.hid (KL7.out.belowS b9)
 have KR9 := Lib.hid (KR7.out.belowS b9)
 have HB9 := Lib.hid (Base.Below.nextA HB7.out b9)
 have S9 := HS8.out.below b9 HS8.out.lt
 have c0 := KL9.out.at 0 (v := .slice A L.1.length c) rfl
 have c1 := KL9.out.at 1 (v := .slice A' L.2.length c') rfl
 have y0 := (S9).c0; have y1 := (S9).c1; have y2 := (S9).c2; have y3 := (S9).c3; have y4 := (S9).c4; have y5 := (S9).c5; have y6 := (S9).c6
 clear b9 S9 HLT HW7 KL7 KR7 HB7 HS8 HO7 x0 x1 x2 x3 x4 x5 x6 z0 z1 z2 z3 z4 z5 z6
 have HC := Lib.hid (HWC.out q (.agg #[.slice A L.1.length c, .slice A' L.2.length c']) w9 (HV.out.below HB9.out))
 rw [HQ.out] at HC
 unfold St.val at HC
 dsimp only at HC
 rw [← HQ.out] at HC
 clear HWC HV
 go_wp2_with fail
 refine HC.out.mono ?_
 rintro e w8 ⟨v8, rfl, hv8, b8⟩
 have hv9 := hv8
 obtain ⟨A7, c7, A8, c8, rfl, _, _⟩ := hv8
 have KR8 := KR9.out.belowS b8
 have HB8 := Base.Below.nextA HB9.out b8
 have hk8 := KR8.lt
 have r0 := KR8.at 0 (v := .slice none 0 0) rfl
 have r1 := KR8.at 1 (v := .slice none 0 0) rfl
 have f0 := KR8.frz 0
 have f1 := KR8.frz 1
 have KK := ((KR8.setTo 0 (.slice A7 (withR L nm q).1.length c7) rfl).setTo 1 (.slice A8 (withR L nm q).2.length c8) rfl).alloc (.cells #[.slice A7 (withR L nm q).1.length c7, .slice A8 (withR L nm q).2.length c8] 53)
 have k0 := KK.at 0 (v := .slice A7 (withR L nm q).1.length c7) rfl
 have k1 := KK.at 1 (v := .slice A8 (withR L nm q).2.length c8) rfl
 have hvf := (ownPut hv9 (b := w.heap.size + 1) (by have := KR9.out.lt; omega) (.slice A7 (withR L nm q).1.length c7) (.slice A8 (withR L nm q).2.length c8)).at.below ((Below.refl _ _).alloc (Nat.le_refl _) (.cells #[.slice A7 (withR L nm q).1.length c7, .slice A8 (withR L nm q).2.length c8] 53))
 have HFIN := Lib.hid (And.intro hvf (((HB8.setCell (p := ⟨w.heap.size + 1, 0, none⟩) (Nat.le_succ _) (.slice A7 (withR L nm q).1.length c7)).setCell (p := ⟨w.heap.size + 1, 1, none⟩) (Nat.le_succ _) (.slice A8 (withR L nm q).2.length c8)).alloc (by have := HB8.size; simp; omega) (.cells #[.slice A7 (withR L nm q).1.length c7, .slice A8 (withR L nm q).2.length c8] 53)))
 clear hv9 KR8 HB8 KK hvf b8 HC KL9 KR9 HB9 c0 c1 y0 y1 y2 y3 y4 y5 y6 e0 e1 e2 e3 e4 e5 e6
 go_wp2
 refine bodyPost_ret (v := .tuple #[.agg #[.slice A7 (withR L nm q).1.length c7, .slice A8 (withR L nm q).2.length c8], .string t, .bool true]) (by simp [results, Tryz.results89, go_sem, k0, k1]) rfl ?_
 exact ⟨_, rfl, HFIN.out.1, HFIN.out.2⟩
set_option maxHeartbeats 4000000 in
set_option maxRecDepth 100000 in
theorem draw_roll_no {L : Lb} {nm : ByteArray} {r : St} {n : Nat} (hf : findR L nm = some r) (hn4 : n ≤ 400) (hR : facesR r.K r.W r.T r.m r.f r.a r.s n 1 = none) (hl : L.1.length = L.2.length) (hn : L.1.length ≤ 6) (v : Value) (w : World) (h : LabAt w v L) (ht : Tabs w) :
  Calls Tryz.prog 89 #[v, .string ⟨#[114, 111, 108, 108]⟩, .string nm, .string (tx (Lib.decDigits n))] w fun e w' => e = .returned (.tuple #[v, .string ⟨#[]⟩, .bool false]) ∧ Below w.heap.size w w' := by
 have HTk : Hid (∀ W, Calls Tryz.prog 13 #[.agg #[.int .i64 r.K, .int .i64 r.W, .int .i64 r.T, .int .i64 r.m, .int .i64 r.f, .int .i64 r.a, .int .i64 r.s], .int .i64 (n : Int), .int .i64 1] W fun e w' => e = .returned (.tuple #[.slice none 0 0, .agg #[.int .i64 0, .int .i64 0, .int .i64 0, .int .i64 0, .int .i64 0, .int .i64 0, .int .i64 0], .bool false]) ∧ Below W.heap.size W w') := Lib.hid fun W => (implFaces_any r.K r.W r.T r.m r.f r.a r.s (n : Int) 1 W).mono fun e w' hr => ⟨hr.2.1 hR, hr.2.2⟩
 clear hR
 have hv0 := h
 obtain ⟨A, c, A', c', rfl, hx, hy, _⟩ := h
 obtain ⟨W2, hW2⟩ : ∃ W2, W2 = (w.alloc (.cells #[.slice A L.1.length c, .slice A' L.2.length c'] 53)).alloc (.cells #[.slice none 0 0, .slice none 0 0] 53) := ⟨_, rfl⟩
 have b2 : Below w.heap.size w W2 := by rw [hW2]; exact ((Below.refl _ _).alloc (Nat.le_refl _) _).alloc (by simp) _
 have KL : Hid (Blk.Blk W2 w.heap.size 53 #[.slice A L.1.length c, .slice A' L.2.length c']) := Lib.hid (by rw [hW2]; exact (Blk.Blk.new w _ _).alloc _)
 have KR : Hid (Blk.Blk W2 (w.heap.size + 1) 53 #[.slice none 0 0, .slice none 0 0]) := Lib.hid (by rw [hW2]; exact Blk.Blk.newAt _ _ (by simp))
 have HF := Lib.hid (find_ex L (.agg #[.slice A L.1.length c, .slice A' L.2.length c']) nm W2 (hv0.below b2) hl hn)
 have HB := Lib.hid b2
 have HW := Lib.hid hW2
 have HV := Lib.hid hv0
 rw [hf] at HF
 have HRd := Lib.hid (fun W (hb : Below w.heap.size w W) => readN (n := n) (by omega) W (ht.on hb))
 have HTB := Lib.hid ht
 clear hv0 hx hy hW2 b2 ht hl hf
 generalize tx (Lib.decDigits n) = wd at *
 obtain ⟨K, W, T, m, f, a, s⟩ := r
 dsimp only at *
 go_enter Tryz.func89, Tryz.ntmps89
 go_wp2_with fail
 rw [← HW.out]
 refine HF.out.mono ?_
 rintro e w1 ⟨r0, rfl, hr0, b1⟩
 obtain rfl := hr0 _ rfl
 have KL1 := Lib.hid (KL.out.belowS b1)
 have KR1 := Lib.hid (KR.out.belowS b1)
 have HB1 := Lib.hid (Base.Below.nextA HB.out b1)
 clear b1 KL KR HB HF HW hr0
 unfold St.val
 dsimp only
 obtain ⟨W3, hW3⟩ : ∃ W3, W3 = w1.alloc (.cells #[.int .i64 K, .int .i64 W, .int .i64 T, .int .i64 m, .int .i64 f, .int .i64 a, .int .i64 s] 29) := ⟨_, rfl⟩
 have b3 : Below w1.heap.size w1 W3 := by rw [hW3]; exact (Below.refl _ _).alloc (Nat.le_refl _) _
 have HW3 := Lib.hid hW3
 have KS3 : Hid (Blk.Blk W3 w1.heap.size 29 #[.int .i64 K, .int .i64 W, .int .i64 T, .int .i64 m, .int .i64 f, .int .i64 a, .int .i64 s]) := Lib.hid (by rw [hW3]; exact Blk.Blk.new _ _ _)
 have KL3 := Lib.hid (KL1.out.belowS b3)
 have KR3 := Lib.hid (KR1.out.belowS b3)
 have HB3 := Lib.hid (Base.Below.nextA HB1.out b3)
 have hk1 := KR1.out.lt
 clear b3 hW3 KL1 KR1 HB1
 go_wp2_with fail
 rw [← HW3.out]
 refine (HRd.out W3 HB3.out).mono ?_
 rintro e w4 ⟨rfl, b4⟩
 have KL4 := Lib.hid (KL3.out.belowS b4)
 have KR4 := Lib.hid (KR3.out.belowS b4)
 have KS4 := Lib.hid (KS3.out.belowS b4)
 have HB4 := Lib.hid (Base.Below.nextA HB3.out b4)
 have hk4 := KS4.out.lt
 clear b4 KL3 KR3 HB3 KS3 HW3 HRd
 go_wp2_with fail
 obtain ⟨S, hSE⟩ : ∃ S : World → Prop, S = fun w' => w'.cell? ⟨w1.heap.size, 0, none⟩ = some (.int .i64 K) ∧ w'.cell? ⟨w1.heap.size, 1, none⟩ = some (.int .i64 W) ∧ w'.cell? ⟨w1.heap.size, 2, none⟩ = some (.int .i64 T) ∧ w'.cell? ⟨w1.heap.size, 3, none⟩ = some (.int .i64 m) ∧ w'.cell? ⟨w1.heap.size, 4, none⟩ = some (.int .i64 f) ∧ w'.cell? ⟨w1.heap.size, 5, none⟩ = some (.int .i64 a) ∧ w'.cell? ⟨w1.heap.size, 6, none⟩ = some (.int .i64 s) := ⟨_, rfl⟩
 have HSE := Lib.hid hSE
 have HSA : Hid (∀ V, Blk.Blk V w1.heap.size 29 #[.int .i64 K, .int .i64 W, .int .i64 T, .int .i64 m, .int .i64 f, .int .i64 a, .int .i64 s] → S V) := Lib.hid (fun V h2 => by rw [hSE]; exact ⟨h2.at 0 rfl, h2.at 1 rfl, h2.at 2 rfl, h2.at 3 rfl, h2.at 4 rfl, h2.at 5 rfl, h2.at 6 rfl⟩)
 clear hSE
 refine Late.start S [3] 4 (by kernel_rfl) (HSA.out _ KS4.out) rfl (fun hS => ?_)
 refine Late.take (i := 0) (v := ?_) (by rfl) (by kernel_rfl) (by kernel_rfl) (by kernel_rfl) (by intro _ _ _ h; exact h) (by kernel_rfl) (by kernel_rfl) (Or.inl ⟨by rfl, ?_⟩) hS ?_
 rotate_left
 ·(intro W' hW'; rw [HSE.out] at hW'; obtain ⟨y0, y1, y2, y3, y4, y5, y6⟩ := hW'; go_simp; (try with_reducible rfl))
 try simp only [Act.put, List.setIfInBounds_toArray, List.set_cons_zero, List.set_cons_succ]
 refine Late.one (i := 1) (by kernel_rfl) (by rfl) (fun K' hK => ?_)
 go_simp
 refine hK.out _ _ (fun _ => HSA.out _ (KS4.out.alloc _)) (fun hS' => ?_)
 have hS := hS' (by decide)
 clear hS' hK
 clear K'
 try simp only [Act.put, List.setIfInBounds_toArray, List.set_cons_zero, List.set_cons_succ]
 refine Late.take (i := 2) (v := ?_) (by rfl) (by kernel_rfl) (by kernel_rfl) (by kernel_rfl) (by intro _ _ _ h; exact h) (by kernel_rfl) (by kernel_rfl) (Or.inl ⟨by rfl, ?_⟩) hS ?_
 rotate_left
 ·(intro W' hW'; rw [HSE.out] at hW'; obtain ⟨y0, y1, y2, y3, y4, y5, y6⟩ := hW'; go_simp; (try with_reducible rfl))
 try simp only [Act.put, List.setIfInBounds_toArray, List.set_cons_zero, List.set_cons_succ]
 refine Late.one (i := 3) (by kernel_rfl) (by rfl) (fun K' hK => ?_)
 go_simp
 refine hK.out _ _ (fun h => absurd h (by decide)) (fun _ => ?_)
 clear hK
 clear K'
 try simp only [Act.put, List.setIfInBounds_toArray, List.set_cons_zero, List.set_cons_succ]
 refine Late.done (by kernel_rfl) ?_ _
 clear HSA HSE
 obtain ⟨W5, hW5⟩ : ∃ W5, W5 = (w4.alloc (.cells #[.int .i64 K, .int .i64 W, .int .i64 T, .int .i64 m, .int .i64 f, .int .i64 a, .int .i64 s] 29)).drew := ⟨_, rfl⟩
 have b5 : Below w4.heap.size w4 W5 := by rw [hW5]; exact ((Below.refl _ _).alloc (Nat.le_refl _) _).drew
 have HW5 := Lib.hid hW5
 have KN5 : Hid (SBox W5 w4.heap.size K W T m f a s) := Lib.hid (by rw [hW5]; exact SBox.new w4 K W T m f a s)
 have KS5 := Lib.hid (KS4.out.belowS b5)
 have KL5 := Lib.hid (KL4.out.belowS b5)
 have KR5 := Lib.hid (KR4.out.belowS b5)
 have HB5 := Lib.hid (Base.Below.nextA HB4.out b5)
 have e0 := KS5.out.at 0 (v := .int .i64 K) rfl
 have e1 := KS5.out.at 1 (v := .int .i64 W) rfl
 have e2 := KS5.out.at 2 (v := .int .i64 T) rfl
 have e3 := KS5.out.at 3 (v := .int .i64 m) rfl
 have e4 := KS5.out.at 4 (v := .int .i64 f) rfl
 have e5 := KS5.out.at 5 (v := .int .i64 a) rfl
 have e6 := KS5.out.at 6 (v := .int .i64 s) rfl
 rw [hW5] at e0 e1 e2 e3 e4 e5 e6
 clear b5 hW5 KS4 KL4 KR4 HB4
 go_wp2_with fail
 rw [← HW5.out]
 refine (HTk.out W5).mono ?_
 rintro e w6 ⟨rfl, hb6⟩
 have hz5 : w4.heap.size < W5.heap.size := KN5.out.lt
 have b6 := hb6
 have KN6 := KN5.out.below b6 KN5.out.lt
 have KL6 := KL5.out.belowS b6
 have KR6 := KR5.out.belowS b6
 have HB6 := Base.Below.nextA HB5.out b6
 have S8 := KN6.set7 0 0 0 0 0 0 0
 have x0 := (KN6).c0; have x1 := (KN6).c1; have x2 := (KN6).c2; have x3 := (KN6).c3; have x4 := (KN6).c4; have x5 := (KN6).c5; have x6 := (KN6).c6
 have z0 := (KN6).frz 0; have z1 := (KN6).frz 1; have z2 := (KN6).frz 2; have z3 := (KN6).frz 3; have z4 := (KN6).frz 4; have z5 := (KN6).frz 5; have z6 := (KN6).frz 6
 obtain ⟨W7, hW7⟩ : ∃ W7, W7 = set7 w6 w4.heap.size 0 0 0 0 0 0 0 := ⟨_, rfl⟩
 rw [← hW7] at S8
 have gs : w6.grownBy W7 (some w4.heap.size) := by rw [hW7]; exact Take.grown_set7 _ _ _ _ _ _ _ _ _
 have hk5 := KN5.out.lt
 have KL7 := Lib.hid (KL6.kept gs (fun e => by injection e with e; omega))
 have KR7 := Lib.hid (KR6.kept gs (fun e => by injection e with e; omega))
 have HB7 := Lib.hid (HB6.trans (grown_below (B := w.heap.size) gs (fun q e => by injection e with e; omega) (by have := HB6.size; omega)))
 have HW7 := Lib.hid hW7
 unfold set7 at HW7
 have HT7 := HTB.out.on HB7.out
 have HLT := Lib.hid (listText_any none 0 W7.heap.size [] W7 (fun h0 => absurd h0 (Nat.lt_irrefl 0)) (Nat.le_refl _) (Nat.zero_le _) (fun x hx => by cases hx) (by decide +kernel) HT7)
 clear hb6 b6 KN6 KL6 KR6 HB6 S8 gs hW7 KN5 KS5 KL5 KR5 HB5 HW5 HT7
 go_wp2_with fail
 rw [← HW7.out]
 refine HLT.out.mono ?_
 rintro e w9 ⟨rfl, b9⟩
 have KL9 := KL7.out.belowS b9
 have KR9 := KR7.out.belowS b9
 have HB9 := Base.Below.nextA HB7.out b9
 have c0 := KL9.at 0 (v := .slice A L.1.length c) rfl
 have c1 := KL9.at 1 (v := .slice A' L.2.length c') rfl
 have r0 := KR9.at 0 (v := .slice none 0 0) rfl
 have r1 := KR9.at 1 (v := .slice none 0 0) rfl
 have f0 := KR9.frz 0
 have f1 := KR9.frz 1
 have KK := (KR9.setTo 0 (.slice A L.1.length c) rfl).setTo 1 (.slice A' L.2.length c') rfl
 have k0 := KK.at 0 (v := .slice A L.1.length c) rfl
 have k1 := KK.at 1 (v := .slice A' L.2.length c') rfl
 have HFIN := Lib.hid ((HB9.setCell (p := ⟨w.heap.size + 1, 0, none⟩) (Nat.le_succ _) (.slice A L.1.length c)).setCell (p := ⟨w.heap.size + 1, 1, none⟩) (Nat.le_succ _) (.slice A' L.2.length c'))
 clear b9 HLT HW7 KL7 KR7 HB7 KL9 KR9 HB9 KK x0 x1 x2 x3 x4 x5 x6 z0 z1 z2 z3 z4 z5 z6 e0 e1 e2 e3 e4 e5 e6
 go_wp2
 refine bodyPost_ret (v := .tuple #[.agg #[.slice A L.1.length c, .slice A' L.2.length c'], .string ⟨#[]⟩, .bool false]) (by simp [results, Tryz.results89, go_sem, k0, k1]) rfl ?_
 exact ⟨rfl, HFIN.out⟩
end Go.Proofs.YtgipnbeipfhekaaGreatDoor.LcG
namespace Go.Proofs.YtgipnbeipfhekaaGreatDoor.LcG
open Go.RowKit Go.Proofs.YtgipnbeipfhekaaGreatDoor Go.Proofs.YtgipnbeipfhekaaGreatDoor.Base Go.Proofs.YtgipnbeipfhekaaGreatDoor.Mem Go.Proofs.YtgipnbeipfhekaaGreatDoor.MemS Go.Proofs.YtgipnbeipfhekaaGreatDoor.LabM Go.Proofs.YtgipnbeipfhekaaGreatDoor.LabV Go.Proofs.YtgipnbeipfhekaaGreatDoor.StM Go.Proofs.YtgipnbeipfhekaaGreatDoor.Str Go.Proofs.YtgipnbeipfhekaaGreatDoor.StTx Go.Proofs.YtgipnbeipfhekaaGreatDoor.Dec Go.Proofs.YtgipnbeipfhekaaGreatDoor.Val Go.Proofs.YtgipnbeipfhekaaGreatDoor.Rd Go.Proofs.YtgipnbeipfhekaaGreatDoor.CarM Go.Proofs.YtgipnbeipfhekaaGreatDoor.LcA Go.Proofs.YtgipnbeipfhekaaGreatDoor.LcC Go.Proofs.YtgipnbeipfhekaaGreatDoor.Take Go.Proofs.YtgipnbeipfhekaaGreatDoor.Face
set_option linter.unusedVariables false
theorem fracsR_len (R : List Int) : ∀ k, (fracsR R k).length = k
 | 0 => rfl
 | k + 1 => by rw [fracsR, List.length_append, fracsR_len R k]; rfl
theorem fracsR_take (R : List Int) : ∀ (k i : Nat), i ≤ k → (fracsR R k).take i = fracsR R i
 | 0, i, hi => by
  have : i = 0 := by omega
  subst this; rfl
 | k + 1, i, hi => by
  by_cases h : i = k + 1
  ·subst h
   exact List.take_of_length_le (by rw [fracsR_len]; exact Nat.le_refl _)
  ·rw [fracsR, List.take_append_of_le_length (by rw [fracsR_len]; omega), fracsR_take R k i (by omega)]
theorem fracsR_get (R : List Int) {k i : Nat} (h : i < k) : (fracsR R k)[i]? = some (fracR (R.getD (2 * i) 0) (R.getD (2 * i + 1) 0)) := by
 have h1 := fracsR_take R k (i + 1) h
 have h2 : ((fracsR R k).take (i + 1))[i]? = (fracsR R k)[i]? := List.getElem?_take_of_lt (Nat.lt_succ_self i)
 rw [← h2, h1, fracsR, List.getElem?_append_right (by rw [fracsR_len]; exact Nat.le_refl _), fracsR_len, Nat.sub_self]
 rfl
set_option maxHeartbeats 4000000 in
set_option maxRecDepth 100000 in
theorem draw_levels {L : Lb} {nm : ByteArray} {r : St} {n : Nat} {R : List Int} (hf : findR L nm = some r) (hn4 : n ≤ 400) (hok : LvN.okL r.K r.W r.T r.m r.f r.a r.s n = true) (hR : LvN.resL r.K r.W r.T r.m r.f r.a r.s n = R) (hRl : R.length = 6) (hR2 : ∀ i, 0 ≤ R.getD i 0 ∧ R.getD i 0 ≤ 1000000000000000000) (hR3 : (Lib.join (fracsR R 3) [32]).length ≤ 100000) (hl : L.1.length = L.2.length) (hn : L.1.length ≤ 6) (hW : ∀ q, WithC L nm q) (v : Value) (w : World) (h : LabAt w v L) (ht : Tabs w) :
  Calls Tryz.prog 89 #[v, .string ⟨#[108, 101, 118, 101, 108, 115]⟩, .string nm, .string (tx (Lib.decDigits n))] w fun e w' => ∃ v', e = .returned (.tuple #[v', .string (tx (joinR [32] (fracsR R 3))), .bool true]) ∧ LabAt w' v' (withR L nm r) ∧ Below w.heap.size w w' := by
 obtain ⟨ix, hix, xz0, xz1, xz2⟩ := info_parts infoT
 have HTk : Hid (∀ W, Calls Tryz.prog 11 #[.agg #[.int .i64 r.K, .int .i64 r.W, .int .i64 r.T, .int .i64 r.m, .int .i64 r.f, .int .i64 r.a, .int .i64 r.s], .int .i64 (n : Int)] W fun e w' => ∃ A6 c6, e = .returned (.tuple #[.slice A6 3 c6, .bool true]) ∧ MemF.OwnF w' W.heap.size (.slice A6 3 c6) 3 R ∧ Below W.heap.size W w') := Lib.hid fun W => (LpM.implLv_any r.K r.W r.T r.m r.f r.a r.s (n : Int) W).mono fun e w' hr => by
  have e3 : LvN.numL r.K r.W r.T r.m r.f r.a r.s n = 3 := by unfold LvN.numL; rw [if_pos hok]
  have hr' : MemF.FsRet (LvN.numL r.K r.W r.T r.m r.f r.a r.s n) (LvN.resL r.K r.W r.T r.m r.f r.a r.s n) (LvN.okL r.K r.W r.T r.m r.f r.a r.s n) W e w' := hr
  rw [e3, hR, hok] at hr'
  exact hr'
 have HXS := Lib.hid (And.intro hRl (And.intro hR2 hR3))
 obtain ⟨t, htt⟩ : ∃ t, t = tx (joinR [32] (fracsR R 3)) := ⟨_, rfl⟩
 have HTT := Lib.hid htt
 rw [← htt]
 obtain ⟨q, hq⟩ : ∃ q, q = r := ⟨_, rfl⟩
 have HQ : Hid (q = ⟨r.K, r.W, r.T, r.m, r.f, r.a, r.s⟩) := Lib.hid hq
 rw [show withR L nm r = withR L nm q by rw [hq]]
 clear hok hR hRl hR2 hR3 htt hq
 have hv0 := h
 obtain ⟨A, c, A', c', rfl, hx, hy, _⟩ := h
 obtain ⟨W2, hW2⟩ : ∃ W2, W2 = (w.alloc (.cells #[.slice A L.1.length c, .slice A' L.2.length c'] 53)).alloc (.cells #[.slice none 0 0, .slice none 0 0] 53) := ⟨_, rfl⟩
 have b2 : Below w.heap.size w W2 := by rw [hW2]; exact ((Below.refl _ _).alloc (Nat.le_refl _) _).alloc (by simp) _
 have KL : Hid (Blk.Blk W2 w.heap.size 53 #[.slice A L.1.length c, .slice A' L.2.length c']) := Lib.hid (by rw [hW2]; exact (Blk.Blk.new w _ _).alloc _)
 have KR : Hid (Blk.Blk W2 (w.heap.size + 1) 53 #[.slice none 0 0, .slice none 0 0]) := Lib.hid (by rw [hW2]; exact Blk.Blk.newAt _ _ (by simp))
 have HF := Lib.hid (find_ex L (.agg #[.slice A L.1.length c, .slice A' L.2.length c']) nm W2 (hv0.below b2) hl hn)
 have HB := Lib.hid b2
 have HW := Lib.hid hW2
 have HV := Lib.hid hv0
 rw [hf] at HF
 have HRd := Lib.hid (fun W (hb : Below w.heap.size w W) => readN (n := n) (by omega) W (ht.on hb))
 have HWC := Lib.hid hW
 have HTB := Lib.hid ht
 clear hv0 hx hy hW2 b2 ht hl hf hW
 generalize tx (Lib.decDigits n) = wd at *
 obtain ⟨K, W, T, m, f, a, s⟩ := r
 dsimp only at *
 go_enter Tryz.func89, Tryz.ntmps89
 go_wp2_with fail
 rw [← HW.out]
 refine HF.out.mono ?_
 rintro e w1 ⟨r0, rfl, hr0, b1⟩
 obtain rfl := hr0 _ rfl
 have KL1 := Lib.hid (KL.out.belowS b1)
 have KR1 := Lib.hid (KR.out.belowS b1)
 have HB1 := Lib.hid (Base.Below.nextA HB.out b1)
 clear b1 KL KR HB HF HW hr0
 unfold St.val
 dsimp only
 obtain ⟨W3, hW3⟩ : ∃ W3, W3 = w1.alloc (.cells #[.int .i64 K, .int .i64 W, .int .i64 T, .int .i64 m, .int .i64 f, .int .i64 a, .int .i64 s] 29) := ⟨_, rfl⟩
 have b3 : Below w1.heap.size w1 W3 := by rw [hW3]; exact (Below.refl _ _).alloc (Nat.le_refl _) _
 have HW3 := Lib.hid hW3
 have KS3 : Hid (Blk.Blk W3 w1.heap.size 29 #[.int .i64 K, .int .i64 W, .int .i64 T, .int .i64 m, .int .i64 f, .int .i64 a, .int .i64 s]) := Lib.hid (by rw [hW3]; exact Blk.Blk.new _ _ _)
 have KL3 := Lib.hid (KL1.out.belowS b3)
 have KR3 := Lib.hid (KR1.out.belowS b3)
 have HB3 := Lib.hid (Base.Below.nextA HB1.out b3)
 have hk1 := KR1.out.lt
 clear b3 hW3 KL1 KR1 HB1
 go_wp2_with fail
 rw [← HW3.out]
 refine (HRd.out W3 HB3.out).mono ?_
 rintro e w4 ⟨rfl, b4⟩
 have KL4 := Lib.hid (KL3.out.belowS b4)
 have KR4 := Lib.hid (KR3.out.belowS b4)
 have KS4 := Lib.hid (KS3.out.belowS b4)
 have HB4 := Lib.hid (Base.Below.nextA HB3.out b4)
 have hk4 := KS4.out.lt
 clear b4 KL3 KR3 HB3 KS3 HW3 HRd
 go_wp2_with fail
 obtain ⟨S, hSE⟩ : ∃ S : World → Prop, S = fun w' => w'.cell? ⟨w1.heap.size, 0, none⟩ = some (.int .i64 K) ∧ w'.cell? ⟨w1.heap.size, 1, none⟩ = some (.int .i64 W) ∧ w'.cell? ⟨w1.heap.size, 2, none⟩ = some (.int .i64 T) ∧ w'.cell? ⟨w1.heap.size, 3, none⟩ = some (.int .i64 m) ∧ w'.cell? ⟨w1.heap.size, 4, none⟩ = some (.int .i64 f) ∧ w'.cell? ⟨w1.heap.size, 5, none⟩ = some (.int .i64 a) ∧ w'.cell? ⟨w1.heap.size, 6, none⟩ = some (.int .i64 s) := ⟨_, rfl⟩
 have HSE := Lib.hid hSE
 have HSA : Hid (∀ V, Blk.Blk V w1.heap.size 29 #[.int .i64 K, .int .i64 W, .int .i64 T, .int .i64 m, .int .i64 f, .int .i64 a, .int .i64 s] → S V) := Lib.hid (fun V h2 => by rw [hSE]; exact ⟨h2.at 0 rfl, h2.at 1 rfl, h2.at 2 rfl, h2.at 3 rfl, h2.at 4 rfl, h2.at 5 rfl, h2.at 6 rfl⟩)
 clear hSE
 refine Late.start S [3] 4 (by kernel_rfl) (HSA.out _ KS4.out) rfl (fun hS => ?_)
 refine Late.take (i := 0) (v := ?_) (by rfl) (by kernel_rfl) (by kernel_rfl) (by kernel_rfl) (by intro _ _ _ h; exact h) (by kernel_rfl) (by kernel_rfl) (Or.inl ⟨by rfl, ?_⟩) hS ?_
 rotate_left
 ·(intro W' hW'; rw [HSE.out] at hW'; obtain ⟨y0, y1, y2, y3, y4, y5, y6⟩ := hW'; go_simp; (try with_reducible rfl))
 try simp only [Act.put, List.setIfInBounds_toArray, List.set_cons_zero, List.set_cons_succ]
 refine Late.one (i := 1) (by kernel_rfl) (by rfl) (fun K' hK => ?_)
 go_simp
 refine hK.out _ _ (fun _ => HSA.out _ (KS4.out.alloc _)) (fun hS' => ?_)
 have hS := hS' (by decide)
 clear hS' hK
 clear K'
 try simp only [Act.put, List.setIfInBounds_toArray, List.set_cons_zero, List.set_cons_succ]
 refine Late.take (i := 2) (v := ?_) (by rfl) (by kernel_rfl) (by kernel_rfl) (by kernel_rfl) (by intro _ _ _ h; exact h) (by kernel_rfl) (by kernel_rfl) (Or.inl ⟨by rfl, ?_⟩) hS ?_
 rotate_left
 ·(intro W' hW'; rw [HSE.out] at hW'; obtain ⟨y0, y1, y2, y3, y4, y5, y6⟩ := hW'; go_simp; (try with_reducible rfl))
 try simp only [Act.put, List.setIfInBounds_toArray, List.set_cons_zero, List.set_cons_succ]
 refine Late.one (i := 3) (by kernel_rfl) (by rfl) (fun K' hK => ?_)
 go_simp
 refine hK.out _ _ (fun h => absurd h (by decide)) (fun _ => ?_)
 clear hK
 clear K'
 try simp only [Act.put, List.setIfInBounds_toArray, List.set_cons_zero, List.set_cons_succ]
 refine Late.done (by kernel_rfl) ?_ _
 clear HSA HSE
 obtain ⟨W5, hW5⟩ : ∃ W5, W5 = (w4.alloc (.cells #[.int .i64 K, .int .i64 W, .int .i64 T, .int .i64 m, .int .i64 f, .int .i64 a, .int .i64 s] 29)).drew := ⟨_, rfl⟩
 have b5 : Below w4.heap.size w4 W5 := by rw [hW5]; exact ((Below.refl _ _).alloc (Nat.le_refl _) _).drew
 have HW5 := Lib.hid hW5
 have KN5 : Hid (SBox W5 w4.heap.size K W T m f a s) := Lib.hid (by rw [hW5]; exact SBox.new w4 K W T m f a s)
 have KS5 := Lib.hid (KS4.out.belowS b5)
 have KL5 := Lib.hid (KL4.out.belowS b5)
 have KR5 := Lib.hid (KR4.out.belowS b5)
 have HB5 := Lib.hid (Base.Below.nextA HB4.out b5)
 have e0 := KS5.out.at 0 (v := .int .i64 K) rfl
 have e1 := KS5.out.at 1 (v := .int .i64 W) rfl
 have e2 := KS5.out.at 2 (v := .int .i64 T) rfl
 have e3 := KS5.out.at 3 (v := .int .i64 m) rfl
 have e4 := KS5.out.at 4 (v := .int .i64 f) rfl
 have e5 := KS5.out.at 5 (v := .int .i64 a) rfl
 have e6 := KS5.out.at 6 (v := .int .i64 s) rfl
 rw [hW5] at e0 e1 e2 e3 e4 e5 e6
 clear b5 hW5 KS4 KL4 KR4 HB4
 go_wp2_with fail
 rw [← HW5.out]
 refine (HTk.out W5).mono ?_
 rintro e w6 ⟨A6, c6, rfl, o6, hb6⟩
 have KN6 := Lib.hid (KN5.out.below hb6 KN5.out.lt)
 have KL6 := Lib.hid (KL5.out.belowS hb6)
 have KR6 := Lib.hid (KR5.out.belowS hb6)
 have HB6 := Lib.hid (Base.Below.nextA HB5.out hb6)
 have HO6 := Lib.hid o6
 have HT6 := Lib.hid (HTB.out.on HB6.out)
 have H0 := Lib.hid (PtRel.nil (fracsR R 3) w6)
 clear hb6 o6 KN5 KS5 KL5 KR5 HB5 HW5 HTk HTB e0 e1 e2 e3 e4 e5 e6
 go_wp2
 go_loopw [21, 55] (fun ov iv wr => ∃ i : Nat, i ≤ 3 ∧ iv = .int .i64 (i : Int) ∧ PtRel (fracsR R 3) w6 ov i wr) (fun _ iv _ => 3 - (intOf iv).toNat)
 case atStart => exact ⟨0, Nat.zero_le _, rfl, H0.out⟩
 case round =>
  obtain ⟨i, hi, rfl, HP⟩ := hrel
  obtain ⟨wo, rfl⟩ : ∃ x, x = wr := ⟨_, rfl⟩
  by_cases hlt : i < 3
  ·obtain ⟨b, off, rfl, hb2, hcc⟩ := ((MemF.OwnF.rd HO6.out).below HP.2.out (Nat.le_refl _)) (by omega)
   have g1 := hcc (2 * i) (by omega)
   have g2 := hcc (2 * i + 1) (by omega)
   obtain ⟨p, hp⟩ := Int.eq_ofNat_of_zero_le (HXS.out.2.1 (2 * i)).1
   obtain ⟨d, hd⟩ := Int.eq_ofNat_of_zero_le (HXS.out.2.1 (2 * i + 1)).1
   have hp2 := (HXS.out.2.1 (2 * i)).2
   have hd2 := (HXS.out.2.1 (2 * i + 1)).2
   have hmi := fracsR_get R hlt
   rw [hp] at g1 hp2 hmi
   rw [hd] at g2 hd2 hmi
   rw [Nat.mul_comm 2 i] at g1 g2
   rw [← Nat.add_assoc] at g2
   have bo := Base.Below.nextA (Below.refl w6.heap.size w6) HP.2.out
   obtain ⟨Wa, hWa⟩ : ∃ Wa, Wa = wo.alloc (.cells #[.int .i64 (p : Int), .int .i64 (d : Int)] 49) := ⟨_, rfl⟩
   have ba : Below wo.heap.size wo Wa := by rw [hWa]; exact (Below.refl _ _).alloc (Nat.le_refl _) _
   have HD := Lib.hid (fracText_any p d (by omega) (by omega) Wa ((HT6.out.on HP.2.out).on ba))
   have HWa := Lib.hid hWa
   have HBA := Lib.hid ba
   have HPP := Lib.hid HP
   have HMI := Lib.hid hmi
   obtain ⟨A1, c1, e5⟩ := HP.form
   subst e5
   have hi3 : (i : Int) < 3 := by omega
   clear H0 HP hcc hmi hp hd hWa ba bo
   go_wp2_with fail
   rw [← HWa.out]
   refine HD.out.mono ?_
   rintro e w2 ⟨rfl, hb⟩
   have hb3 := Base.Below.nextA HBA.out hb
   have HW := Lib.hid (HPP.out.row hb3 (tx (fracR (p : Int) (d : Int))))
   have HB2 := Lib.hid hb3
   have hs2 := hb3.size
   have hs3 := HPP.out.2.out.size
   clear hb hb3 HD
   obtain ⟨dd, hdd⟩ : ∃ dd, dd = tx (fracR (p : Int) (d : Int)) := ⟨_, rfl⟩
   have HDD := Lib.hid hdd
   rw [← hdd] at HW ⊢
   clear hdd
   obtain ⟨Rw, hRw⟩ : ∃ R', R' = texts (((fracsR R 3).take i).map tx) := ⟨_, rfl⟩
   have HRW := Lib.hid hRw
   rw [← hRw] at HW
   clear hRw
   go_wp2_with (at_builtin; refine wpList_append_own_at _ rfl (.tmp 59) (.tmp 62) 50 rfl w6.heap.size 9 ix (.string ByteArray.empty) 1 16 Tryz.underlying50 hix xz0 xz1 xz2 rfl (by decide) _ _ _ rfl HW.out ⟨w2.heap.size, 0, none⟩ 1 1 [.string dd] rfl rfl ?p1a ?p2a ?p3a ?p4a ?p5a ?_)
   try case p1a => exact news_one _ _ _ (by simp)
   try case p2a => first | rfl | (intro u hu; simp at hu; subst hu; rfl)
   try case p3a => first | (simp only [maxLen]; omega) | omega
   try case p4a => omega
   try case p5a => first | (simp only [World.size_alloc]; omega) | omega
   intro v' w3 hown' hg' _ he
   rw [HRW.out, HDD.out] at hown'
   rw [HDD.out] at hg'
   have HN := Lib.hid (HPP.out.next HMI.out HB2.out hown' hg')
   clear hown' hg' he
   go_wp2
   go_roundw
   case rel => exact ⟨i + 1, by omega, by simp, HN.out⟩
   case measure => simp [intOf]; omega
  ·obtain rfl : i = 3 := by omega
   obtain ⟨A1, c1, e5⟩ := HP.form
   subst e5
   have hrow := HP.1.out
   rw [show (fracsR R 3).take 3 = fracsR R 3 from fracsR_take R 3 3 (Nat.le_refl _)] at hrow
   have HJ := Lib.hid (join_own (B := w6.heap.size) (c := c1) (A := A1) (ls := fracsR R 3) [32] (by rw [fracsR_len]; exact hrow) (by rw [fracsR_len]; omega) (by rw [fracsR_len]; omega) HXS.out.2.2)
   rw [fracsR_len] at HJ
   have KN7 := Lib.hid (KN6.out.below HP.2.out KN6.out.lt)
   have KL7 := Lib.hid (KL6.out.belowS HP.2.out)
   have KR7 := Lib.hid (KR6.out.belowS HP.2.out)
   have HB7 := Lib.hid (Base.Below.nextA HB6.out HP.2.out)
   clear H0 HP HXS hrow KN6 KL6 KR6 HB6 HO6
   go_wp2_with fail
   refine HJ.out.mono ?_
   rintro e w9 ⟨rfl, b9⟩
   rw [show tx (Lib.join (fracsR R 3) [32]) = t from HTT.out.symm]
   have KL9 := Lib.hid (KL7.out.belowS b9)
   have KR9 := Lib.hid (KR7.out.belowS b9)
   have HB9 := Lib.hid (Base.Below.nextA HB7.out b9)
   have S9 := KN7.out.below b9 KN7.out.lt
   have c0 := KL9.out.at 0 (v := .slice A L.1.length c) rfl
   have c1' := KL9.out.at 1 (v := .slice A' L.2.length c') rfl
   have y0 := (S9).c0; have y1 := (S9).c1; have y2 := (S9).c2; have y3 := (S9).c3; have y4 := (S9).c4; have y5 := (S9).c5; have y6 := (S9).c6
   clear b9 S9 HJ KL7 KR7 HB7 KN7
   have HC := Lib.hid (HWC.out q (.agg #[.slice A L.1.length c, .slice A' L.2.length c']) w9 (HV.out.below HB9.out))
   rw [HQ.out] at HC
   unfold St.val at HC
   dsimp only at HC
   rw [← HQ.out] at HC
   clear HWC HV
   go_wp2_with fail
   refine HC.out.mono ?_
   rintro e w8 ⟨v8, rfl, hv8, b8⟩
   have hv9 := hv8
   obtain ⟨A7, c7, A8, c8, rfl, _, _⟩ := hv8
   have KR8 := KR9.out.belowS b8
   have HB8 := Base.Below.nextA HB9.out b8
   have hk8 := KR8.lt
   have r0 := KR8.at 0 (v := .slice none 0 0) rfl
   have r1 := KR8.at 1 (v := .slice none 0 0) rfl
   have f0 := KR8.frz 0
   have f1 := KR8.frz 1
   have KK := ((KR8.setTo 0 (.slice A7 (withR L nm q).1.length c7) rfl).setTo 1 (.slice A8 (withR L nm q).2.length c8) rfl).alloc (.cells #[.slice A7 (withR L nm q).1.length c7, .slice A8 (withR L nm q).2.length c8] 53)
   have k0 := KK.at 0 (v := .slice A7 (withR L nm q).1.length c7) rfl
   have k1 := KK.at 1 (v := .slice A8 (withR L nm q).2.length c8) rfl
   have hvf := (ownPut hv9 (b := w.heap.size + 1) (by have := KR9.out.lt; omega) (.slice A7 (withR L nm q).1.length c7) (.slice A8 (withR L nm q).2.length c8)).at.below ((Below.refl _ _).alloc (Nat.le_refl _) (.cells #[.slice A7 (withR L nm q).1.length c7, .slice A8 (withR L nm q).2.length c8] 53))
   have HFIN := Lib.hid (And.intro hvf (((HB8.setCell (p := ⟨w.heap.size + 1, 0, none⟩) (Nat.le_succ _) (.slice A7 (withR L nm q).1.length c7)).setCell (p := ⟨w.heap.size + 1, 1, none⟩) (Nat.le_succ _) (.slice A8 (withR L nm q).2.length c8)).alloc (by have := HB8.size; simp; omega) (.cells #[.slice A7 (withR L nm q).1.length c7, .slice A8 (withR L nm q).2.length c8] 53)))
   clear hv9 KR8 HB8 KK hvf b8 HC KL9 KR9 HB9 c0 c1' y0 y1 y2 y3 y4 y5 y6
   go_wp2
   refine bodyPost_ret (v := .tuple #[.agg #[.slice A7 (withR L nm q).1.length c7, .slice A8 (withR L nm q).2.length c8], .string t, .bool true]) (by simp [results, Tryz.results89, go_sem, k0, k1]) rfl ?_
   exact ⟨_, rfl, HFIN.out.1, HFIN.out.2⟩
end Go.Proofs.YtgipnbeipfhekaaGreatDoor.LcG

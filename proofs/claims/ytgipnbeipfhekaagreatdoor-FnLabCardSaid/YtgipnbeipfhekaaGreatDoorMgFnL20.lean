/- The commands of a lab: a stream and a number, every case. -/
import Derived.Test.YtgipnbeipfhekaaGreatDoorMgFnL19
import Derived.Test.YtgipnbeipfhekaaGreatDoorMgFnL17
import Derived.Test.YtgipnbeipfhekaaGreatDoorMgFnL10
import Derived.Test.YtgipnbeipfhekaaGreatDoorMgFnL00
set_option linter.unusedVariables false
set_option linter.unusedSimpArgs false
set_option maxRecDepth 100000
set_option maxHeartbeats 8000000
namespace Go.Proofs.YtgipnbeipfhekaaGreatDoor
namespace LcG
open Go.RowKit Base Mem MemS LabM LabV StM Str StTx Dec Val Rd CarM LcA LcC Take Face
theorem join_nil (A : Option Addr) (c : Nat) (sep : ByteArray) (w : World) : Calls Tryz.prog 144 #[.slice A 0 c, .string sep] w fun e w' => e = .returned (.string ⟨#[]⟩) ∧ w = w' := by
 go_enter Tryz.func144, Tryz.ntmps144
 go_wp2
 go_ret
 exact ⟨rfl, rfl⟩
theorem join_any {w : World} {B c : Nat} {A : Option Addr} {ls : List (List UInt8)} (sep : List UInt8) (hO : w.ownsRow B 9 1 (.slice A ls.length c) ls.length (texts (ls.map tx))) (hn : ls.length ≤ 1000) (hlen : (Lib.join ls sep).length ≤ 100000) :
  Calls Tryz.prog 144 #[.slice A ls.length c, .string (tx sep)] w fun e w' => e = .returned (.string (tx (Lib.join ls sep))) ∧ Below w.heap.size w w' := by
 by_cases h0 : 0 < ls.length
 ·exact join_own sep hO h0 hn hlen
 ·have : ls = [] := List.eq_nil_of_length_eq_zero (by omega)
  subst this
  refine (join_nil A c (tx sep) w).mono ?_
  rintro e w' ⟨rfl, rfl⟩
  exact ⟨rfl, Below.refl _ _⟩
inductive MidR (r : St) (n : Int) (c : Tx) (t : ByteArray) (q : St) (ok : Bool) : Prop
 | bits1 (h0 : ok = true) (hc : c = wBits) (he : ¬ t.toList = []) (hM : ∀ W, Calls Tryz.prog 9 #[.agg #[.int .i64 r.K, .int .i64 r.W, .int .i64 r.T, .int .i64 r.m, .int .i64 r.f, .int .i64 r.a, .int .i64 r.s], .int .i64 n] W fun e w' => e = .returned (.tuple #[.string t, .agg #[.int .i64 q.K, .int .i64 q.W, .int .i64 q.T, .int .i64 q.m, .int .i64 q.f, .int .i64 q.a, .int .i64 q.s], .bool true]) ∧ Below W.heap.size W w')
 | bits0 (hc : c = wBits) (ht : t = ⟨#[110, 111, 110, 101]⟩) (hM : ∀ W, Calls Tryz.prog 9 #[.agg #[.int .i64 r.K, .int .i64 r.W, .int .i64 r.T, .int .i64 r.m, .int .i64 r.f, .int .i64 r.a, .int .i64 r.s], .int .i64 n] W fun e w' => e = .returned (.tuple #[.string ⟨#[]⟩, .agg #[.int .i64 q.K, .int .i64 q.W, .int .i64 q.T, .int .i64 q.m, .int .i64 q.f, .int .i64 q.a, .int .i64 q.s], .bool ok]) ∧ Below W.heap.size W w')
 | skip (hc : c = wSkip) (ht : t = ⟨#[111, 107]⟩) (hM : ∀ W, Calls Tryz.prog 10 #[.agg #[.int .i64 r.K, .int .i64 r.W, .int .i64 r.T, .int .i64 r.m, .int .i64 r.f, .int .i64 r.a, .int .i64 r.s], .int .i64 n] W fun e w' => e = .returned (.tuple #[.agg #[.int .i64 q.K, .int .i64 q.W, .int .i64 q.T, .int .i64 q.m, .int .i64 q.f, .int .i64 q.a, .int .i64 q.s], .bool ok]) ∧ Below W.heap.size W w')
 | roll (xs : List Int) (hc : c = wRoll) (ht : t = tx (listR xs)) (hx1 : xs.length ≤ 40) (hx2 : ∀ x ∈ xs, 0 ≤ x ∧ x ≤ 1000000000000000000) (hx3 : (Lib.join (xs.map decI) [44]).length ≤ 100000) (hM : ∀ W, Calls Tryz.prog 13 #[.agg #[.int .i64 r.K, .int .i64 r.W, .int .i64 r.T, .int .i64 r.m, .int .i64 r.f, .int .i64 r.a, .int .i64 r.s], .int .i64 n, .int .i64 1] W fun e w' => ∃ A6 c6, e = .returned (.tuple #[.slice A6 xs.length c6, .agg #[.int .i64 q.K, .int .i64 q.W, .int .i64 q.T, .int .i64 q.m, .int .i64 q.f, .int .i64 q.a, .int .i64 q.s], .bool ok]) ∧ OwnI w' W.heap.size (.slice A6 xs.length c6) xs ∧ Below W.heap.size W w')
 | cards (xs : List Int) (hc : c = wCards) (ht : t = tx (listR xs)) (hx1 : xs.length ≤ 40) (hx2 : ∀ x ∈ xs, 0 ≤ x ∧ x ≤ 1000000000000000000) (hx3 : (Lib.join (xs.map decI) [44]).length ≤ 100000) (hM : ∀ W, Calls Tryz.prog 143 #[.agg #[.int .i64 r.K, .int .i64 r.W, .int .i64 r.T, .int .i64 r.m, .int .i64 r.f, .int .i64 r.a, .int .i64 r.s], .int .i64 n] W fun e w' => ∃ A6 c6, e = .returned (.tuple #[.slice A6 xs.length c6, .agg #[.int .i64 q.K, .int .i64 q.W, .int .i64 q.T, .int .i64 q.m, .int .i64 q.f, .int .i64 q.a, .int .i64 q.s], .bool ok]) ∧ OwnI w' W.heap.size (.slice A6 xs.length c6) xs ∧ Below W.heap.size W w')
 | levels (N : Nat) (R : List Int) (hc : c = wLevels) (hq : q = r) (hN : N ≤ 3) (ht : t = tx (joinR [32] (fracsR R N))) (hR2 : ∀ i, 0 ≤ R.getD i 0 ∧ R.getD i 0 ≤ 1000000000000000000) (hR3 : (Lib.join (fracsR R N) [32]).length ≤ 100000) (hM : ∀ W, Calls Tryz.prog 11 #[.agg #[.int .i64 r.K, .int .i64 r.W, .int .i64 r.T, .int .i64 r.m, .int .i64 r.f, .int .i64 r.a, .int .i64 r.s], .int .i64 n] W fun e w' => ∃ A6 c6, e = .returned (.tuple #[.slice A6 N c6, .bool ok]) ∧ MemF.OwnF w' W.heap.size (.slice A6 N c6) N R ∧ Below W.heap.size W w')
theorem draw_yes {L : Lb} {c0 : Tx} {nm wd t : ByteArray} {r q : St} {n : Int} (hm : MidR r n c0 t q true) (hf : findR L nm = some r) (hl : L.1.length = L.2.length) (hn : L.1.length ≤ 6) (hW : ∀ q, WithC L nm q) (hRd : ∀ W, Tabs W → Calls Tryz.prog 141 #[.string wd] W fun e w' => e = .returned (.tuple #[.int .i64 n, .bool true]) ∧ Below W.heap.size W w') (v : Value) (w : World) (h : LabAt w v L) (ht : Tabs w) :
  Calls Tryz.prog 89 #[v, .string (tx c0), .string nm, .string wd] w fun e w' => ∃ v', e = .returned (.tuple #[v', .string t, .bool true]) ∧ LabAt w' v' (withR L nm q) ∧ Below w.heap.size w w' := by
 obtain ⟨ix, hix, xz0, xz1, xz2⟩ := info_parts infoT
 have hv0 := h
 obtain ⟨A, c, A', c', rfl, hx, hy, _⟩ := h
 obtain ⟨W2, hW2⟩ : ∃ W2, W2 = (w.alloc (.cells #[.slice A L.1.length c, .slice A' L.2.length c'] 53)).alloc (.cells #[.slice none 0 0, .slice none 0 0] 53) := ⟨_, rfl⟩
 have b2 : Below w.heap.size w W2 := by rw [hW2]; exact ((Below.refl _ _).alloc (Nat.le_refl _) _).alloc (by simp) _
 have KL : Hid (Blk.Blk W2 w.heap.size 53 #[.slice A L.1.length c, .slice A' L.2.length c']) := J (by rw [hW2]; exact (Blk.Blk.new w _ _).alloc _)
 have KR : Hid (Blk.Blk W2 (w.heap.size + 1) 53 #[.slice none 0 0, .slice none 0 0]) := J (by rw [hW2]; exact Blk.Blk.newAt _ _ (by simp))
 have HF := J (find_ex L (.agg #[.slice A L.1.length c, .slice A' L.2.length c']) nm W2 (hv0.below b2) hl hn)
 have HB := J b2
 have HW := J hW2
 have HV := J hv0
 rw [hf] at HF
 have HRd := J (fun W (hb : Below w.heap.size w W) => hRd W (ht.on hb))
 have HWC := J hW
 have HTB := J ht
 clear hv0 hx hy hW2 b2 ht hl hf hW hRd
 rcases hm with ⟨h0, hc, he, hM⟩ | ⟨hc, htt, hM⟩ | ⟨hc, htt, hM⟩ | ⟨xs, hc, htt, hx1, hx2, hx3, hM⟩ | ⟨xs, hc, htt, hx1, hx2, hx3, hM⟩ | ⟨N, R, hc, hq, hN, htt, hR2, hR3, hM⟩
 subst hc
 rw [show tx wBits = (⟨#[98, 105, 116, 115]⟩ : ByteArray) from rfl]
 obtain ⟨t0, ht0⟩ : ∃ t0, t = t0 := ⟨_, rfl⟩
 have HTT := J ht0
 rw [ht0] at hM he
 have HE := J he
 clear he h0 ht0
 obtain ⟨K, W, T, m, f, a, s⟩ := r
 dsimp only at *
 have HM := J hM
 clear hM
 rotate_left
 subst hc
 rw [show tx wBits = (⟨#[98, 105, 116, 115]⟩ : ByteArray) from rfl]
 have HTT := J htt
 clear htt
 obtain ⟨K, W, T, m, f, a, s⟩ := r
 dsimp only at *
 have HM := J hM
 clear hM
 rotate_left
 subst hc
 rw [show tx wSkip = (⟨#[115, 107, 105, 112]⟩ : ByteArray) from rfl]
 have HTT := J htt
 clear htt
 obtain ⟨K, W, T, m, f, a, s⟩ := r
 dsimp only at *
 have HM := J hM
 clear hM
 rotate_left
 subst hc
 rw [show tx wRoll = (⟨#[114, 111, 108, 108]⟩ : ByteArray) from rfl]
 have HXS := J (And.intro hx1 (And.intro hx2 hx3))
 have HTT := J htt
 clear htt hx1 hx2 hx3
 obtain ⟨K, W, T, m, f, a, s⟩ := r
 dsimp only at *
 have HM := J hM
 clear hM
 rotate_left
 subst hc
 rw [show tx wCards = (⟨#[99, 97, 114, 100, 115]⟩ : ByteArray) from rfl]
 have HXS := J (And.intro hx1 (And.intro hx2 hx3))
 have HTT := J htt
 clear htt hx1 hx2 hx3
 obtain ⟨K, W, T, m, f, a, s⟩ := r
 dsimp only at *
 have HM := J hM
 clear hM
 rotate_left
 subst hc
 rw [show tx wLevels = (⟨#[108, 101, 118, 101, 108, 115]⟩ : ByteArray) from rfl]
 have HXS := J (And.intro hN (And.intro hR2 hR3))
 have HTT := J htt
 clear htt hN hR2 hR3
 subst hq
 obtain ⟨K, W, T, m, f, a, s⟩ := q
 dsimp only at *
 have HM := J hM
 clear hM
 rotate_left
 all_goals
  go_enter Tryz.func89, Tryz.ntmps89
  go_wp2_with fail
  rw [← HW.out]
  refine HF.out.mono ?_
  rintro e w1 ⟨r0, rfl, hr0, b1⟩
  obtain rfl := hr0 _ rfl
  have KL1 := J (KL.out.belowS b1)
  have KR1 := J (KR.out.belowS b1)
  have HB1 := J (Base.Below.nextA HB.out b1)
  clear b1 KL KR HB HF HW hr0
  unfold St.val
  dsimp only
  obtain ⟨W3, hW3⟩ : ∃ W3, W3 = w1.alloc (.cells #[.int .i64 K, .int .i64 W, .int .i64 T, .int .i64 m, .int .i64 f, .int .i64 a, .int .i64 s] 29) := ⟨_, rfl⟩
  have b3 : Below w1.heap.size w1 W3 := by rw [hW3]; exact (Below.refl _ _).alloc (Nat.le_refl _) _
  have HW3 := J hW3
  have KS3 : Hid (Blk.Blk W3 w1.heap.size 29 #[.int .i64 K, .int .i64 W, .int .i64 T, .int .i64 m, .int .i64 f, .int .i64 a, .int .i64 s]) := J (by rw [hW3]; exact Blk.Blk.new _ _ _)
  have KL3 := J (KL1.out.belowS b3)
  have KR3 := J (KR1.out.belowS b3)
  have HB3 := J (Base.Below.nextA HB1.out b3)
  have hk1 := KR1.out.lt
  clear b3 hW3 KL1 KR1 HB1
  go_wp2_with fail
  rw [← HW3.out]
  refine (HRd.out W3 HB3.out).mono ?_
  rintro e w4 ⟨rfl, b4⟩
  have KL4 := J (KL3.out.belowS b4)
  have KR4 := J (KR3.out.belowS b4)
  have KS4 := J (KS3.out.belowS b4)
  have HB4 := J (Base.Below.nextA HB3.out b4)
  have hk4 := KS4.out.lt
  clear b4 KL3 KR3 HB3 KS3 HW3 HRd
  go_wp2_with fail
  obtain ⟨S, hSE⟩ : ∃ S : World → Prop, S = fun w' => w'.cell? ⟨w1.heap.size, 0, none⟩ = some (.int .i64 K) ∧ w'.cell? ⟨w1.heap.size, 1, none⟩ = some (.int .i64 W) ∧ w'.cell? ⟨w1.heap.size, 2, none⟩ = some (.int .i64 T) ∧ w'.cell? ⟨w1.heap.size, 3, none⟩ = some (.int .i64 m) ∧ w'.cell? ⟨w1.heap.size, 4, none⟩ = some (.int .i64 f) ∧ w'.cell? ⟨w1.heap.size, 5, none⟩ = some (.int .i64 a) ∧ w'.cell? ⟨w1.heap.size, 6, none⟩ = some (.int .i64 s) := ⟨_, rfl⟩
  have HSE := J hSE
  have HSA : Hid (∀ V, Blk.Blk V w1.heap.size 29 #[.int .i64 K, .int .i64 W, .int .i64 T, .int .i64 m, .int .i64 f, .int .i64 a, .int .i64 s] → S V) := J (fun V h2 => by rw [hSE]; exact ⟨h2.at 0 rfl, h2.at 1 rfl, h2.at 2 rfl, h2.at 3 rfl, h2.at 4 rfl, h2.at 5 rfl, h2.at 6 rfl⟩)
  clear hSE
  refine Late.start S [3] 4 (by kernel_rfl) (HSA.out _ KS4.out) rfl (fun hS => ?_)
  refine Late.take (i := 0) (v := ?_) (by rfl) (by kernel_rfl) (by kernel_rfl) (by kernel_rfl) (by intro _ _ _ h; exact h) (by kernel_rfl) (by kernel_rfl) (Or.inl ⟨by rfl, ?_⟩) hS ?_
  rotate_left
  ·(intro W' hW'; rw [HSE.out] at hW'; obtain ⟨y0, y1, y2, y3, y4, y5, y6⟩ := hW'; go_simp; (try with_reducible rfl))
  try simp only [Act.put, List.setIfInBounds_toArray, List.set_cons_zero, List.set_cons_succ]
  refine Late.one (i := 1) (by kernel_rfl) (by rfl) (fun K' hK => ?_)
  go_simp
  refine hK.out _ _ (fun _ => HSA.out _ (KS4.out.alloc _)) (fun hS' => ?_)
  have hS := hS' (by decide)
  clear hS' hK
  clear K'
  try simp only [Act.put, List.setIfInBounds_toArray, List.set_cons_zero, List.set_cons_succ]
  refine Late.take (i := 2) (v := ?_) (by rfl) (by kernel_rfl) (by kernel_rfl) (by kernel_rfl) (by intro _ _ _ h; exact h) (by kernel_rfl) (by kernel_rfl) (Or.inl ⟨by rfl, ?_⟩) hS ?_
  rotate_left
  ·(intro W' hW'; rw [HSE.out] at hW'; obtain ⟨y0, y1, y2, y3, y4, y5, y6⟩ := hW'; go_simp; (try with_reducible rfl))
  try simp only [Act.put, List.setIfInBounds_toArray, List.set_cons_zero, List.set_cons_succ]
  refine Late.one (i := 3) (by kernel_rfl) (by rfl) (fun K' hK => ?_)
  go_simp
  refine hK.out _ _ (fun h => absurd h (by decide)) (fun _ => ?_)
  clear hK
  clear K'
  try simp only [Act.put, List.setIfInBounds_toArray, List.set_cons_zero, List.set_cons_succ]
  refine Late.done (by kernel_rfl) ?_ _
  clear HSA HSE
  obtain ⟨W5, hW5⟩ : ∃ W5, W5 = (w4.alloc (.cells #[.int .i64 K, .int .i64 W, .int .i64 T, .int .i64 m, .int .i64 f, .int .i64 a, .int .i64 s] 29)).drew := ⟨_, rfl⟩
  have b5 : Below w4.heap.size w4 W5 := by rw [hW5]; exact ((Below.refl _ _).alloc (Nat.le_refl _) _).drew
  have HW5 := J hW5
  have KN5 : Hid (SBox W5 w4.heap.size K W T m f a s) := J (by rw [hW5]; exact SBox.new w4 K W T m f a s)
  have KS5 := J (KS4.out.belowS b5)
  have KL5 := J (KL4.out.belowS b5)
  have KR5 := J (KR4.out.belowS b5)
  have HB5 := J (Base.Below.nextA HB4.out b5)
  have e0 := KS5.out.at 0 (v := .int .i64 K) rfl
  have e1 := KS5.out.at 1 (v := .int .i64 W) rfl
  have e2 := KS5.out.at 2 (v := .int .i64 T) rfl
  have e3 := KS5.out.at 3 (v := .int .i64 m) rfl
  have e4 := KS5.out.at 4 (v := .int .i64 f) rfl
  have e5 := KS5.out.at 5 (v := .int .i64 a) rfl
  have e6 := KS5.out.at 6 (v := .int .i64 s) rfl
  rw [hW5] at e0 e1 e2 e3 e4 e5 e6
  clear b5 hW5 KS4 KL4 KR4 HB4
 go_wp2_with fail
 rw [← HW5.out]
 refine (HM.out W5).mono ?_
 rintro e w6 ⟨rfl, hb6⟩
 have KN6 := KN5.out.below hb6 KN5.out.lt
 have KL6 := KL5.out.belowS hb6
 have KR6 := KR5.out.belowS hb6
 have HB6 := Base.Below.nextA HB5.out hb6
 have hz5 : w4.heap.size < W5.heap.size := KN5.out.lt
 have S8 := KN6.set7 q.K q.W q.T q.m q.f q.a q.s
 have x0 := (KN6).c0; have x1 := (KN6).c1; have x2 := (KN6).c2; have x3 := (KN6).c3; have x4 := (KN6).c4; have x5 := (KN6).c5; have x6 := (KN6).c6
 have z0 := (KN6).frz 0; have z1 := (KN6).frz 1; have z2 := (KN6).frz 2; have z3 := (KN6).frz 3; have z4 := (KN6).frz 4; have z5 := (KN6).frz 5; have z6 := (KN6).frz 6
 obtain ⟨WX, hWX⟩ : ∃ WX, WX = set7 w6 w4.heap.size q.K q.W q.T q.m q.f q.a q.s := ⟨_, rfl⟩
 rw [← hWX] at S8
 have gs : w6.grownBy WX (some w4.heap.size) := by rw [hWX]; exact Take.grown_set7 _ _ _ _ _ _ _ _ _
 have hk5 := KN5.out.lt
 have KL9 := J (KL6.kept gs (fun e => by injection e with e; omega))
 have KR9 := J (KR6.kept gs (fun e => by injection e with e; omega))
 have HB9 := J (HB6.trans (grown_below (B := w.heap.size) gs (fun q e => by injection e with e; omega) (by have := HB6.size; omega)))
 have HWX := J hWX
 unfold set7 at HWX
 have htl := HE.out
 have htl2 : (t0.toList == []) = false := beq_eq_false_iff_ne.2 htl
 have c0 := KL9.out.at 0 (v := .slice A L.1.length c) rfl
 have c1 := KL9.out.at 1 (v := .slice A' L.2.length c') rfl
 have y0 := (S8).c0; have y1 := (S8).c1; have y2 := (S8).c2; have y3 := (S8).c3; have y4 := (S8).c4; have y5 := (S8).c5; have y6 := (S8).c6
 rw [HWX.out] at c0 c1 y0 y1 y2 y3 y4 y5 y6
 clear hb6 KN6 KL6 KR6 HB6 gs hWX KN5 KS5 KL5 KR5 HB5 HW5 HM S8
 rotate_left
 go_wp2_with fail
 rw [← HW5.out]
 refine (HM.out W5).mono ?_
 rintro e w6 ⟨rfl, hb6⟩
 have KN6 := KN5.out.below hb6 KN5.out.lt
 have KL6 := KL5.out.belowS hb6
 have KR6 := KR5.out.belowS hb6
 have HB6 := Base.Below.nextA HB5.out hb6
 have hz5 : w4.heap.size < W5.heap.size := KN5.out.lt
 have S8 := KN6.set7 q.K q.W q.T q.m q.f q.a q.s
 have x0 := (KN6).c0; have x1 := (KN6).c1; have x2 := (KN6).c2; have x3 := (KN6).c3; have x4 := (KN6).c4; have x5 := (KN6).c5; have x6 := (KN6).c6
 have z0 := (KN6).frz 0; have z1 := (KN6).frz 1; have z2 := (KN6).frz 2; have z3 := (KN6).frz 3; have z4 := (KN6).frz 4; have z5 := (KN6).frz 5; have z6 := (KN6).frz 6
 obtain ⟨WX, hWX⟩ : ∃ WX, WX = set7 w6 w4.heap.size q.K q.W q.T q.m q.f q.a q.s := ⟨_, rfl⟩
 rw [← hWX] at S8
 have gs : w6.grownBy WX (some w4.heap.size) := by rw [hWX]; exact Take.grown_set7 _ _ _ _ _ _ _ _ _
 have hk5 := KN5.out.lt
 have KL9 := J (KL6.kept gs (fun e => by injection e with e; omega))
 have KR9 := J (KR6.kept gs (fun e => by injection e with e; omega))
 have HB9 := J (HB6.trans (grown_below (B := w.heap.size) gs (fun q e => by injection e with e; omega) (by have := HB6.size; omega)))
 have HWX := J hWX
 unfold set7 at HWX
 have c0 := KL9.out.at 0 (v := .slice A L.1.length c) rfl
 have c1 := KL9.out.at 1 (v := .slice A' L.2.length c') rfl
 have y0 := (S8).c0; have y1 := (S8).c1; have y2 := (S8).c2; have y3 := (S8).c3; have y4 := (S8).c4; have y5 := (S8).c5; have y6 := (S8).c6
 rw [HWX.out] at c0 c1 y0 y1 y2 y3 y4 y5 y6
 clear hb6 KN6 KL6 KR6 HB6 gs hWX KN5 KS5 KL5 KR5 HB5 HW5 HM S8
 rotate_left
 go_wp2_with fail
 rw [← HW5.out]
 refine (HM.out W5).mono ?_
 rintro e w6 ⟨rfl, hb6⟩
 have KN6 := KN5.out.below hb6 KN5.out.lt
 have KL6 := KL5.out.belowS hb6
 have KR6 := KR5.out.belowS hb6
 have HB6 := Base.Below.nextA HB5.out hb6
 have hz5 : w4.heap.size < W5.heap.size := KN5.out.lt
 have S8 := KN6.set7 q.K q.W q.T q.m q.f q.a q.s
 have x0 := (KN6).c0; have x1 := (KN6).c1; have x2 := (KN6).c2; have x3 := (KN6).c3; have x4 := (KN6).c4; have x5 := (KN6).c5; have x6 := (KN6).c6
 have z0 := (KN6).frz 0; have z1 := (KN6).frz 1; have z2 := (KN6).frz 2; have z3 := (KN6).frz 3; have z4 := (KN6).frz 4; have z5 := (KN6).frz 5; have z6 := (KN6).frz 6
 obtain ⟨WX, hWX⟩ : ∃ WX, WX = set7 w6 w4.heap.size q.K q.W q.T q.m q.f q.a q.s := ⟨_, rfl⟩
 rw [← hWX] at S8
 have gs : w6.grownBy WX (some w4.heap.size) := by rw [hWX]; exact Take.grown_set7 _ _ _ _ _ _ _ _ _
 have hk5 := KN5.out.lt
 have KL9 := J (KL6.kept gs (fun e => by injection e with e; omega))
 have KR9 := J (KR6.kept gs (fun e => by injection e with e; omega))
 have HB9 := J (HB6.trans (grown_below (B := w.heap.size) gs (fun q e => by injection e with e; omega) (by have := HB6.size; omega)))
 have HWX := J hWX
 unfold set7 at HWX
 have c0 := KL9.out.at 0 (v := .slice A L.1.length c) rfl
 have c1 := KL9.out.at 1 (v := .slice A' L.2.length c') rfl
 have y0 := (S8).c0; have y1 := (S8).c1; have y2 := (S8).c2; have y3 := (S8).c3; have y4 := (S8).c4; have y5 := (S8).c5; have y6 := (S8).c6
 rw [HWX.out] at c0 c1 y0 y1 y2 y3 y4 y5 y6
 clear hb6 KN6 KL6 KR6 HB6 gs hWX KN5 KS5 KL5 KR5 HB5 HW5 HM S8
 rotate_left
 go_wp2_with fail
 rw [← HW5.out]
 refine (HM.out W5).mono ?_
 rintro e w6 ⟨A6, c6, rfl, o6, hb6⟩
 have KN6 := KN5.out.below hb6 KN5.out.lt
 have KL6 := KL5.out.belowS hb6
 have KR6 := KR5.out.belowS hb6
 have HB6 := Base.Below.nextA HB5.out hb6
 have hz5 : w4.heap.size < W5.heap.size := KN5.out.lt
 have S8 := KN6.set7 q.K q.W q.T q.m q.f q.a q.s
 have x0 := (KN6).c0; have x1 := (KN6).c1; have x2 := (KN6).c2; have x3 := (KN6).c3; have x4 := (KN6).c4; have x5 := (KN6).c5; have x6 := (KN6).c6
 have z0 := (KN6).frz 0; have z1 := (KN6).frz 1; have z2 := (KN6).frz 2; have z3 := (KN6).frz 3; have z4 := (KN6).frz 4; have z5 := (KN6).frz 5; have z6 := (KN6).frz 6
 obtain ⟨W7, hW7⟩ : ∃ W7, W7 = set7 w6 w4.heap.size q.K q.W q.T q.m q.f q.a q.s := ⟨_, rfl⟩
 rw [← hW7] at S8
 have gs : w6.grownBy W7 (some w4.heap.size) := by rw [hW7]; exact Take.grown_set7 _ _ _ _ _ _ _ _ _
 have hk5 := KN5.out.lt
 have KL7 := J (KL6.kept gs (fun e => by injection e with e; omega))
 have KR7 := J (KR6.kept gs (fun e => by injection e with e; omega))
 have HB7 := J (HB6.trans (grown_below (B := w.heap.size) gs (fun q e => by injection e with e; omega) (by have := HB6.size; omega)))
 have HW7 := J hW7
 unfold set7 at HW7
 have HO7 := J (World.ownsRow.kept o6 gs (.inr fun e => by obtain ⟨_, _, k1, _⟩ := ownsRow_block o6 e; omega))
 have HT7 := HTB.out.on HB7.out
 have HLT := J (listText_any A6 c6 W7.heap.size xs W7 (OwnI.rd HO7.out) (Nat.le_refl _) HXS.out.1 HXS.out.2.1 HXS.out.2.2 HT7)
 have HS8 := J S8
 clear hb6 o6 KN6 KL6 KR6 HB6 S8 gs hW7 KN5 KS5 KL5 KR5 HB5 HW5 HT7 HM
 go_wp2_with fail
 rw [← HW7.out]
 refine HLT.out.mono ?_
 rintro e w9 ⟨rfl, b9⟩
 obtain ⟨WX, rfl⟩ : ∃ WX, WX = w9 := ⟨_, rfl⟩
 have HWX := J (rfl : WX = WX)
 have KL9 := J (KL7.out.belowS b9)
 have KR9 := J (KR7.out.belowS b9)
 have HB9 := J (Base.Below.nextA HB7.out b9)
 have S8 := HS8.out.below b9 HS8.out.lt
 have c0 := KL9.out.at 0 (v := .slice A L.1.length c) rfl
 have c1 := KL9.out.at 1 (v := .slice A' L.2.length c') rfl
 have y0 := (S8).c0; have y1 := (S8).c1; have y2 := (S8).c2; have y3 := (S8).c3; have y4 := (S8).c4; have y5 := (S8).c5; have y6 := (S8).c6
 clear b9 HLT HW7 KL7 KR7 HB7 HS8 HO7 x0 x1 x2 x3 x4 x5 x6 z0 z1 z2 z3 z4 z5 z6 S8
 rotate_left
 go_wp2_with fail
 rw [← HW5.out]
 refine (HM.out W5).mono ?_
 rintro e w6 ⟨A6, c6, rfl, o6, hb6⟩
 have KN6 := KN5.out.below hb6 KN5.out.lt
 have KL6 := KL5.out.belowS hb6
 have KR6 := KR5.out.belowS hb6
 have HB6 := Base.Below.nextA HB5.out hb6
 have hz5 : w4.heap.size < W5.heap.size := KN5.out.lt
 have S8 := KN6.set7 q.K q.W q.T q.m q.f q.a q.s
 have x0 := (KN6).c0; have x1 := (KN6).c1; have x2 := (KN6).c2; have x3 := (KN6).c3; have x4 := (KN6).c4; have x5 := (KN6).c5; have x6 := (KN6).c6
 have z0 := (KN6).frz 0; have z1 := (KN6).frz 1; have z2 := (KN6).frz 2; have z3 := (KN6).frz 3; have z4 := (KN6).frz 4; have z5 := (KN6).frz 5; have z6 := (KN6).frz 6
 obtain ⟨W7, hW7⟩ : ∃ W7, W7 = set7 w6 w4.heap.size q.K q.W q.T q.m q.f q.a q.s := ⟨_, rfl⟩
 rw [← hW7] at S8
 have gs : w6.grownBy W7 (some w4.heap.size) := by rw [hW7]; exact Take.grown_set7 _ _ _ _ _ _ _ _ _
 have hk5 := KN5.out.lt
 have KL7 := J (KL6.kept gs (fun e => by injection e with e; omega))
 have KR7 := J (KR6.kept gs (fun e => by injection e with e; omega))
 have HB7 := J (HB6.trans (grown_below (B := w.heap.size) gs (fun q e => by injection e with e; omega) (by have := HB6.size; omega)))
 have HW7 := J hW7
 unfold set7 at HW7
 have HO7 := J (World.ownsRow.kept o6 gs (.inr fun e => by obtain ⟨_, _, k1, _⟩ := ownsRow_block o6 e; omega))
 have HT7 := HTB.out.on HB7.out
 have HLT := J (listText_any A6 c6 W7.heap.size xs W7 (OwnI.rd HO7.out) (Nat.le_refl _) HXS.out.1 HXS.out.2.1 HXS.out.2.2 HT7)
 have HS8 := J S8
 clear hb6 o6 KN6 KL6 KR6 HB6 S8 gs hW7 KN5 KS5 KL5 KR5 HB5 HW5 HT7 HM
 go_wp2_with fail
 rw [← HW7.out]
 refine HLT.out.mono ?_
 rintro e w9 ⟨rfl, b9⟩
 obtain ⟨WX, rfl⟩ : ∃ WX, WX = w9 := ⟨_, rfl⟩
 have HWX := J (rfl : WX = WX)
 have KL9 := J (KL7.out.belowS b9)
 have KR9 := J (KR7.out.belowS b9)
 have HB9 := J (Base.Below.nextA HB7.out b9)
 have S8 := HS8.out.below b9 HS8.out.lt
 have c0 := KL9.out.at 0 (v := .slice A L.1.length c) rfl
 have c1 := KL9.out.at 1 (v := .slice A' L.2.length c') rfl
 have y0 := (S8).c0; have y1 := (S8).c1; have y2 := (S8).c2; have y3 := (S8).c3; have y4 := (S8).c4; have y5 := (S8).c5; have y6 := (S8).c6
 clear b9 HLT HW7 KL7 KR7 HB7 HS8 HO7 x0 x1 x2 x3 x4 x5 x6 z0 z1 z2 z3 z4 z5 z6 S8
 rotate_left
 ·go_wp2_with fail
  rw [← HW5.out]
  refine (HM.out W5).mono ?_
  rintro e w6 ⟨A6, c6, rfl, o6, hb6⟩
  have KN6 := J (KN5.out.below hb6 KN5.out.lt)
  have KL6 := J (KL5.out.belowS hb6)
  have KR6 := J (KR5.out.belowS hb6)
  have HB6 := J (Base.Below.nextA HB5.out hb6)
  have HO6 := J o6
  have HT6 := J (HTB.out.on HB6.out)
  have H0 := J (PtRel.nil (fracsR R N) w6)
  clear hb6 o6 KN5 KS5 KL5 KR5 HB5 HW5 HM HTB e0 e1 e2 e3 e4 e5 e6
  go_wp2
  go_loopw [21, 55] (fun ov iv wr => ∃ i : Nat, i ≤ N ∧ iv = .int .i64 (i : Int) ∧ PtRel (fracsR R N) w6 ov i wr) (fun _ iv _ => N - (intOf iv).toNat)
  case atStart => exact ⟨0, Nat.zero_le _, rfl, H0.out⟩
  case round =>
   obtain ⟨i, hi, rfl, HP⟩ := hrel
   obtain ⟨wo, rfl⟩ : ∃ x, x = wr := ⟨_, rfl⟩
   have hN3 := HXS.out.1
   by_cases hlt : i < N
   ·obtain ⟨b, off, rfl, hb2, hcc⟩ := ((MemF.OwnF.rd HO6.out).below HP.2.out (Nat.le_refl _)) (by omega)
    have g1 := hcc (2 * i) (by omega)
    have g2 := hcc (2 * i + 1) (by omega)
    obtain ⟨p, hp⟩ := Int.eq_ofNat_of_zero_le (HXS.out.2.1 (2 * i)).1
    obtain ⟨d, hd⟩ := Int.eq_ofNat_of_zero_le (HXS.out.2.1 (2 * i + 1)).1
    have hp2 := (HXS.out.2.1 (2 * i)).2
    have hd2 := (HXS.out.2.1 (2 * i + 1)).2
    have hmi := fracsR_get R hlt
    rw [hp] at g1 hp2 hmi
    rw [hd] at g2 hd2 hmi
    rw [Nat.mul_comm 2 i] at g1 g2
    rw [← Nat.add_assoc] at g2
    have bo := Base.Below.nextA (Below.refl w6.heap.size w6) HP.2.out
    obtain ⟨Wa, hWa⟩ : ∃ Wa, Wa = wo.alloc (.cells #[.int .i64 (p : Int), .int .i64 (d : Int)] 49) := ⟨_, rfl⟩
    have ba : Below wo.heap.size wo Wa := by rw [hWa]; exact (Below.refl _ _).alloc (Nat.le_refl _) _
    have HD := J (fracText_any p d (by omega) (by omega) Wa ((HT6.out.on HP.2.out).on ba))
    have HWa := J hWa
    have HBA := J ba
    have HPP := J HP
    have HMI := J hmi
    obtain ⟨A1, c1, e5⟩ := HP.form
    subst e5
    have hi3 : (i : Int) < (N : Int) := by omega
    clear H0 HP hcc hmi hp hd hWa ba bo
    go_wp2_with fail
    rw [← HWa.out]
    refine HD.out.mono ?_
    rintro e w2 ⟨rfl, hb⟩
    have hb3 := Base.Below.nextA HBA.out hb
    have HW := J (HPP.out.row hb3 (tx (fracR (p : Int) (d : Int))))
    have HB2 := J hb3
    have hs2 := hb3.size
    have hs3 := HPP.out.2.out.size
    clear hb hb3 HD
    obtain ⟨dd, hdd⟩ : ∃ dd, dd = tx (fracR (p : Int) (d : Int)) := ⟨_, rfl⟩
    have HDD := J hdd
    rw [← hdd] at HW ⊢
    clear hdd
    obtain ⟨Rw, hRw⟩ : ∃ R', R' = texts (((fracsR R N).take i).map tx) := ⟨_, rfl⟩
    have HRW := J hRw
    rw [← hRw] at HW
    clear hRw
    have hi4 : i ≤ 3 := by omega
    go_wp2_with (at_builtin; refine wpList_append_own_at _ rfl (.tmp 59) (.tmp 62) 50 rfl w6.heap.size 9 ix (.string ByteArray.empty) 1 16 Tryz.underlying50 hix xz0 xz1 xz2 rfl (by decide) _ _ _ rfl HW.out ⟨w2.heap.size, 0, none⟩ 1 1 [.string dd] rfl rfl ?p1a ?p2a ?p3a ?p4a ?p5a ?_)
    try case p1a => exact news_one _ _ _ (by simp)
    try case p2a => first | rfl | (intro u hu; simp at hu; subst hu; rfl)
    try case p3a => first | (simp only [maxLen]; omega) | omega
    try case p4a => omega
    try case p5a => first | (simp only [World.size_alloc]; omega) | omega
    intro v' w3 hown' hg' _ he
    rw [HRW.out, HDD.out] at hown'
    rw [HDD.out] at hg'
    have HN := J (HPP.out.next HMI.out HB2.out hown' hg')
    clear hown' hg' he
    go_wp2
    go_roundw
    case rel => exact ⟨i + 1, by omega, by simp, HN.out⟩
    case measure => simp [intOf]; omega
   ·obtain rfl : i = N := by omega
    obtain ⟨A1, c1, e5⟩ := HP.form
    subst e5
    have hrow := HP.1.out
    rw [show (fracsR R i).take i = fracsR R i from fracsR_take R i i (Nat.le_refl _)] at hrow
    have HJ := J (join_any (B := w6.heap.size) (c := c1) (A := A1) (ls := fracsR R i) [32] (by rw [fracsR_len]; exact hrow) (by rw [fracsR_len]; omega) HXS.out.2.2)
    rw [fracsR_len] at HJ
    have KN7 := J (KN6.out.below HP.2.out KN6.out.lt)
    have KL7 := J (KL6.out.belowS HP.2.out)
    have KR7 := J (KR6.out.belowS HP.2.out)
    have HB7 := J (Base.Below.nextA HB6.out HP.2.out)
    clear H0 HP HXS hrow KN6 KL6 KR6 HB6 HO6
    go_wp2_with fail
    refine HJ.out.mono ?_
    rintro e w9 ⟨rfl, b9⟩
    rw [show tx (Lib.join (fracsR R i) [32]) = t from HTT.out.symm]
    obtain ⟨WX, rfl⟩ : ∃ WX, WX = w9 := ⟨_, rfl⟩
    have HWX := J (rfl : WX = WX)
    have KL9 := J (KL7.out.belowS b9)
    have KR9 := J (KR7.out.belowS b9)
    have HB9 := J (Base.Below.nextA HB7.out b9)
    have S8 := KN7.out.below b9 KN7.out.lt
    have c0 := KL9.out.at 0 (v := .slice A L.1.length c) rfl
    have c1 := KL9.out.at 1 (v := .slice A' L.2.length c') rfl
    have y0 := (S8).c0; have y1 := (S8).c1; have y2 := (S8).c2; have y3 := (S8).c3; have y4 := (S8).c4; have y5 := (S8).c5; have y6 := (S8).c6
    clear b9 S8 HJ KL7 KR7 HB7 KN7
    have HC := J (HWC.out ⟨K, W, T, m, f, a, s⟩ (.agg #[.slice A L.1.length c, .slice A' L.2.length c']) WX (HV.out.below HB9.out))
    unfold St.val at HC
    dsimp only at HC
    clear HWC HV
    go_wp2_with fail
    (try rw [← HWX.out])
    refine HC.out.mono ?_
    rintro e w8 ⟨v8, rfl, hv8, b8⟩
    have hv9 := hv8
    obtain ⟨A7, c7, A8, c8, rfl, _, _⟩ := hv8
    have KR8 := KR9.out.belowS b8
    have HB8 := Base.Below.nextA HB9.out b8
    have hk8 := KR8.lt
    have r0 := KR8.at 0 (v := .slice none 0 0) rfl
    have r1 := KR8.at 1 (v := .slice none 0 0) rfl
    have f0 := KR8.frz 0
    have f1 := KR8.frz 1
    have KK := ((KR8.setTo 0 (.slice A7 (withR L nm ⟨K, W, T, m, f, a, s⟩).1.length c7) rfl).setTo 1 (.slice A8 (withR L nm ⟨K, W, T, m, f, a, s⟩).2.length c8) rfl).alloc (.cells #[.slice A7 (withR L nm ⟨K, W, T, m, f, a, s⟩).1.length c7, .slice A8 (withR L nm ⟨K, W, T, m, f, a, s⟩).2.length c8] 53)
    have k0 := KK.at 0 (v := .slice A7 (withR L nm ⟨K, W, T, m, f, a, s⟩).1.length c7) rfl
    have k1 := KK.at 1 (v := .slice A8 (withR L nm ⟨K, W, T, m, f, a, s⟩).2.length c8) rfl
    have hvf := (ownPut hv9 (b := w.heap.size + 1) (by have := KR9.out.lt; omega) (.slice A7 (withR L nm ⟨K, W, T, m, f, a, s⟩).1.length c7) (.slice A8 (withR L nm ⟨K, W, T, m, f, a, s⟩).2.length c8)).at.below ((Below.refl _ _).alloc (Nat.le_refl _) (.cells #[.slice A7 (withR L nm ⟨K, W, T, m, f, a, s⟩).1.length c7, .slice A8 (withR L nm ⟨K, W, T, m, f, a, s⟩).2.length c8] 53))
    have HFIN := J (And.intro hvf (((HB8.setCell (p := ⟨w.heap.size + 1, 0, none⟩) (Nat.le_succ _) (.slice A7 (withR L nm ⟨K, W, T, m, f, a, s⟩).1.length c7)).setCell (p := ⟨w.heap.size + 1, 1, none⟩) (Nat.le_succ _) (.slice A8 (withR L nm ⟨K, W, T, m, f, a, s⟩).2.length c8)).alloc (by have := HB8.size; simp; omega) (.cells #[.slice A7 (withR L nm ⟨K, W, T, m, f, a, s⟩).1.length c7, .slice A8 (withR L nm ⟨K, W, T, m, f, a, s⟩).2.length c8] 53)))
    clear hv9 KR8 HB8 KK hvf b8 HC KL9 KR9 HB9 c0 c1 y0 y1 y2 y3 y4 y5 y6
    go_wp2
    refine bodyPost_ret (v := .tuple #[.agg #[.slice A7 (withR L nm ⟨K, W, T, m, f, a, s⟩).1.length c7, .slice A8 (withR L nm ⟨K, W, T, m, f, a, s⟩).2.length c8], .string t, .bool true]) (by simp [results, Tryz.results89, go_sem, k0, k1]) rfl ?_
    exact ⟨_, rfl, HFIN.out.1, HFIN.out.2⟩
 all_goals
  have HC := J (HWC.out q (.agg #[.slice A L.1.length c, .slice A' L.2.length c']) WX (HV.out.below HB9.out))
  unfold St.val at HC
  clear HWC HV
  go_wp2_with fail
  (try rw [← HWX.out])
  refine HC.out.mono ?_
  rintro e w8 ⟨v8, rfl, hv8, b8⟩
  have hv9 := hv8
  obtain ⟨A7, c7, A8, c8, rfl, _, _⟩ := hv8
  have KR8 := KR9.out.belowS b8
  have HB8 := Base.Below.nextA HB9.out b8
  have hk8 := KR8.lt
  have r0 := KR8.at 0 (v := .slice none 0 0) rfl
  have r1 := KR8.at 1 (v := .slice none 0 0) rfl
  have f0 := KR8.frz 0
  have f1 := KR8.frz 1
  have KK := ((KR8.setTo 0 (.slice A7 (withR L nm q).1.length c7) rfl).setTo 1 (.slice A8 (withR L nm q).2.length c8) rfl).alloc (.cells #[.slice A7 (withR L nm q).1.length c7, .slice A8 (withR L nm q).2.length c8] 53)
  have k0 := KK.at 0 (v := .slice A7 (withR L nm q).1.length c7) rfl
  have k1 := KK.at 1 (v := .slice A8 (withR L nm q).2.length c8) rfl
  have hvf := (ownPut hv9 (b := w.heap.size + 1) (by have := KR9.out.lt; omega) (.slice A7 (withR L nm q).1.length c7) (.slice A8 (withR L nm q).2.length c8)).at.below ((Below.refl _ _).alloc (Nat.le_refl _) (.cells #[.slice A7 (withR L nm q).1.length c7, .slice A8 (withR L nm q).2.length c8] 53))
  have HFIN := J (And.intro hvf (((HB8.setCell (p := ⟨w.heap.size + 1, 0, none⟩) (Nat.le_succ _) (.slice A7 (withR L nm q).1.length c7)).setCell (p := ⟨w.heap.size + 1, 1, none⟩) (Nat.le_succ _) (.slice A8 (withR L nm q).2.length c8)).alloc (by have := HB8.size; simp; omega) (.cells #[.slice A7 (withR L nm q).1.length c7, .slice A8 (withR L nm q).2.length c8] 53)))
  clear hv9 KR8 HB8 KK hvf b8 HC KL9 KR9 HB9 c0 c1 y0 y1 y2 y3 y4 y5 y6
  go_wp2
  refine bodyPost_ret (v := .tuple #[.agg #[.slice A7 (withR L nm q).1.length c7, .slice A8 (withR L nm q).2.length c8], .string t, .bool true]) (by simp [results, Tryz.results89, go_sem, k0, k1, HTT.out]) rfl ?_
  exact ⟨_, rfl, HFIN.out.1, HFIN.out.2⟩
theorem draw_nay {L : Lb} {c0 : Tx} {nm wd t : ByteArray} {r q : St} {n : Int} (hm : MidR r n c0 t q false) (hf : findR L nm = some r) (hl : L.1.length = L.2.length) (hn : L.1.length ≤ 6) (hW : ∀ q, WithC L nm q) (hRd : ∀ W, Tabs W → Calls Tryz.prog 141 #[.string wd] W fun e w' => e = .returned (.tuple #[.int .i64 n, .bool true]) ∧ Below W.heap.size W w') (v : Value) (w : World) (h : LabAt w v L) (ht : Tabs w) :
  Calls Tryz.prog 89 #[v, .string (tx c0), .string nm, .string wd] w fun e w' => e = .returned (.tuple #[v, .string ⟨#[]⟩, .bool false]) ∧ Below w.heap.size w w' := by
 obtain ⟨ix, hix, xz0, xz1, xz2⟩ := info_parts infoT
 have hv0 := h
 obtain ⟨A, c, A', c', rfl, hx, hy, _⟩ := h
 obtain ⟨W2, hW2⟩ : ∃ W2, W2 = (w.alloc (.cells #[.slice A L.1.length c, .slice A' L.2.length c'] 53)).alloc (.cells #[.slice none 0 0, .slice none 0 0] 53) := ⟨_, rfl⟩
 have b2 : Below w.heap.size w W2 := by rw [hW2]; exact ((Below.refl _ _).alloc (Nat.le_refl _) _).alloc (by simp) _
 have KL : Hid (Blk.Blk W2 w.heap.size 53 #[.slice A L.1.length c, .slice A' L.2.length c']) := J (by rw [hW2]; exact (Blk.Blk.new w _ _).alloc _)
 have KR : Hid (Blk.Blk W2 (w.heap.size + 1) 53 #[.slice none 0 0, .slice none 0 0]) := J (by rw [hW2]; exact Blk.Blk.newAt _ _ (by simp))
 have HF := J (find_ex L (.agg #[.slice A L.1.length c, .slice A' L.2.length c']) nm W2 (hv0.below b2) hl hn)
 have HB := J b2
 have HW := J hW2
 have HV := J hv0
 rw [hf] at HF
 have HRd := J (fun W (hb : Below w.heap.size w W) => hRd W (ht.on hb))
 have HTB := J ht
 clear hv0 hx hy hW2 b2 ht hl hf hW hRd
 rcases hm with ⟨h0, hc, he, hM⟩ | ⟨hc, htt, hM⟩ | ⟨hc, htt, hM⟩ | ⟨xs, hc, htt, hx1, hx2, hx3, hM⟩ | ⟨xs, hc, htt, hx1, hx2, hx3, hM⟩ | ⟨N, R, hc, hq, hN, htt, hR2, hR3, hM⟩
 ·cases h0
 subst hc
 rw [show tx wBits = (⟨#[98, 105, 116, 115]⟩ : ByteArray) from rfl]
 have HTT := J htt
 clear htt
 obtain ⟨K, W, T, m, f, a, s⟩ := r
 dsimp only at *
 have HM := J hM
 clear hM
 rotate_left
 subst hc
 rw [show tx wSkip = (⟨#[115, 107, 105, 112]⟩ : ByteArray) from rfl]
 have HTT := J htt
 clear htt
 obtain ⟨K, W, T, m, f, a, s⟩ := r
 dsimp only at *
 have HM := J hM
 clear hM
 rotate_left
 subst hc
 rw [show tx wRoll = (⟨#[114, 111, 108, 108]⟩ : ByteArray) from rfl]
 have HXS := J (And.intro hx1 (And.intro hx2 hx3))
 have HTT := J htt
 clear htt hx1 hx2 hx3
 obtain ⟨K, W, T, m, f, a, s⟩ := r
 dsimp only at *
 have HM := J hM
 clear hM
 rotate_left
 subst hc
 rw [show tx wCards = (⟨#[99, 97, 114, 100, 115]⟩ : ByteArray) from rfl]
 have HXS := J (And.intro hx1 (And.intro hx2 hx3))
 have HTT := J htt
 clear htt hx1 hx2 hx3
 obtain ⟨K, W, T, m, f, a, s⟩ := r
 dsimp only at *
 have HM := J hM
 clear hM
 rotate_left
 subst hc
 rw [show tx wLevels = (⟨#[108, 101, 118, 101, 108, 115]⟩ : ByteArray) from rfl]
 have HXS := J (And.intro hN (And.intro hR2 hR3))
 have HTT := J htt
 clear htt hN hR2 hR3
 subst hq
 obtain ⟨K, W, T, m, f, a, s⟩ := q
 dsimp only at *
 have HM := J hM
 clear hM
 rotate_left
 all_goals
  go_enter Tryz.func89, Tryz.ntmps89
  go_wp2_with fail
  rw [← HW.out]
  refine HF.out.mono ?_
  rintro e w1 ⟨r0, rfl, hr0, b1⟩
  obtain rfl := hr0 _ rfl
  have KL1 := J (KL.out.belowS b1)
  have KR1 := J (KR.out.belowS b1)
  have HB1 := J (Base.Below.nextA HB.out b1)
  clear b1 KL KR HB HF HW hr0
  unfold St.val
  dsimp only
  obtain ⟨W3, hW3⟩ : ∃ W3, W3 = w1.alloc (.cells #[.int .i64 K, .int .i64 W, .int .i64 T, .int .i64 m, .int .i64 f, .int .i64 a, .int .i64 s] 29) := ⟨_, rfl⟩
  have b3 : Below w1.heap.size w1 W3 := by rw [hW3]; exact (Below.refl _ _).alloc (Nat.le_refl _) _
  have HW3 := J hW3
  have KS3 : Hid (Blk.Blk W3 w1.heap.size 29 #[.int .i64 K, .int .i64 W, .int .i64 T, .int .i64 m, .int .i64 f, .int .i64 a, .int .i64 s]) := J (by rw [hW3]; exact Blk.Blk.new _ _ _)
  have KL3 := J (KL1.out.belowS b3)
  have KR3 := J (KR1.out.belowS b3)
  have HB3 := J (Base.Below.nextA HB1.out b3)
  have hk1 := KR1.out.lt
  clear b3 hW3 KL1 KR1 HB1
  go_wp2_with fail
  rw [← HW3.out]
  refine (HRd.out W3 HB3.out).mono ?_
  rintro e w4 ⟨rfl, b4⟩
  have KL4 := J (KL3.out.belowS b4)
  have KR4 := J (KR3.out.belowS b4)
  have KS4 := J (KS3.out.belowS b4)
  have HB4 := J (Base.Below.nextA HB3.out b4)
  have hk4 := KS4.out.lt
  clear b4 KL3 KR3 HB3 KS3 HW3 HRd
  go_wp2_with fail
  obtain ⟨S, hSE⟩ : ∃ S : World → Prop, S = fun w' => w'.cell? ⟨w1.heap.size, 0, none⟩ = some (.int .i64 K) ∧ w'.cell? ⟨w1.heap.size, 1, none⟩ = some (.int .i64 W) ∧ w'.cell? ⟨w1.heap.size, 2, none⟩ = some (.int .i64 T) ∧ w'.cell? ⟨w1.heap.size, 3, none⟩ = some (.int .i64 m) ∧ w'.cell? ⟨w1.heap.size, 4, none⟩ = some (.int .i64 f) ∧ w'.cell? ⟨w1.heap.size, 5, none⟩ = some (.int .i64 a) ∧ w'.cell? ⟨w1.heap.size, 6, none⟩ = some (.int .i64 s) := ⟨_, rfl⟩
  have HSE := J hSE
  have HSA : Hid (∀ V, Blk.Blk V w1.heap.size 29 #[.int .i64 K, .int .i64 W, .int .i64 T, .int .i64 m, .int .i64 f, .int .i64 a, .int .i64 s] → S V) := J (fun V h2 => by rw [hSE]; exact ⟨h2.at 0 rfl, h2.at 1 rfl, h2.at 2 rfl, h2.at 3 rfl, h2.at 4 rfl, h2.at 5 rfl, h2.at 6 rfl⟩)
  clear hSE
  refine Late.start S [3] 4 (by kernel_rfl) (HSA.out _ KS4.out) rfl (fun hS => ?_)
  refine Late.take (i := 0) (v := ?_) (by rfl) (by kernel_rfl) (by kernel_rfl) (by kernel_rfl) (by intro _ _ _ h; exact h) (by kernel_rfl) (by kernel_rfl) (Or.inl ⟨by rfl, ?_⟩) hS ?_
  rotate_left
  ·(intro W' hW'; rw [HSE.out] at hW'; obtain ⟨y0, y1, y2, y3, y4, y5, y6⟩ := hW'; go_simp; (try with_reducible rfl))
  try simp only [Act.put, List.setIfInBounds_toArray, List.set_cons_zero, List.set_cons_succ]
  refine Late.one (i := 1) (by kernel_rfl) (by rfl) (fun K' hK => ?_)
  go_simp
  refine hK.out _ _ (fun _ => HSA.out _ (KS4.out.alloc _)) (fun hS' => ?_)
  have hS := hS' (by decide)
  clear hS' hK
  clear K'
  try simp only [Act.put, List.setIfInBounds_toArray, List.set_cons_zero, List.set_cons_succ]
  refine Late.take (i := 2) (v := ?_) (by rfl) (by kernel_rfl) (by kernel_rfl) (by kernel_rfl) (by intro _ _ _ h; exact h) (by kernel_rfl) (by kernel_rfl) (Or.inl ⟨by rfl, ?_⟩) hS ?_
  rotate_left
  ·(intro W' hW'; rw [HSE.out] at hW'; obtain ⟨y0, y1, y2, y3, y4, y5, y6⟩ := hW'; go_simp; (try with_reducible rfl))
  try simp only [Act.put, List.setIfInBounds_toArray, List.set_cons_zero, List.set_cons_succ]
  refine Late.one (i := 3) (by kernel_rfl) (by rfl) (fun K' hK => ?_)
  go_simp
  refine hK.out _ _ (fun h => absurd h (by decide)) (fun _ => ?_)
  clear hK
  clear K'
  try simp only [Act.put, List.setIfInBounds_toArray, List.set_cons_zero, List.set_cons_succ]
  refine Late.done (by kernel_rfl) ?_ _
  clear HSA HSE
  obtain ⟨W5, hW5⟩ : ∃ W5, W5 = (w4.alloc (.cells #[.int .i64 K, .int .i64 W, .int .i64 T, .int .i64 m, .int .i64 f, .int .i64 a, .int .i64 s] 29)).drew := ⟨_, rfl⟩
  have b5 : Below w4.heap.size w4 W5 := by rw [hW5]; exact ((Below.refl _ _).alloc (Nat.le_refl _) _).drew
  have HW5 := J hW5
  have KN5 : Hid (SBox W5 w4.heap.size K W T m f a s) := J (by rw [hW5]; exact SBox.new w4 K W T m f a s)
  have KS5 := J (KS4.out.belowS b5)
  have KL5 := J (KL4.out.belowS b5)
  have KR5 := J (KR4.out.belowS b5)
  have HB5 := J (Base.Below.nextA HB4.out b5)
  have e0 := KS5.out.at 0 (v := .int .i64 K) rfl
  have e1 := KS5.out.at 1 (v := .int .i64 W) rfl
  have e2 := KS5.out.at 2 (v := .int .i64 T) rfl
  have e3 := KS5.out.at 3 (v := .int .i64 m) rfl
  have e4 := KS5.out.at 4 (v := .int .i64 f) rfl
  have e5 := KS5.out.at 5 (v := .int .i64 a) rfl
  have e6 := KS5.out.at 6 (v := .int .i64 s) rfl
  rw [hW5] at e0 e1 e2 e3 e4 e5 e6
  clear b5 hW5 KS4 KL4 KR4 HB4
 go_wp2_with fail
 rw [← HW5.out]
 refine (HM.out W5).mono ?_
 rintro e w6 ⟨rfl, hb6⟩
 have KN6 := KN5.out.below hb6 KN5.out.lt
 have KL6 := KL5.out.belowS hb6
 have KR6 := KR5.out.belowS hb6
 have HB6 := Base.Below.nextA HB5.out hb6
 have hz5 : w4.heap.size < W5.heap.size := KN5.out.lt
 have S8 := KN6.set7 q.K q.W q.T q.m q.f q.a q.s
 have x0 := (KN6).c0; have x1 := (KN6).c1; have x2 := (KN6).c2; have x3 := (KN6).c3; have x4 := (KN6).c4; have x5 := (KN6).c5; have x6 := (KN6).c6
 have z0 := (KN6).frz 0; have z1 := (KN6).frz 1; have z2 := (KN6).frz 2; have z3 := (KN6).frz 3; have z4 := (KN6).frz 4; have z5 := (KN6).frz 5; have z6 := (KN6).frz 6
 obtain ⟨WX, hWX⟩ : ∃ WX, WX = set7 w6 w4.heap.size q.K q.W q.T q.m q.f q.a q.s := ⟨_, rfl⟩
 rw [← hWX] at S8
 have gs : w6.grownBy WX (some w4.heap.size) := by rw [hWX]; exact Take.grown_set7 _ _ _ _ _ _ _ _ _
 have hk5 := KN5.out.lt
 have KL9 := J (KL6.kept gs (fun e => by injection e with e; omega))
 have KR9 := J (KR6.kept gs (fun e => by injection e with e; omega))
 have HB9 := J (HB6.trans (grown_below (B := w.heap.size) gs (fun q e => by injection e with e; omega) (by have := HB6.size; omega)))
 have HWX := J hWX
 unfold set7 at HWX
 have c0 := KL9.out.at 0 (v := .slice A L.1.length c) rfl
 have c1 := KL9.out.at 1 (v := .slice A' L.2.length c') rfl
 have r0 := KR9.out.at 0 (v := .slice none 0 0) rfl
 have r1 := KR9.out.at 1 (v := .slice none 0 0) rfl
 have f0 := KR9.out.frz 0
 have f1 := KR9.out.frz 1
 rw [HWX.out] at c0 c1 r0 r1 f0 f1
 clear hb6 KN6 KL6 KR6 HB6 gs hWX KN5 KS5 KL5 KR5 HB5 HW5 HM S8
 rotate_left
 go_wp2_with fail
 rw [← HW5.out]
 refine (HM.out W5).mono ?_
 rintro e w6 ⟨rfl, hb6⟩
 have KN6 := KN5.out.below hb6 KN5.out.lt
 have KL6 := KL5.out.belowS hb6
 have KR6 := KR5.out.belowS hb6
 have HB6 := Base.Below.nextA HB5.out hb6
 have hz5 : w4.heap.size < W5.heap.size := KN5.out.lt
 have S8 := KN6.set7 q.K q.W q.T q.m q.f q.a q.s
 have x0 := (KN6).c0; have x1 := (KN6).c1; have x2 := (KN6).c2; have x3 := (KN6).c3; have x4 := (KN6).c4; have x5 := (KN6).c5; have x6 := (KN6).c6
 have z0 := (KN6).frz 0; have z1 := (KN6).frz 1; have z2 := (KN6).frz 2; have z3 := (KN6).frz 3; have z4 := (KN6).frz 4; have z5 := (KN6).frz 5; have z6 := (KN6).frz 6
 obtain ⟨WX, hWX⟩ : ∃ WX, WX = set7 w6 w4.heap.size q.K q.W q.T q.m q.f q.a q.s := ⟨_, rfl⟩
 rw [← hWX] at S8
 have gs : w6.grownBy WX (some w4.heap.size) := by rw [hWX]; exact Take.grown_set7 _ _ _ _ _ _ _ _ _
 have hk5 := KN5.out.lt
 have KL9 := J (KL6.kept gs (fun e => by injection e with e; omega))
 have KR9 := J (KR6.kept gs (fun e => by injection e with e; omega))
 have HB9 := J (HB6.trans (grown_below (B := w.heap.size) gs (fun q e => by injection e with e; omega) (by have := HB6.size; omega)))
 have HWX := J hWX
 unfold set7 at HWX
 have c0 := KL9.out.at 0 (v := .slice A L.1.length c) rfl
 have c1 := KL9.out.at 1 (v := .slice A' L.2.length c') rfl
 have r0 := KR9.out.at 0 (v := .slice none 0 0) rfl
 have r1 := KR9.out.at 1 (v := .slice none 0 0) rfl
 have f0 := KR9.out.frz 0
 have f1 := KR9.out.frz 1
 rw [HWX.out] at c0 c1 r0 r1 f0 f1
 clear hb6 KN6 KL6 KR6 HB6 gs hWX KN5 KS5 KL5 KR5 HB5 HW5 HM S8
 rotate_left
 go_wp2_with fail
 rw [← HW5.out]
 refine (HM.out W5).mono ?_
 rintro e w6 ⟨A6, c6, rfl, o6, hb6⟩
 have KN6 := KN5.out.below hb6 KN5.out.lt
 have KL6 := KL5.out.belowS hb6
 have KR6 := KR5.out.belowS hb6
 have HB6 := Base.Below.nextA HB5.out hb6
 have hz5 : w4.heap.size < W5.heap.size := KN5.out.lt
 have S8 := KN6.set7 q.K q.W q.T q.m q.f q.a q.s
 have x0 := (KN6).c0; have x1 := (KN6).c1; have x2 := (KN6).c2; have x3 := (KN6).c3; have x4 := (KN6).c4; have x5 := (KN6).c5; have x6 := (KN6).c6
 have z0 := (KN6).frz 0; have z1 := (KN6).frz 1; have z2 := (KN6).frz 2; have z3 := (KN6).frz 3; have z4 := (KN6).frz 4; have z5 := (KN6).frz 5; have z6 := (KN6).frz 6
 obtain ⟨W7, hW7⟩ : ∃ W7, W7 = set7 w6 w4.heap.size q.K q.W q.T q.m q.f q.a q.s := ⟨_, rfl⟩
 rw [← hW7] at S8
 have gs : w6.grownBy W7 (some w4.heap.size) := by rw [hW7]; exact Take.grown_set7 _ _ _ _ _ _ _ _ _
 have hk5 := KN5.out.lt
 have KL7 := J (KL6.kept gs (fun e => by injection e with e; omega))
 have KR7 := J (KR6.kept gs (fun e => by injection e with e; omega))
 have HB7 := J (HB6.trans (grown_below (B := w.heap.size) gs (fun q e => by injection e with e; omega) (by have := HB6.size; omega)))
 have HW7 := J hW7
 unfold set7 at HW7
 have HO7 := J (World.ownsRow.kept o6 gs (.inr fun e => by obtain ⟨_, _, k1, _⟩ := ownsRow_block o6 e; omega))
 have HT7 := HTB.out.on HB7.out
 have HLT := J (listText_any A6 c6 W7.heap.size xs W7 (OwnI.rd HO7.out) (Nat.le_refl _) HXS.out.1 HXS.out.2.1 HXS.out.2.2 HT7)
 have HS8 := J S8
 clear hb6 o6 KN6 KL6 KR6 HB6 S8 gs hW7 KN5 KS5 KL5 KR5 HB5 HW5 HT7 HM
 go_wp2_with fail
 rw [← HW7.out]
 refine HLT.out.mono ?_
 rintro e w9 ⟨rfl, b9⟩
 obtain ⟨WX, rfl⟩ : ∃ WX, WX = w9 := ⟨_, rfl⟩
 have HWX := J (rfl : WX = WX)
 have KL9 := J (KL7.out.belowS b9)
 have KR9 := J (KR7.out.belowS b9)
 have HB9 := J (Base.Below.nextA HB7.out b9)
 have S8 := HS8.out.below b9 HS8.out.lt
 have c0 := KL9.out.at 0 (v := .slice A L.1.length c) rfl
 have c1 := KL9.out.at 1 (v := .slice A' L.2.length c') rfl
 have r0 := KR9.out.at 0 (v := .slice none 0 0) rfl
 have r1 := KR9.out.at 1 (v := .slice none 0 0) rfl
 have f0 := KR9.out.frz 0
 have f1 := KR9.out.frz 1
 clear b9 HLT HW7 KL7 KR7 HB7 HS8 HO7 x0 x1 x2 x3 x4 x5 x6 z0 z1 z2 z3 z4 z5 z6 S8
 rotate_left
 go_wp2_with fail
 rw [← HW5.out]
 refine (HM.out W5).mono ?_
 rintro e w6 ⟨A6, c6, rfl, o6, hb6⟩
 have KN6 := KN5.out.below hb6 KN5.out.lt
 have KL6 := KL5.out.belowS hb6
 have KR6 := KR5.out.belowS hb6
 have HB6 := Base.Below.nextA HB5.out hb6
 have hz5 : w4.heap.size < W5.heap.size := KN5.out.lt
 have S8 := KN6.set7 q.K q.W q.T q.m q.f q.a q.s
 have x0 := (KN6).c0; have x1 := (KN6).c1; have x2 := (KN6).c2; have x3 := (KN6).c3; have x4 := (KN6).c4; have x5 := (KN6).c5; have x6 := (KN6).c6
 have z0 := (KN6).frz 0; have z1 := (KN6).frz 1; have z2 := (KN6).frz 2; have z3 := (KN6).frz 3; have z4 := (KN6).frz 4; have z5 := (KN6).frz 5; have z6 := (KN6).frz 6
 obtain ⟨W7, hW7⟩ : ∃ W7, W7 = set7 w6 w4.heap.size q.K q.W q.T q.m q.f q.a q.s := ⟨_, rfl⟩
 rw [← hW7] at S8
 have gs : w6.grownBy W7 (some w4.heap.size) := by rw [hW7]; exact Take.grown_set7 _ _ _ _ _ _ _ _ _
 have hk5 := KN5.out.lt
 have KL7 := J (KL6.kept gs (fun e => by injection e with e; omega))
 have KR7 := J (KR6.kept gs (fun e => by injection e with e; omega))
 have HB7 := J (HB6.trans (grown_below (B := w.heap.size) gs (fun q e => by injection e with e; omega) (by have := HB6.size; omega)))
 have HW7 := J hW7
 unfold set7 at HW7
 have HO7 := J (World.ownsRow.kept o6 gs (.inr fun e => by obtain ⟨_, _, k1, _⟩ := ownsRow_block o6 e; omega))
 have HT7 := HTB.out.on HB7.out
 have HLT := J (listText_any A6 c6 W7.heap.size xs W7 (OwnI.rd HO7.out) (Nat.le_refl _) HXS.out.1 HXS.out.2.1 HXS.out.2.2 HT7)
 have HS8 := J S8
 clear hb6 o6 KN6 KL6 KR6 HB6 S8 gs hW7 KN5 KS5 KL5 KR5 HB5 HW5 HT7 HM
 go_wp2_with fail
 rw [← HW7.out]
 refine HLT.out.mono ?_
 rintro e w9 ⟨rfl, b9⟩
 obtain ⟨WX, rfl⟩ : ∃ WX, WX = w9 := ⟨_, rfl⟩
 have HWX := J (rfl : WX = WX)
 have KL9 := J (KL7.out.belowS b9)
 have KR9 := J (KR7.out.belowS b9)
 have HB9 := J (Base.Below.nextA HB7.out b9)
 have S8 := HS8.out.below b9 HS8.out.lt
 have c0 := KL9.out.at 0 (v := .slice A L.1.length c) rfl
 have c1 := KL9.out.at 1 (v := .slice A' L.2.length c') rfl
 have r0 := KR9.out.at 0 (v := .slice none 0 0) rfl
 have r1 := KR9.out.at 1 (v := .slice none 0 0) rfl
 have f0 := KR9.out.frz 0
 have f1 := KR9.out.frz 1
 clear b9 HLT HW7 KL7 KR7 HB7 HS8 HO7 x0 x1 x2 x3 x4 x5 x6 z0 z1 z2 z3 z4 z5 z6 S8
 rotate_left
 ·go_wp2_with fail
  rw [← HW5.out]
  refine (HM.out W5).mono ?_
  rintro e w6 ⟨A6, c6, rfl, o6, hb6⟩
  have KN6 := J (KN5.out.below hb6 KN5.out.lt)
  have KL6 := J (KL5.out.belowS hb6)
  have KR6 := J (KR5.out.belowS hb6)
  have HB6 := J (Base.Below.nextA HB5.out hb6)
  have HO6 := J o6
  have HT6 := J (HTB.out.on HB6.out)
  have H0 := J (PtRel.nil (fracsR R N) w6)
  clear hb6 o6 KN5 KS5 KL5 KR5 HB5 HW5 HM HTB e0 e1 e2 e3 e4 e5 e6
  go_wp2
  go_loopw [21, 55] (fun ov iv wr => ∃ i : Nat, i ≤ N ∧ iv = .int .i64 (i : Int) ∧ PtRel (fracsR R N) w6 ov i wr) (fun _ iv _ => N - (intOf iv).toNat)
  case atStart => exact ⟨0, Nat.zero_le _, rfl, H0.out⟩
  case round =>
   obtain ⟨i, hi, rfl, HP⟩ := hrel
   obtain ⟨wo, rfl⟩ : ∃ x, x = wr := ⟨_, rfl⟩
   have hN3 := HXS.out.1
   by_cases hlt : i < N
   ·obtain ⟨b, off, rfl, hb2, hcc⟩ := ((MemF.OwnF.rd HO6.out).below HP.2.out (Nat.le_refl _)) (by omega)
    have g1 := hcc (2 * i) (by omega)
    have g2 := hcc (2 * i + 1) (by omega)
    obtain ⟨p, hp⟩ := Int.eq_ofNat_of_zero_le (HXS.out.2.1 (2 * i)).1
    obtain ⟨d, hd⟩ := Int.eq_ofNat_of_zero_le (HXS.out.2.1 (2 * i + 1)).1
    have hp2 := (HXS.out.2.1 (2 * i)).2
    have hd2 := (HXS.out.2.1 (2 * i + 1)).2
    have hmi := fracsR_get R hlt
    rw [hp] at g1 hp2 hmi
    rw [hd] at g2 hd2 hmi
    rw [Nat.mul_comm 2 i] at g1 g2
    rw [← Nat.add_assoc] at g2
    have bo := Base.Below.nextA (Below.refl w6.heap.size w6) HP.2.out
    obtain ⟨Wa, hWa⟩ : ∃ Wa, Wa = wo.alloc (.cells #[.int .i64 (p : Int), .int .i64 (d : Int)] 49) := ⟨_, rfl⟩
    have ba : Below wo.heap.size wo Wa := by rw [hWa]; exact (Below.refl _ _).alloc (Nat.le_refl _) _
    have HD := J (fracText_any p d (by omega) (by omega) Wa ((HT6.out.on HP.2.out).on ba))
    have HWa := J hWa
    have HBA := J ba
    have HPP := J HP
    have HMI := J hmi
    obtain ⟨A1, c1, e5⟩ := HP.form
    subst e5
    have hi3 : (i : Int) < (N : Int) := by omega
    clear H0 HP hcc hmi hp hd hWa ba bo
    go_wp2_with fail
    rw [← HWa.out]
    refine HD.out.mono ?_
    rintro e w2 ⟨rfl, hb⟩
    have hb3 := Base.Below.nextA HBA.out hb
    have HW := J (HPP.out.row hb3 (tx (fracR (p : Int) (d : Int))))
    have HB2 := J hb3
    have hs2 := hb3.size
    have hs3 := HPP.out.2.out.size
    clear hb hb3 HD
    obtain ⟨dd, hdd⟩ : ∃ dd, dd = tx (fracR (p : Int) (d : Int)) := ⟨_, rfl⟩
    have HDD := J hdd
    rw [← hdd] at HW ⊢
    clear hdd
    obtain ⟨Rw, hRw⟩ : ∃ R', R' = texts (((fracsR R N).take i).map tx) := ⟨_, rfl⟩
    have HRW := J hRw
    rw [← hRw] at HW
    clear hRw
    have hi4 : i ≤ 3 := by omega
    go_wp2_with (at_builtin; refine wpList_append_own_at _ rfl (.tmp 59) (.tmp 62) 50 rfl w6.heap.size 9 ix (.string ByteArray.empty) 1 16 Tryz.underlying50 hix xz0 xz1 xz2 rfl (by decide) _ _ _ rfl HW.out ⟨w2.heap.size, 0, none⟩ 1 1 [.string dd] rfl rfl ?p1a ?p2a ?p3a ?p4a ?p5a ?_)
    try case p1a => exact news_one _ _ _ (by simp)
    try case p2a => first | rfl | (intro u hu; simp at hu; subst hu; rfl)
    try case p3a => first | (simp only [maxLen]; omega) | omega
    try case p4a => omega
    try case p5a => first | (simp only [World.size_alloc]; omega) | omega
    intro v' w3 hown' hg' _ he
    rw [HRW.out, HDD.out] at hown'
    rw [HDD.out] at hg'
    have HN := J (HPP.out.next HMI.out HB2.out hown' hg')
    clear hown' hg' he
    go_wp2
    go_roundw
    case rel => exact ⟨i + 1, by omega, by simp, HN.out⟩
    case measure => simp [intOf]; omega
   ·obtain rfl : i = N := by omega
    obtain ⟨A1, c1, e5⟩ := HP.form
    subst e5
    have hrow := HP.1.out
    rw [show (fracsR R i).take i = fracsR R i from fracsR_take R i i (Nat.le_refl _)] at hrow
    have HJ := J (join_any (B := w6.heap.size) (c := c1) (A := A1) (ls := fracsR R i) [32] (by rw [fracsR_len]; exact hrow) (by rw [fracsR_len]; omega) HXS.out.2.2)
    rw [fracsR_len] at HJ
    have KN7 := J (KN6.out.below HP.2.out KN6.out.lt)
    have KL7 := J (KL6.out.belowS HP.2.out)
    have KR7 := J (KR6.out.belowS HP.2.out)
    have HB7 := J (Base.Below.nextA HB6.out HP.2.out)
    clear H0 HP HXS hrow KN6 KL6 KR6 HB6 HO6
    go_wp2_with fail
    refine HJ.out.mono ?_
    rintro e w9 ⟨rfl, b9⟩
    rw [show tx (Lib.join (fracsR R i) [32]) = t from HTT.out.symm]
    obtain ⟨WX, rfl⟩ : ∃ WX, WX = w9 := ⟨_, rfl⟩
    have HWX := J (rfl : WX = WX)
    have KL9 := J (KL7.out.belowS b9)
    have KR9 := J (KR7.out.belowS b9)
    have HB9 := J (Base.Below.nextA HB7.out b9)
    have S8 := KN7.out.below b9 KN7.out.lt
    have c0 := KL9.out.at 0 (v := .slice A L.1.length c) rfl
    have c1 := KL9.out.at 1 (v := .slice A' L.2.length c') rfl
    have r0 := KR9.out.at 0 (v := .slice none 0 0) rfl
    have r1 := KR9.out.at 1 (v := .slice none 0 0) rfl
    have f0 := KR9.out.frz 0
    have f1 := KR9.out.frz 1
    clear b9 S8 HJ KL7 KR7 HB7 KN7
    have KK := (KR9.out.setTo 0 (.slice A L.1.length c) rfl).setTo 1 (.slice A' L.2.length c') rfl
    have k0 := KK.at 0 (v := .slice A L.1.length c) rfl
    have k1 := KK.at 1 (v := .slice A' L.2.length c') rfl
    have HFIN := J ((HB9.out.setCell (p := ⟨w.heap.size + 1, 0, none⟩) (Nat.le_succ _) (.slice A L.1.length c)).setCell (p := ⟨w.heap.size + 1, 1, none⟩) (Nat.le_succ _) (.slice A' L.2.length c'))
    clear KK KL9 KR9 HB9
    go_wp2
    refine bodyPost_ret (v := .tuple #[.agg #[.slice A L.1.length c, .slice A' L.2.length c'], .string ⟨#[]⟩, .bool false]) (by simp [results, Tryz.results89, go_sem, k0, k1]) rfl ?_
    exact ⟨rfl, HFIN.out⟩
 all_goals
  have KK := (KR9.out.setTo 0 (.slice A L.1.length c) rfl).setTo 1 (.slice A' L.2.length c') rfl
  have k0 := KK.at 0 (v := .slice A L.1.length c) rfl
  have k1 := KK.at 1 (v := .slice A' L.2.length c') rfl
  have HFIN := J ((HB9.out.setCell (p := ⟨w.heap.size + 1, 0, none⟩) (Nat.le_succ _) (.slice A L.1.length c)).setCell (p := ⟨w.heap.size + 1, 1, none⟩) (Nat.le_succ _) (.slice A' L.2.length c'))
  (try rw [HWX.out] at k0 k1 HFIN)
  clear KK KL9 KR9 HB9
  go_wp2
  refine bodyPost_ret (v := .tuple #[.agg #[.slice A L.1.length c, .slice A' L.2.length c'], .string ⟨#[]⟩, .bool false]) (by simp [results, Tryz.results89, go_sem, k0, k1]) rfl ?_
  exact ⟨rfl, HFIN.out⟩
end LcG
namespace LcG
open Go.RowKit Base Mem MemS LabM LabV StM Str StTx Dec Val Rd CarM LcA LcC Take Face
theorem draw_fail {L : Lb} {nm wd c0 : ByteArray} (hd : findR L nm = none ∨ valO wd.data.toList = none) (hl : L.1.length = L.2.length) (hn : L.1.length ≤ 6) (hsz : wd.size ≤ 1048576) (v : Value) (w : World) (h : LabAt w v L) (ht : Tabs w) :
  Calls Tryz.prog 89 #[v, .string c0, .string nm, .string wd] w fun e w' => e = .returned (.tuple #[v, .string ⟨#[]⟩, .bool false]) ∧ Below w.heap.size w w' := by
 have hv0 := h
 obtain ⟨A, c, A', c', rfl, hx, hy, _⟩ := h
 obtain ⟨W2, hW2⟩ : ∃ W2, W2 = (w.alloc (.cells #[.slice A L.1.length c, .slice A' L.2.length c'] 53)).alloc (.cells #[.slice none 0 0, .slice none 0 0] 53) := ⟨_, rfl⟩
 have b2 : Below w.heap.size w W2 := by rw [hW2]; exact ((Below.refl _ _).alloc (Nat.le_refl _) _).alloc (by simp) _
 have KL : Hid (Blk.Blk W2 w.heap.size 53 #[.slice A L.1.length c, .slice A' L.2.length c']) := J (by rw [hW2]; exact (Blk.Blk.new w _ _).alloc _)
 have KR : Hid (Blk.Blk W2 (w.heap.size + 1) 53 #[.slice none 0 0, .slice none 0 0]) := J (by rw [hW2]; exact Blk.Blk.newAt _ _ (by simp))
 have HF := J (find_ex L (.agg #[.slice A L.1.length c, .slice A' L.2.length c']) nm W2 (hv0.below b2) hl hn)
 have HB := J b2
 have HW := J hW2
 have HV := J hv0
 have HTB := J ht
 have HRd : Hid (∀ W, Below w.heap.size w W → Calls Tryz.prog 141 #[.string wd] W (fun e w' => ∃ (x : Int) (b : Bool), e = .returned (.tuple #[.int .i64 x, .bool b]) ∧ ((findR L nm).isSome = true → b = false) ∧ Below W.heap.size W w')) := J (fun W hb => by
  refine (readDec_any wd hsz W.heap.size W (ht.on hb).1 (ht.on hb).2.1 (Nat.le_refl _)).mono ?_
  rintro e w' ⟨x, b, rfl, h1, h2, h3⟩
  refine ⟨x, b, rfl, fun hs => ?_, h3⟩
  rcases hd with hd | hd
  ·rw [hd] at hs; cases hs
  ·cases b with
   | false => rfl
   | true => rw [valO_yes (h1 rfl)] at hd; cases hd)
 have HTB := J ht
 clear hv0 hx hy hW2 b2 ht hl hd
 cases hf : findR L nm with
 | none =>
  rw [hf] at HF HRd
  dsimp only [Option.isSome] at HF
  clear hf HTB HV
  go_enter Tryz.func89, Tryz.ntmps89
  go_wp2_with fail
  rw [← HW.out]
  refine HF.out.mono ?_
  rintro e w1 ⟨r0, rfl, _, b1⟩
  have KL1 := J (KL.out.belowS b1)
  have KR1 := J (KR.out.belowS b1)
  have HB1 := J (Base.Below.nextA HB.out b1)
  clear b1 KL KR HB HF HW
  obtain ⟨K, W, T, m, f, a, s⟩ := r0
  unfold St.val
  dsimp only
  obtain ⟨W3, hW3⟩ : ∃ W3, W3 = w1.alloc (.cells #[.int .i64 K, .int .i64 W, .int .i64 T, .int .i64 m, .int .i64 f, .int .i64 a, .int .i64 s] 29) := ⟨_, rfl⟩
  have b3 : Below w1.heap.size w1 W3 := by rw [hW3]; exact (Below.refl _ _).alloc (Nat.le_refl _) _
  have HW3 := J hW3
  have KL3 := J (KL1.out.belowS b3)
  have KR3 := J (KR1.out.belowS b3)
  have HB3 := J (Base.Below.nextA HB1.out b3)
  clear b3 hW3 KL1 KR1 HB1
  go_wp2_with fail
  rw [← HW3.out]
  refine (HRd.out W3 HB3.out).mono ?_
  rintro e w4 ⟨x, b, rfl, hbf, b4⟩
  clear hbf
  have KL4 := KL3.out.belowS b4
  have KR4 := KR3.out.belowS b4
  have HB4 := Base.Below.nextA HB3.out b4
  have e0 := KL4.at 0 (v := .slice A L.1.length c) rfl
  have e1 := KL4.at 1 (v := .slice A' L.2.length c') rfl
  have r0 := KR4.at 0 (v := .slice none 0 0) rfl
  have r1 := KR4.at 1 (v := .slice none 0 0) rfl
  have f0 := KR4.frz 0
  have f1 := KR4.frz 1
  have KK := (KR4.setTo 0 (.slice A L.1.length c) rfl).setTo 1 (.slice A' L.2.length c') rfl
  have k0 := KK.at 0 (v := .slice A L.1.length c) rfl
  have k1 := KK.at 1 (v := .slice A' L.2.length c') rfl
  have HFIN := J ((HB4.setCell (p := ⟨w.heap.size + 1, 0, none⟩) (Nat.le_succ _) (.slice A L.1.length c)).setCell (p := ⟨w.heap.size + 1, 1, none⟩) (Nat.le_succ _) (.slice A' L.2.length c'))
  clear KK KL4 KR4 HB4 KL3 KR3 HB3 HW3 b4 HRd
  go_wp2
  refine bodyPost_ret (v := .tuple #[.agg #[.slice A L.1.length c, .slice A' L.2.length c'], .string ⟨#[]⟩, .bool false]) (by simp [results, Tryz.results89, go_sem, k0, k1]) rfl ?_
  exact ⟨rfl, HFIN.out⟩
 | some r =>
  rw [hf] at HF HRd
  clear hf HTB HV
  go_enter Tryz.func89, Tryz.ntmps89
  go_wp2_with fail
  rw [← HW.out]
  refine HF.out.mono ?_
  rintro e w1 ⟨r0, rfl, hr0, b1⟩
  obtain rfl := hr0 _ rfl
  have KL1 := J (KL.out.belowS b1)
  have KR1 := J (KR.out.belowS b1)
  have HB1 := J (Base.Below.nextA HB.out b1)
  clear b1 KL KR HB HF HW hr0
  obtain ⟨K, W, T, m, f, a, s⟩ := r0
  unfold St.val
  dsimp only
  obtain ⟨W3, hW3⟩ : ∃ W3, W3 = w1.alloc (.cells #[.int .i64 K, .int .i64 W, .int .i64 T, .int .i64 m, .int .i64 f, .int .i64 a, .int .i64 s] 29) := ⟨_, rfl⟩
  have b3 : Below w1.heap.size w1 W3 := by rw [hW3]; exact (Below.refl _ _).alloc (Nat.le_refl _) _
  have HW3 := J hW3
  have KL3 := J (KL1.out.belowS b3)
  have KR3 := J (KR1.out.belowS b3)
  have HB3 := J (Base.Below.nextA HB1.out b3)
  clear b3 hW3 KL1 KR1 HB1
  go_wp2_with fail
  rw [← HW3.out]
  refine (HRd.out W3 HB3.out).mono ?_
  rintro e w4 ⟨x, b, rfl, hbf, b4⟩
  obtain rfl := hbf rfl
  have KL4 := KL3.out.belowS b4
  have KR4 := KR3.out.belowS b4
  have HB4 := Base.Below.nextA HB3.out b4
  have e0 := KL4.at 0 (v := .slice A L.1.length c) rfl
  have e1 := KL4.at 1 (v := .slice A' L.2.length c') rfl
  have r0 := KR4.at 0 (v := .slice none 0 0) rfl
  have r1 := KR4.at 1 (v := .slice none 0 0) rfl
  have f0 := KR4.frz 0
  have f1 := KR4.frz 1
  have KK := (KR4.setTo 0 (.slice A L.1.length c) rfl).setTo 1 (.slice A' L.2.length c') rfl
  have k0 := KK.at 0 (v := .slice A L.1.length c) rfl
  have k1 := KK.at 1 (v := .slice A' L.2.length c') rfl
  have HFIN := J ((HB4.setCell (p := ⟨w.heap.size + 1, 0, none⟩) (Nat.le_succ _) (.slice A L.1.length c)).setCell (p := ⟨w.heap.size + 1, 1, none⟩) (Nat.le_succ _) (.slice A' L.2.length c'))
  clear KK KL4 KR4 HB4 KL3 KR3 HB3 HW3 b4 HRd
  go_wp2
  refine bodyPost_ret (v := .tuple #[.agg #[.slice A L.1.length c, .slice A' L.2.length c'], .string ⟨#[]⟩, .bool false]) (by simp [results, Tryz.results89, go_sem, k0, k1]) rfl ?_
  exact ⟨rfl, HFIN.out⟩
end LcG
end Go.Proofs.YtgipnbeipfhekaaGreatDoor

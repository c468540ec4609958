/- An order of things is one, as the program finds; the place of a number in a list. -/
import Derived.Test.YthagenodiofgnaaGreatDoorMgFnD22
import Derived.Test.YthagenodiofgnaaGreatDoorMgFnD09
import Derived.Shelf.SlIterI.Sorted
namespace Go.Proofs.YthagenodiofgnaaGreatDoor.SeqI
open Go.RowKit Go.Sort Go.Shelf Go.Proofs.YthagenodiofgnaaGreatDoor Go.Proofs.YthagenodiofgnaaGreatDoor.Base Go.Proofs.YthagenodiofgnaaGreatDoor.Mem Go.Proofs.YthagenodiofgnaaGreatDoor.AllIn
set_option linter.unusedVariables false
theorem values_any (A : Option Addr) (n c : Nat) (w : World) : Calls Tryz.prog 39 #[.slice A n c] w fun e w' => e = .returned (.func (.func 64) #[] #[.pointer (some ⟨w.heap.size, 0, none⟩)]) ∧ w' = w.alloc (.cells #[.slice A n c] 32) := by
 go_enter Tryz.func39, Tryz.ntmps39
 go_wp2
 go_ret
 exact ⟨rfl, rfl⟩
def SqRet (xs : List Int) (w : World) (e : Ending) (w' : World) : Prop := ∃ v, e = .returned v ∧ w'.ownsRow w.heap.size 2 1 v xs.length (ints xs) ∧ Below w.heap.size w w'
theorem collect_any (bx : Nat) (A : Option Addr) (c : Nat) (xs : List Int) (w : World) (hbox : w.cell? ⟨bx, 0, none⟩ = some (.slice A xs.length c)) (hbx : bx < w.heap.size) (hx : RdI w w.heap.size A xs) (hm : xs.length ≤ 1000) :
  Calls Tryz.prog 62 #[.func (.func 64) #[] #[.pointer (some ⟨bx, 0, none⟩)]] w (SqRet xs w) := by
 have HA := Lib.hid (callsIn_wide.1 (append_vals 0 bx A c xs w hbox hbx hx hm))
 clear hbox hx
 go_enter Tryz.func62, Tryz.ntmps62
 go_wp2_with fail
 refine HA.out.mono ?_
 rintro e w' ⟨v, rfl, ho, hb⟩
 have HO := Lib.hid ho
 have HB := Lib.hid hb
 clear ho hb
 go_wp2
 go_ret
 exact ⟨v, rfl, HO.out, HB.out⟩
theorem sorted_any (bx : Nat) (A : Option Addr) (c : Nat) (xs : List Int) (w : World) (hbox : w.cell? ⟨bx, 0, none⟩ = some (.slice A xs.length c)) (hbx : bx < w.heap.size) (hx : RdI w w.heap.size A xs) (hm : xs.length ≤ 1000) (h0 : 0 < xs.length) :
  Calls Tryz.prog 38 #[.func (.func 64) #[] #[.pointer (some ⟨bx, 0, none⟩)]] w fun e w' => ∃ v, e = .returned v ∧ w'.ownsRow w.heap.size 2 1 v xs.length (ints (xs.mergeSort fun x y => decide (x ≤ y))) ∧ Below w.heap.size w w' := by
 have HA := Lib.hid (collect_any bx A c xs w hbox hbx hx hm)
 obtain ⟨ys, hys⟩ : ∃ ys, ys = xs.mergeSort fun x y => decide (x ≤ y) := ⟨_, rfl⟩
 have hyl : ys.length = xs.length := by rw [hys, List.length_mergeSort]
 rw [← hys]
 have HY := Lib.hid hys
 clear hys
 clear hbox hx
 go_enter Tryz.func38, Tryz.ntmps38
 go_wp2_with fail
 refine HA.out.mono ?_
 rintro e w1 ⟨v, rfl, ho, hb⟩
 rcases ho.2 with ⟨rfl, hz⟩ | ⟨g, cap, cur, rfl, h1, h2, h3, h4, h5, h6⟩
 ·omega
 ·have hH : Holds (Value.int .i64) w1 g 0 xs.toArray := holds_of_block_i h2 (by rw [Nat.mul_one] at h6; exact h6)
  have hgl : g < w1.heap.size := (Array.getElem?_eq_some_iff.1 h2).1
  have HS := Lib.hid (AnyM.slices_Sort_int YthagenodiofgnaaGreatDoor.laysr g 0 cap xs w1 hH hgl (by omega))
  have HF := Lib.hid (fun (nn : Nat) (os : Array Obj) => And.intro (ownsRow_sorted_i (ss := xs) (ts := ys) (w := w1) (n := nn) (os := os) hyl h1 h2 h3 h4 h5) (hb.grown (grownBy_sorted_i (n := nn) (os := os) ys.toArray) hb.size (fun j hj => by cases hj; exact h1)))
  rw [← HY.out] at HS
  clear hH ho hb h2 h6
  go_wp2_with fail
  refine HS.out.mono ?_
  rintro e w' ⟨rfl, nn, os, rfl⟩
  go_wp2
  go_ret
  exact ⟨_, rfl, (HF.out nn os).1, (HF.out nn os).2⟩
set_option maxHeartbeats 1000000 in
theorem isIncr_yes (A : Option Addr) (n c B : Nat) (xs : List Int) (w : World) (hx : RdI w B A xs) (hB : B ≤ w.heap.size) (hl : xs.length = n) (hm : n ≤ 1000) (hs : ∀ k, k + 1 < xs.length → xs.getD k 0 < xs.getD (k + 1) 0) :
  Calls Tryz.prog 37 #[.slice A n c] w fun e w' => e = .returned (.bool true) ∧ Below w.heap.size w w' := by
 subst hl
 have HX := Lib.hid hx
 have HS := Lib.hid hs
 clear hx hs
 go_enter Tryz.func37, Tryz.ntmps37
 go_wp2
 go_loopw [3] (fun iv wr => ∃ k : Nat, 1 ≤ k ∧ iv = .int .i64 (k : Int) ∧ Hid (Below w.heap.size w wr)) (fun iv _ => xs.length - (intOf iv).toNat)
 case atStart => exact ⟨1, Nat.le_refl _, rfl, Lib.hid (Below.refl _ _)⟩
 case round =>
  obtain ⟨k, hk, rfl, HD⟩ := hrel
  by_cases hkn : k < xs.length
  ·obtain ⟨j, rfl⟩ : ∃ j, k = j + 1 := ⟨k - 1, by omega⟩
   have hkn2 : ((j + 1 : Nat) : Int) < (xs.length : Int) := by omega
   obtain ⟨b, off, rfl, hb, hc⟩ := (HX.out.below HD.out hB) (by omega)
   have e0 := hc j (by omega)
   have e1 := hc (j + 1) hkn
   have hlt := HS.out j hkn
   have hge : decide (xs.getD j 0 ≥ xs.getD (j + 1) 0) = false := decide_eq_false (by omega)
   have ej : (((j + 1 : Nat) : Int) - 1) = (j : Int) := by omega
   clear hc hlt
   generalize xs.getD j 0 = x at *
   generalize xs.getD (j + 1) 0 = y at *
   go_wp2
   go_region
   ·go_wp2
    go_roundw
    case rel => exact ⟨j + 2, by omega, by simp; omega, Lib.hid HD.out.drew⟩
    case measure => simp [intOf]; omega
  ·go_wp2
   go_ret
   exact ⟨rfl, HD.out⟩
theorem isOrder_yes (A : Option Addr) (n c B : Nat) (xs : List Int) (w : World) (hx : RdI w B A xs) (hB : B ≤ w.heap.size) (hl : xs.length = n) (h0 : 0 < n) (hm : n ≤ 12) (hn : xs.Nodup) (hr : ∀ z ∈ xs, 0 ≤ z ∧ z < (n : Int)) :
  Calls Tryz.prog 15 #[.slice A n c] w fun e w' => e = .returned (.bool true) ∧ Below w.heap.size w w' := by
 subst hl
 obtain ⟨ys, hys⟩ : ∃ ys, ys = xs.mergeSort fun x y => decide (x ≤ y) := ⟨_, rfl⟩
 have hperm : ys.Perm xs := by rw [hys]; exact List.mergeSort_perm _ _
 have hyl : ys.length = xs.length := hperm.length_eq
 have hsrt : ys.Pairwise (· ≤ ·) := by
  rw [hys]
  refine (List.pairwise_mergeSort (le := fun x y => decide (x ≤ y)) (fun a b c h1 h2 => ?_) (fun a b => ?_) xs).imp fun h => by simpa using h
  ·simp only [decide_eq_true_eq] at *; omega
  ·simp only [Bool.or_eq_true, decide_eq_true_eq]; omega
 have hnd : ys.Nodup := hperm.nodup_iff.2 hn
 have HI := Lib.hid (fun k hk => ChM.incr_of hsrt hnd k hk)
 have hin : allInB xs 0 ((xs.length : Int) - 1) = true := by
  unfold allInB
  rw [List.all_eq_true]
  intro z hz
  obtain ⟨h1, h2⟩ := hr z hz
  unfold inR
  rw [Bool.and_eq_true, decide_eq_true_eq, decide_eq_true_eq]
  omega
 have HL := Lib.hid (fun w => lenI_any A xs.length c w (by omega))
 have HR := Lib.hid (fun w => inRange_any (xs.length : Int) 1 12 w)
 rw [inR_yes (by omega)] at HR
 have HA := Lib.hid (allIn_any A c B xs 0 ((xs.length : Int) - 1) w hx hB (by omega))
 rw [hin] at HA
 have HX := Lib.hid hx
 have HY := Lib.hid hys
 have HYL := Lib.hid hyl
 clear hys hperm hsrt hnd hin hx hr hn hyl
 go_enter Tryz.func15, Tryz.ntmps15
 go_wp2_with fail
 refine (HL.out _).mono ?_
 rintro e w' ⟨rfl, rfl⟩
 go_wp2_with fail
 refine (HR.out _).mono ?_
 rintro e w' ⟨rfl, rfl⟩
 go_wp2_with fail
 refine HA.out.mono ?_
 rintro e w1 ⟨rfl, hb1⟩
 have HB1 := Lib.hid hb1
 have HX1 := Lib.hid ((HX.out.below hb1 hB).more (Nat.le_trans hB hb1.size))
 clear hb1 HA
 go_wp2_with fail
 refine (values_any A xs.length c w1).mono ?_
 rintro e w2 ⟨rfl, rfl⟩
 have hb2 : Below w1.heap.size w1 (w1.alloc (.cells #[.slice A xs.length c] 32)) := (Below.refl _ _).alloc (Nat.le_refl _) _
 have hbox : (w1.alloc (.cells #[.slice A xs.length c] 32)).cell? ⟨w1.heap.size, 0, none⟩ = some (.slice A xs.length c) := by simp
 have HS := Lib.hid (sorted_any w1.heap.size A c xs (w1.alloc (.cells #[.slice A xs.length c] 32)) hbox (by simp) ((HX1.out.below hb2 (Nat.le_refl _)).more hb2.size) (by omega) h0)
 rw [← HY.out] at HS
 have HB2 := Lib.hid (Base.Below.nextA HB1.out hb2)
 generalize hW2 : w1.alloc (.cells #[.slice A xs.length c] 32) = W2 at *
 have HW2 := Lib.hid hW2
 clear hbox hb2 hW2
 go_wp2_with fail
 refine HS.out.mono ?_
 rintro e w3 ⟨v, rfl, ho, hb3⟩
 have ho' : OwnI w3 W2.heap.size v ys := by unfold OwnI; rw [HYL.out]; exact ho
 obtain ⟨A3, c3, e3, _⟩ := ho'.form
 rw [HYL.out] at e3
 subst e3
 have HC := Lib.hid (isIncr_yes A3 xs.length c3 w3.heap.size ys w3 ho'.rd (Nat.le_refl _) HYL.out (by omega) HI.out)
 have HB3 := Lib.hid (Base.Below.nextA HB2.out hb3)
 clear ho ho' hb3
 go_wp2_with fail
 refine HC.out.mono ?_
 rintro e w4 ⟨rfl, hb4⟩
 have HB4 := Lib.hid (Base.Below.nextA HB3.out hb4)
 clear hb4
 go_wp2
 go_ret
 exact ⟨rfl, HB4.out⟩
end Go.Proofs.YthagenodiofgnaaGreatDoor.SeqI
namespace Go.Proofs.YthagenodiofgnaaGreatDoor.SeqI
open Go.RowKit Go.Proofs.YthagenodiofgnaaGreatDoor Go.Proofs.YthagenodiofgnaaGreatDoor.Base Go.Proofs.YthagenodiofgnaaGreatDoor.Mem Go.Proofs.YthagenodiofgnaaGreatDoor.AllIn Go.Proofs.YthagenodiofgnaaGreatDoor.RevNet Go.Proofs.YthagenodiofgnaaGreatDoor.Shift Go.Proofs.YthagenodiofgnaaGreatDoor.Shuf Go.Proofs.YthagenodiofgnaaGreatDoor.Face
set_option linter.unusedVariables false
theorem index_yes (A : Option Addr) (n c B k : Nat) (v : Int) (xs : List Int) (w : World) (hx : RdI w B A xs) (hl : xs.length = n) (hk : k < n) (hv : xs.getD k 0 = v) (hne : ∀ j, j < k → xs.getD j 0 ≠ v) (hm : n ≤ 1000) :
  Calls Tryz.prog 35 #[.slice A n c, .int .i64 v] w fun e w' => e = .returned (.int .i64 (k : Int)) ∧ w = w' := by
 subst hl
 have HX := Lib.hid hx
 have HN := Lib.hid hne
 have HV := Lib.hid hv
 clear hx hne hv
 go_enter Tryz.func35, Tryz.ntmps35
 go_wp2
 go_loop [8] (fun iv => ∃ j : Nat, j ≤ k ∧ iv = .int .i64 (j : Int)) (fun iv => xs.length - (intOf iv).toNat)
 case atStart => exact ⟨0, Nat.zero_le _, rfl⟩
 case round =>
  obtain ⟨j, hj, rfl⟩ := hrel
  have hjn : j < xs.length := by omega
  have hjn2 : (j : Int) < (xs.length : Int) := by omega
  obtain ⟨b, off, rfl, hb, hc⟩ := HX.out (by omega)
  have e0 := hc j hjn
  clear hc
  by_cases hjk : j = k
  ·subst hjk
   rw [HV.out] at e0
   go_wp2
   go_ret
   exact ⟨rfl, rfl⟩
  ·have hvn := HN.out j (by omega)
   have hq : (v == xs.getD j 0) = false := by simp only [beq_eq_false_iff_ne]; exact fun e => hvn e.symm
   clear hvn
   generalize xs.getD j 0 = y at *
   go_wp2
   go_round
   case rel => exact ⟨j + 1, by omega, by simp⟩
   case measure => simp [intOf]; omega
def ChsRel (n : Nat) (L : List Int) (w w1 : World) (g c0 : Nat) (iv ov : Value) (wr : World) : Prop := ∃ j : Nat, j + 1 ≤ n ∧ w1.heap.size ≤ wr.heap.size ∧ iv = .int .i64 ((n - 1 - j : Nat) : Int) ∧ Hid (OwnI wr w.heap.size (.slice (some ⟨g, 0, none⟩) n c0) (shufTo n L j)) ∧ Hid (OwnI wr w1.heap.size ov (L.take j)) ∧ Hid (Below w.heap.size w wr)
set_option maxHeartbeats 2000000 in
set_option maxRecDepth 100000 in
theorem choicesOf_yes (A : Option Addr) (c B n : Nat) (L : List Int) (w : World) (hx : RdI w B A (shufTo n L L.length)) (hB : B ≤ w.heap.size) (hn : L.length + 1 = n) (hm : n ≤ 12) (hok : okTo n L) :
  Calls Tryz.prog 14 #[.slice A n c] w fun e w' => ∃ A' c', e = .returned (.tuple #[.slice A' L.length c', .bool true]) ∧ OwnI w' w.heap.size (.slice A' L.length c') L ∧ Below w.heap.size w w' := by
 have hnd := fun j hj => ChM.shufQ_nodup hn hok j hj
 have hlen : ∀ j, (shufTo n L j).length = n := shufTo_len n L
 have HND : Hid (∀ j, j ≤ L.length → (shufTo n L j).Nodup) := Lib.hid (fun j hj => by rw [Drawn.shuf_eq]; exact hnd j hj)
 have HAT : Hid (∀ j, j < L.length → (shufTo n L L.length).getD (n - 1 - j) 0 = (shufTo n L j).getD (L.getD j 0).toNat 0) := Lib.hid (fun j hj => by rw [Drawn.shuf_eq, Drawn.shuf_eq]; exact ChM.shufQ_at hn hok j hj L.length hj (Nat.le_refl _))
 have HO := Lib.hid (SeqI.isOrder_yes A n c B (shufTo n L L.length) w hx hB (hlen _) (by omega) hm (HND.out _ (Nat.le_refl _)) (fun z hz => by rw [Drawn.shuf_eq] at hz; exact ChM.shufQ_mem hn hok _ (Nat.le_refl _) hz))
 have HX := Lib.hid hx
 have HLN := Lib.hid hn
 have HOK := Lib.hid hok
 have HLEN := Lib.hid hlen
 have HLI := Lib.hid (fun w => lenI_any A n c w (by omega))
 have HAS := Lib.hid (fun w => ascending_any n hm w)
 have hL : L.length ≤ 11 := by omega
 have hn0 : 0 < n := by omega
 obtain ⟨i0, hi, hz0, hz1, hz2⟩ := info_parts infoI
 have mixed : Tryz.prog.follows .mixedOrders = true := by kernel_rfl
 clear hx hn hok hlen hnd
 go_enter Tryz.func14, Tryz.ntmps14
 go_wp2_with fail
 refine HO.out.mono ?_
 rintro e w0 ⟨rfl, hb0⟩
 have HB0 := Lib.hid hb0
 clear hb0 HO
 go_wp2_with fail
 refine (HLI.out _).mono ?_
 rintro e w' ⟨rfl, rfl⟩
 go_wp2_with fail
 refine (HAS.out _).mono ?_
 rintro e w1 ⟨A1, c1, rfl, o1, b1⟩
 have hlen := ascL_len n
 obtain ⟨A1', c1', e1, hA⟩ := OwnI.form o1
 rw [hlen] at hA
 obtain ⟨g, hg, hg1, hg2⟩ := hA (by omega)
 injection e1 with e1 e2 e3
 subst e1 e3
 subst hg
 rw [hlen] at o1
 rw [hlen]
 have hsz0 := HB0.out.size
 have HB1 := Lib.hid (Base.Below.nextA HB0.out b1)
 have b2 : Below w1.heap.size w1 (w1.alloc (.cells #[] 2)) := (Below.refl _ _).alloc (Nat.le_refl _) _
 have o2 : OwnI (w1.alloc (.cells #[] 2)) w.heap.size (.slice (some ⟨g, 0, none⟩) n c1) (shufTo n L 0) := ownsRow_base (OwnI.below o1 b2) (by omega)
 have H0 : Hid (ChsRel n L w w1 g c1 (.int .i64 ((n : Int) - 1)) (.slice (some ⟨w1.heap.size, 0, none⟩) 0 0) (w1.alloc (.cells #[] 2))) := Lib.hid
  ⟨0, by omega, by simp, by congr 1; omega, Lib.hid o2, Lib.hid (by rw [List.take_zero]; exact World.ownsRow_made w1 #[] 0 (Nat.le_refl _) (Nat.zero_le _) (by simp)), Lib.hid (Base.Below.nextA HB1.out b2)⟩
 clear o1 o2 b1 b2 hlen e2
 go_wp2
 go_loopw [6, 5] (fun iv ov wr => ChsRel n L w w1 g c1 iv ov wr) (fun iv _ _ => (intOf iv).toNat)
 case atStart => exact H0.out
 case round =>
  obtain ⟨j, hj, hw1, rfl, HN, HV, HB⟩ := hrel
  clear H0
  by_cases hk : 0 < n - 1 - j
  ·obtain ⟨k, hkk⟩ : ∃ k, n - 1 - j = k := ⟨_, rfl⟩
   have hjL : j < L.length := by have := HLN.out; omega
   have hin := HOK.out j hjL
   have hat := HAT.out j hjL
   rw [hkk] at hin hat hk ⊢
   obtain ⟨x, hx⟩ := Int.eq_ofNat_of_zero_le hin.1
   have hxk : x ≤ k := by omega
   have HK1 : Hid (((k : Int) - 1) = ((n - 1 - (j + 1) : Nat) : Int)) := Lib.hid (by omega)
   have hnext : shufTo n L (j + 1) = swapL (shufTo n L j) k x := by rw [shufTo, hkk, hx, Int.toNat_natCast]
   have htake : L.take j ++ [(x : Int)] = L.take (j + 1) := by
    rw [List.take_add_one, ← hx, List.getD_eq_getElem?_getD, List.getElem?_eq_getElem hjL]; rfl
   rw [hx, Int.toNat_natCast] at hat
   obtain ⟨b, off, rfl, _, hc⟩ := (HX.out.below HB.out hB) (by rw [HLEN.out]; omega)
   have gc := hc k (by rw [HLEN.out]; omega)
   rw [hat] at gc
   have hkn : (k : Int) < (n : Int) := by omega
   have hxn : (x : Int) < (n : Int) := by omega
   have hk0 : (0 : Int) < (k : Int) := by omega
   have HIX := Lib.hid (index_yes (some ⟨g, 0, none⟩) n c1 wr.heap.size x ((shufTo n L j).getD x 0) (shufTo n L j) wr HN.out.rd (HLEN.out j) (by omega) rfl (fun i hi => ChM.first_of (HND.out j (by omega)) (by rw [HLEN.out]; omega) i hi) (by omega))
   have hl0 := HLEN.out j
   have hO := HN.out
   have hO' : wr.ownsRow w.heap.size 2 1 (.slice (some ⟨g, 0, none⟩) (shufTo n L j).length c1) (shufTo n L j).length (ints (shufTo n L j)) := by rw [hl0]; have := hO; unfold OwnI at this; rw [hl0] at this; exact this
   have e1 := World.ownsRow.cellAt hO' k (by omega)
   have e2 := World.ownsRow.cellAt hO' x (by omega)
   rw [ints_get _ k (by omega)] at e1
   rw [ints_get _ x (by omega)] at e2
   have f1 := hO'.frozenAt k
   have f2 := hO'.frozenAt x
   have hso := swap_own (l := shufTo n L j) (w := wr) (B := w.heap.size) (c0 := c1) (g := g) hO' (i := k) (c := x) (by omega) (by omega)
   rw [hl0, ← hnext] at hso
   have hgo : (Value.ownBlock u5) ≠ some g := fun e => by
    obtain ⟨_, _, h2, _⟩ := ownsRow_block HV.out e
    omega
   obtain ⟨WS, hWS⟩ : ∃ WS, WS = (wr.setCell ⟨g, k, none⟩ (.int .i64 ((shufTo n L j).getD x 0))).setCell ⟨g, x, none⟩ (.int .i64 ((shufTo n L j).getD k 0)) := ⟨_, rfl⟩
   rw [← hWS] at hso
   have HR1 := Lib.hid hso.1
   have hs4 : w1.heap.size ≤ WS.heap.size := Nat.le_trans hw1 hso.2.size
   have HR2 : Hid (OwnI WS w1.heap.size u5 (L.take j)) := Lib.hid (World.ownsRow.kept HV.out hso.2 (.inr hgo))
   have HR3 := Lib.hid (HB.out.grown hso.2 HB.out.size (fun q e => by cases e; omega))
   have HTK := Lib.hid htake
   clear hc hin hat hO hO' hl0 hnext htake hso hgo HN HV HB hx
   by_cases hkx : k = x
   ·subst hkx
    have HWS := Lib.hid hWS
    generalize (shufTo n L j).getD k 0 = y1 at *
    clear hWS
    go_wp2_with fail
    refine HIX.out.mono ?_
    rintro e w' ⟨rfl, rfl⟩
    go_wp2_with fail
    go_region_o
    all_goals
     obtain ⟨W5, hW5⟩ : ∃ W5, W5 = WS.drew := ⟨_, rfl⟩
     have b5 : Below WS.heap.size WS W5 := by rw [hW5]; exact (Below.refl _ _).drew
     have HS1 := Lib.hid (OwnI.below HR1.out b5)
     have HS2 := Lib.hid (OwnI.below HR2.out b5)
     have HS3 := Lib.hid (Base.Below.nextA HR3.out b5)
     have HW5 := Lib.hid (hW5.trans (by rw [HWS.out]))
     have b5s := b5.size
     clear b5 hW5 HR1 HR2 HR3
     rw [← HW5.out]
     obtain ⟨Ao, co, eo, _⟩ := OwnI.form HS2.out
     rw [List.length_take, Nat.min_eq_left (by have := HLN.out; omega)] at eo
     subst eo
     have hown : W5.ownsRow w1.heap.size 2 1 (.slice Ao j co) j (ints (L.take j)) := by have h := HS2.out; unfold OwnI at h; rw [List.length_take, Nat.min_eq_left (by have := HLN.out; omega)] at h; exact h
     have HOW := Lib.hid (World.ownsRow.alloc hown (.cells #[.int .i64 (k : Int)] 2))
     clear hown
     have HBB := Lib.hid (fun (w2 : World) (hgr : (W5.alloc (.cells #[.int .i64 (k : Int)] 2)).grownBy w2 (Value.slice Ao j co).ownBlock) => And.intro (World.ownsRow.kept (World.ownsRow.alloc HS1.out (.cells #[.int .i64 (k : Int)] 2)) hgr (.inr (fun e => by obtain ⟨_, _, h2, _⟩ := ownsRow_block HS2.out (g := g) e.symm; omega))) (Below.grown (HS3.out.alloc HS3.out.size (.cells #[.int .i64 (k : Int)] 2)) hgr (by have := HS3.out.size; simp; omega) (fun q e => by obtain ⟨_, _, h2, _⟩ := ownsRow_block HS2.out e; omega)))
     have hs5 : w1.heap.size ≤ W5.heap.size := Nat.le_trans hs4 b5s
     go_wp2_with (at_builtin; refine wpList_append_own_at _ rfl (.tmp 42) (.tmp 44) 32 rfl w1.heap.size 2 i0 (.int .i64 0) 1 8 Tryz.underlying32 hi hz0 hz1 hz2 rfl (by decide) _ _ _ rfl HOW.out ⟨W5.heap.size, 0, none⟩ 1 1 [.int .i64 (k : Int)] rfl rfl ?p1a ?p2a ?p3a ?p4a ?p5a ?_)
     try case p1a => exact news_one _ _ _ (by simp)
     try case p2a => first | exact one_int | rfl | simp
     try case p3a => first | (simp only [maxLen]; omega) | omega
     try case p4a => omega
     try case p5a => first | (simp only [World.size_alloc]; omega) | omega
     intro v'' wC hown' hg' _ _
     have HN5 : Hid (ChsRel n L w w1 g c1 (.int .i64 ((k : Int) - 1)) v'' wC) := Lib.hid ⟨j + 1, by omega, by have := hg'.size; simp at this; omega, by rw [HK1.out], Lib.hid (HBB.out wC hg').1, Lib.hid (by rw [← HTK.out]; unfold OwnI; rw [List.length_append, List.length_take, Nat.min_eq_left (by have := HLN.out; omega), show ints (L.take j ++ [(_ : Int)]) = ints (L.take j) ++ [.int .i64 _] from List.map_append]; exact hown'), Lib.hid (HBB.out wC hg').2⟩
     clear hown' hg' HOW HBB HS1 HS2 HS3
     go_wp2
     go_roundw
     case rel => exact HN5.out
     case measure => simp [intOf]; omega
   ·have hne : ¬ x = k := fun e => hkx e.symm
    have HWS := Lib.hid hWS
    generalize (shufTo n L j).getD k 0 = y1 at *
    generalize (shufTo n L j).getD x 0 = y2 at *
    clear hWS
    go_wp2_with fail
    refine HIX.out.mono ?_
    rintro e w' ⟨rfl, rfl⟩
    go_wp2_with fail
    go_region_o
    all_goals
     obtain ⟨W5, hW5⟩ : ∃ W5, W5 = WS.drew := ⟨_, rfl⟩
     have b5 : Below WS.heap.size WS W5 := by rw [hW5]; exact (Below.refl _ _).drew
     have HS1 := Lib.hid (OwnI.below HR1.out b5)
     have HS2 := Lib.hid (OwnI.below HR2.out b5)
     have HS3 := Lib.hid (Base.Below.nextA HR3.out b5)
     have HW5 := Lib.hid (hW5.trans (by rw [HWS.out]))
     have b5s := b5.size
     clear b5 hW5 HR1 HR2 HR3
     rw [← HW5.out]
     obtain ⟨Ao, co, eo, _⟩ := OwnI.form HS2.out
     rw [List.length_take, Nat.min_eq_left (by have := HLN.out; omega)] at eo
     subst eo
     have hown : W5.ownsRow w1.heap.size 2 1 (.slice Ao j co) j (ints (L.take j)) := by have h := HS2.out; unfold OwnI at h; rw [List.length_take, Nat.min_eq_left (by have := HLN.out; omega)] at h; exact h
     have HOW := Lib.hid (World.ownsRow.alloc hown (.cells #[.int .i64 (x : Int)] 2))
     clear hown
     have HBB := Lib.hid (fun (w2 : World) (hgr : (W5.alloc (.cells #[.int .i64 (x : Int)] 2)).grownBy w2 (Value.slice Ao j co).ownBlock) => And.intro (World.ownsRow.kept (World.ownsRow.alloc HS1.out (.cells #[.int .i64 (x : Int)] 2)) hgr (.inr (fun e => by obtain ⟨_, _, h2, _⟩ := ownsRow_block HS2.out (g := g) e.symm; omega))) (Below.grown (HS3.out.alloc HS3.out.size (.cells #[.int .i64 (x : Int)] 2)) hgr (by have := HS3.out.size; simp; omega) (fun q e => by obtain ⟨_, _, h2, _⟩ := ownsRow_block HS2.out e; omega)))
     have hs5 : w1.heap.size ≤ W5.heap.size := Nat.le_trans hs4 b5s
     go_wp2_with (at_builtin; refine wpList_append_own_at _ rfl (.tmp 42) (.tmp 44) 32 rfl w1.heap.size 2 i0 (.int .i64 0) 1 8 Tryz.underlying32 hi hz0 hz1 hz2 rfl (by decide) _ _ _ rfl HOW.out ⟨W5.heap.size, 0, none⟩ 1 1 [.int .i64 (x : Int)] rfl rfl ?p1a ?p2a ?p3a ?p4a ?p5a ?_)
     try case p1a => exact news_one _ _ _ (by simp)
     try case p2a => first | exact one_int | rfl | simp
     try case p3a => first | (simp only [maxLen]; omega) | omega
     try case p4a => omega
     try case p5a => first | (simp only [World.size_alloc]; omega) | omega
     intro v'' wC hown' hg' _ _
     have HN5 : Hid (ChsRel n L w w1 g c1 (.int .i64 ((k : Int) - 1)) v'' wC) := Lib.hid ⟨j + 1, by omega, by have := hg'.size; simp at this; omega, by rw [HK1.out], Lib.hid (HBB.out wC hg').1, Lib.hid (by rw [← HTK.out]; unfold OwnI; rw [List.length_append, List.length_take, Nat.min_eq_left (by have := HLN.out; omega), show ints (L.take j ++ [(_ : Int)]) = ints (L.take j) ++ [.int .i64 _] from List.map_append]; exact hown'), Lib.hid (HBB.out wC hg').2⟩
     clear hown' hg' HOW HBB HS1 HS2 HS3
     go_wp2
     go_roundw
     case rel => exact HN5.out
     case measure => simp [intOf]; omega
  ·have hk0 : n - 1 - j = 0 := by omega
   have hjL : j = L.length := by have := HLN.out; omega
   rw [hk0]
   subst hjL
   have HV2 := HV.out
   rw [List.take_of_length_le (Nat.le_refl _)] at HV2
   obtain ⟨Ao, co, eo, _⟩ := OwnI.form HV2
   subst eo
   have HV3 := Lib.hid (show OwnI wr w.heap.size (.slice Ao L.length co) L from ownsRow_base HV2 (by have := HB1.out.size; omega))
   clear HV HV2 HN
   go_wp2
   go_ret2
   exact ⟨Ao, co, rfl, HV3.out, HB.out⟩
end Go.Proofs.YthagenodiofgnaaGreatDoor.SeqI

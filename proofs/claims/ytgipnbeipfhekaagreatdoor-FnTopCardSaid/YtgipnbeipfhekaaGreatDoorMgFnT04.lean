/- Whether a lab is valid, of the program and of the reference. -/
import Derived.Test.YtgipnbeipfhekaaGreatDoorMgFnT03
import Derived.Laws.Cover1
import Derived.Test.YtgipnbeipfhekaaGreatDoorMgFnT00
import Derived.Lib.ItoaNum
import Derived.Lib.UnsafeStr
import Derived.Lib.AppendIntMem
import Derived.Laws.IdiomStrings
import Derived.Lib.BufferRead
import Derived.Shelf.Lay
import Derived.Shelf.Strconv.Itoa4
import Derived.Laws.Concat
import Derived.Lib.IndexLaws
import Derived.Lib.Builder
import Derived.Shelf.Strings.Builder1
import Derived.Shelf.Strings.Search3
import Derived.Deep.RegionWith
import Derived.Shelf.Strings.Split
import Derived.Shelf.Strconv.ParseIntPublic10
import Derived.Test.YtgipnbeipfhekaaGreatDoorMgFnT01
import Derived.StillTailTactics
namespace Go.Proofs.YtgipnbeipfhekaaGreatDoor.LabV
open Go.RowKit Go.Proofs.YtgipnbeipfhekaaGreatDoor Go.Proofs.YtgipnbeipfhekaaGreatDoor.Base Go.Proofs.YtgipnbeipfhekaaGreatDoor.Mem Go.Proofs.YtgipnbeipfhekaaGreatDoor.Cpy Go.Proofs.YtgipnbeipfhekaaGreatDoor.MemS Go.Proofs.YtgipnbeipfhekaaGreatDoor.Str Go.Proofs.YtgipnbeipfhekaaGreatDoor.LabM Go.Proofs.YtgipnbeipfhekaaGreatDoor.Take
set_option linter.unusedVariables false
def lowTo (s : ByteArray) : Nat → Bool
 | 0 => true
 | i + 1 => lowTo s i && (if h : i < s.size then decide (97 ≤ (s[i]'h).toNat) && decide ((s[i]'h).toNat ≤ 122) else false)
theorem lowTo_no {s : ByteArray} {i : Nat} (h : lowTo s i = false) : ∀ n, i ≤ n → lowTo s n = false
  | 0, hn => by obtain rfl : i = 0 := by omega
                exact h
  | n + 1, hn => by
    by_cases e : i = n + 1
    · subst e; exact h
    · rw [lowTo, lowTo_no h n (by omega)]; rfl
theorem lowTo_step {s : ByteArray} {i : Nat} (h : lowTo s i = true) (hi : i < s.size) {x : Nat} (hx : (s[i]'hi).toNat = x) : lowTo s (i + 1) = (decide (97 ≤ x) && decide (x ≤ 122)) := by
 rw [lowTo, h, dif_pos hi, hx, Bool.true_and]
def nameB (s : ByteArray) : Bool := lowTo s s.size && inR (s.size : Int) 1 10
set_option maxHeartbeats 1000000 in
theorem implName_any (s : ByteArray) (hs : s.size ≤ 9223372036854775807) (w : World) : Calls Tryz.prog 62 #[.string s] w fun e w' => e = .returned (.bool (nameB s)) ∧ w = w' := by
 go_enter Tryz.func62, Tryz.ntmps62
 go_wp2
 go_loop [6] (fun i => ∃ k : Nat, k ≤ s.size ∧ i = .int .i64 (k : Int) ∧ Hid (lowTo s k = true)) (fun i => s.size - (intOf i).toNat)
 case atStart => exact ⟨0, Nat.zero_le _, rfl, Lib.hid rfl⟩
 case round =>
  obtain ⟨k, hk, rfl, hL⟩ := hrel
  by_cases hlt : k < s.size
  ·obtain ⟨x, hx⟩ : ∃ x, (s[k]'hlt).toNat = x := ⟨_, rfl⟩
   have HN := Lib.hid (lowTo_step hL.out hlt hx)
   have HF := Lib.hid (fun (h : lowTo s (k + 1) = false) => lowTo_no h s.size hlt)
   by_cases h1 : x < 97
   ·go_wp2
    go_ret
    exact ⟨ret_bool (by rw [nameB, HF.out (by rw [HN.out]; simp; omega)]; rfl), rfl⟩
   ·by_cases h2 : 122 < x
    ·go_wp2
     go_ret
     exact ⟨ret_bool (by rw [nameB, HF.out (by rw [HN.out]; simp; omega)]; rfl), rfl⟩
    ·go_wp2
     go_round
     case rel => exact ⟨k + 1, hlt, by go_num, Lib.hid (by rw [HN.out]; simp; omega)⟩
     case measure => simp [intOf]; omega
  ·obtain rfl : k = s.size := by omega
   go_wp2_with (go_at_call 31; refine (inRange_any _ _ _ _).mono ?_; rintro e w' ⟨rfl, rfl⟩)
   go_ret
   exact ⟨ret_bool (by rw [nameB, hL.out, Bool.true_and]), rfl⟩
def lessS (x y : ByteArray) : Bool := Op.bytesLess x.toList y.toList
def strB (fs : List Int) (j : Nat) : Bool := streamB (fs.getD (7 * j + 0) 0) (fs.getD (7 * j + 1) 0) (fs.getD (7 * j + 2) 0) (fs.getD (7 * j + 3) 0) (fs.getD (7 * j + 4) 0) (fs.getD (7 * j + 5) 0) (fs.getD (7 * j + 6) 0)
def entB (ss : List ByteArray) (fs : List Int) (j : Nat) : Bool := nameB (ss.getD j ByteArray.empty) && (strB fs j && (j == 0 || lessS (ss.getD (j - 1) ByteArray.empty) (ss.getD j ByteArray.empty)))
def labTo (ss : List ByteArray) (fs : List Int) : Nat → Bool
 | 0 => true
 | j + 1 => labTo ss fs j && entB ss fs j
theorem labTo_no {ss : List ByteArray} {fs : List Int} {i : Nat} (h : labTo ss fs i = false) : ∀ n, i ≤ n → labTo ss fs n = false
  | 0, hn => by obtain rfl : i = 0 := by omega
                exact h
  | n + 1, hn => by
    by_cases e : i = n + 1
    · subst e; exact h
    · rw [labTo, labTo_no h n (by omega)]; rfl
def labB (ss : List ByteArray) (n : Nat) (fs : List Int) : Bool := decide (n ≤ 6) && (decide (ss.length = n) && labTo ss fs n)
set_option maxHeartbeats 4000000 in
theorem implLab_any (A A' : Option Addr) (c c' B n : Nat) (ss : List ByteArray) (fs : List Int) (w : World)
  (hx : RdT w B A ss) (hy : RdS w B A' n fs) (hB : B ≤ w.heap.size) (hs : ∀ i, i < ss.length → (ss.getD i ByteArray.empty).size ≤ 9223372036854775807) (hl : ss.length ≤ 1048576) (hn : n ≤ 1048576) :
  Calls Tryz.prog 26 #[.agg #[.slice A ss.length c, .slice A' n c']] w fun e w' => e = .returned (.bool (labB ss n fs)) ∧ Below w.heap.size w w' := by
 have hb0 : Below w.heap.size w (w.alloc (.cells #[.slice A ss.length c, .slice A' n c'] 53)) := (Below.refl _ _).alloc (Nat.le_refl _) _
 by_cases hn6 : 6 < n
 ·have HF : Hid (labB ss n fs = false) := Lib.hid (by simp [labB, show ¬ n ≤ 6 by omega])
  clear hx hy hs
  go_enter Tryz.func26, Tryz.ntmps26
  go_wp2
  go_ret
  exact ⟨ret_bool HF.out.symm, hb0⟩
 by_cases hne : ss.length = n
 ·obtain ⟨W0, hW0⟩ : ∃ W0, W0 = w.alloc (.cells #[.slice A ss.length c, .slice A' n c'] 53) := ⟨_, rfl⟩
  have k0 : W0.cell? ⟨w.heap.size, 0, none⟩ = some (.slice A ss.length c) := by rw [hW0]; exact World.cell?_alloc_new w _ _ 0
  have k1 : W0.cell? ⟨w.heap.size, 1, none⟩ = some (.slice A' n c') := by rw [hW0]; exact World.cell?_alloc_new w _ _ 1
  have hz : w.heap.size < W0.heap.size := by rw [hW0]; simp
  rw [← hW0] at hb0
  have HX := Lib.hid ((hx.below hb0 hB).more (C := W0.heap.size) (by omega))
  have HY := Lib.hid ((hy.below hb0 hB).more (C := W0.heap.size) (by omega))
  have HS := Lib.hid hs
  obtain ⟨N, hN⟩ : ∃ N, N = ss.length := ⟨_, rfl⟩
  have HB : Hid (labB ss n fs = labTo ss fs N) := Lib.hid (by simp [labB, hN, hne, show n ≤ 6 by omega])
  obtain rfl : n = N := by omega
  rw [← hN] at k0 hW0
  have HNl := Lib.hid hN
  have HW0 := Lib.hid hW0
  have HB0 := Lib.hid hb0
  rw [← hN]
  clear hx hy hs hN hne hl hW0 hb0
  go_enter Tryz.func26, Tryz.ntmps26
  go_wp2
  rw [← HW0.out]
  go_loopw [21] (fun i wr => ∃ (k : Nat), k ≤ n ∧ i = .int .i64 (k : Int) ∧ Hid (labTo ss fs k = true) ∧ Hid (Below W0.heap.size W0 wr)) (fun i _ => n - (intOf i).toNat)
  case atStart => exact ⟨0, Nat.zero_le _, rfl, Lib.hid rfl, Lib.hid (Below.refl _ _)⟩
  case round =>
   obtain ⟨k, hk, rfl, hL, hbw⟩ := hrel
   have e0 := (hbw.out.cell (p := ⟨w.heap.size, 0, none⟩) hz).trans k0
   have e1 := (hbw.out.cell (p := ⟨w.heap.size, 1, none⟩) hz).trans k1
   by_cases hlt : k < n
   ·obtain ⟨bs, os, rfl, hbs, hc⟩ := HX.out (by have := HNl.out; omega)
    obtain ⟨bt, ot, rfl, hbt, hd⟩ := HY.out.at7 hlt
    have g1 := (hbw.out.cell (p := ⟨bs, os + k, none⟩) hbs).trans (hc k (by have := HNl.out; omega))
    have gp : 0 < k → ∀ w1, Below wr.heap.size wr w1 → w1.cell? ⟨bs, os + (k - 1), none⟩ = some (.string (ss.getD (k - 1) ByteArray.empty)) := fun _ w1 h1 => ((hbw.out.trans (h1.mono hbw.out.size)).cell (p := ⟨bs, os + (k - 1), none⟩) hbs).trans (hc (k - 1) (by have := HNl.out; omega))
    have d0 := (hbw.out.cell (p := ⟨bt, ot + k * 7, none⟩) hbt).trans hd.c0
    have d1 := (hbw.out.cell (p := ⟨bt, ot + k * 7 + 1, none⟩) hbt).trans hd.c1
    have d2 := (hbw.out.cell (p := ⟨bt, ot + k * 7 + 2, none⟩) hbt).trans hd.c2
    have d3 := (hbw.out.cell (p := ⟨bt, ot + k * 7 + 3, none⟩) hbt).trans hd.c3
    have d4 := (hbw.out.cell (p := ⟨bt, ot + k * 7 + 4, none⟩) hbt).trans hd.c4
    have d5 := (hbw.out.cell (p := ⟨bt, ot + k * 7 + 5, none⟩) hbt).trans hd.c5
    have d6 := (hbw.out.cell (p := ⟨bt, ot + k * 7 + 6, none⟩) hbt).trans hd.c6
    have HK : Hid (∀ w1, Below wr.heap.size wr w1 → w1.cell? ⟨w.heap.size, 0, none⟩ = some (.slice (some ⟨bs, os, none⟩) n c)) := Lib.hid fun w1 h1 => ((hbw.out.trans (h1.mono hbw.out.size)).cell (p := ⟨w.heap.size, 0, none⟩) hz).trans k0
    have HS1 := Lib.hid (fun r (h : nameB (ss.getD k ByteArray.empty) = r) W => (implName_any (ss.getD k ByteArray.empty) (HS.out k (by have := HNl.out; omega)) W).mono (R' := fun e w' => e = .returned (.bool r) ∧ W = w') (fun e w' h' => ⟨by rw [h'.1, h], h'.2⟩))
    have HS2 := Lib.hid (fun r (h : strB fs k = r) W => (validStream_any (fs.getD (7 * k + 0) 0) (fs.getD (7 * k + 1) 0) (fs.getD (7 * k + 2) 0) (fs.getD (7 * k + 3) 0) (fs.getD (7 * k + 4) 0) (fs.getD (7 * k + 5) 0) (fs.getD (7 * k + 6) 0) W).mono (R' := fun e w' => e = .returned (.bool r) ∧ Below W.heap.size W w') (fun e w' h' => ⟨by rw [h'.1, ← h]; rfl, h'.2⟩))
    have HNo := Lib.hid (fun (h : entB ss fs k = false) => show labB ss n fs = false by rw [HB.out]; exact labTo_no (i := k + 1) (by rw [labTo, h, Bool.and_false]) n hlt)
    have HYe := Lib.hid (fun (h : entB ss fs k = true) => show labTo ss fs (k + 1) = true by rw [labTo, h, hL.out]; rfl)
    unfold entB at HNo HYe
    clear hL hc hd
    generalize ss.getD k ByteArray.empty = x at *
    generalize ss.getD (k - 1) ByteArray.empty = y at *
    generalize strB fs k = q2v at *
    generalize fs.getD (7 * k + 0) 0 = f0 at *
    generalize fs.getD (7 * k + 1) 0 = f1 at *
    generalize fs.getD (7 * k + 2) 0 = f2 at *
    generalize fs.getD (7 * k + 3) 0 = f3 at *
    generalize fs.getD (7 * k + 4) 0 = f4 at *
    generalize fs.getD (7 * k + 5) 0 = f5 at *
    generalize fs.getD (7 * k + 6) 0 = f6 at *
    cases q1 : nameB x
    ·have C1 := Lib.hid (HS1.out _ q1)
     go_wp2_with (go_at_call 62; refine (C1.out _).mono ?_; rintro e w' ⟨rfl, rfl⟩)
     go_ret
     exact ⟨ret_bool (HNo.out (by rw [q1]; rfl)).symm, HB0.out.trans (hbw.out.mono HB0.out.size)⟩
    ·have C1 := Lib.hid (HS1.out _ q1)
     cases q2 : q2v
     ·have C2 := Lib.hid (HS2.out _ q2)
      go_wp2_with (first | (go_at_call 62; refine (C1.out _).mono ?_; rintro e w' ⟨rfl, rfl⟩) | (go_at_call 29; refine (C2.out _).mono ?_; rintro e w2 ⟨rfl, hb2⟩))
      go_ret
      exact ⟨ret_bool (HNo.out (by rw [q1, q2]; rfl)).symm, HB0.out.trans ((hbw.out.trans (hb2.mono hbw.out.size)).mono HB0.out.size)⟩
     ·have C2 := Lib.hid (HS2.out _ q2)
      by_cases hk0 : k = 0
      ·subst hk0
       rw [Nat.add_zero] at g1
       rw [Nat.zero_mul, Nat.add_zero] at d0 d1 d2 d3 d4 d5 d6
       go_wp2_with (first | (go_at_call 62; refine (C1.out _).mono ?_; rintro e w' ⟨rfl, rfl⟩) | (go_at_call 29; refine (C2.out _).mono ?_; rintro e w2 ⟨rfl, hb2⟩))
       go_roundw
       case rel => exact ⟨1, hlt, rfl, Lib.hid (HYe.out (by rw [q1, q2]; rfl)), Lib.hid (hbw.out.trans (hb2.mono hbw.out.size))⟩
       case measure => simp [intOf]; omega
      ·obtain ⟨j, rfl⟩ : ∃ j, k = j + 1 := ⟨k - 1, by omega⟩
       have GQ := Lib.hid (gp (by omega))
       rw [Nat.add_sub_cancel] at GQ
       clear gp
       have hk1 : (0 : Int) < ((j + 1 : Nat) : Int) := by omega
       cases q3 : lessS y x
       ·have q4 := q3
        unfold lessS at q4
        go_wp2_with (first | (go_at_call 62; refine (C1.out _).mono ?_; rintro e w' ⟨rfl, rfl⟩) | (go_at_call 29; refine (C2.out _).mono ?_; rintro e w2 ⟨rfl, hb2⟩; have gq := GQ.out w2 hb2; have gk := HK.out w2 hb2))
        go_ret
        exact ⟨ret_bool (HNo.out (by rw [q1, q2, q3]; simp)).symm, HB0.out.trans ((hbw.out.trans (hb2.mono hbw.out.size)).mono HB0.out.size)⟩
       ·have q4 := q3
        unfold lessS at q4
        go_wp2_with (first | (go_at_call 62; refine (C1.out _).mono ?_; rintro e w' ⟨rfl, rfl⟩) | (go_at_call 29; refine (C2.out _).mono ?_; rintro e w2 ⟨rfl, hb2⟩; have gq := GQ.out w2 hb2; have gk := HK.out w2 hb2))
        go_roundw
        case rel => exact ⟨j + 1 + 1, hlt, by go_num, Lib.hid (HYe.out (by rw [q1, q2, q3]; simp)), Lib.hid (hbw.out.trans (hb2.mono hbw.out.size))⟩
        case measure => simp [intOf]; omega
   ·obtain rfl : k = n := by omega
    go_wp2
    go_ret
    exact ⟨ret_bool (by rw [HB.out, hL.out]), HB0.out.trans (hbw.out.mono HB0.out.size)⟩
 ·have HF : Hid (labB ss n fs = false) := Lib.hid (by simp [labB, hne])
  have hne3 : ((ss.length : Int) != (n : Int)) = true := by simp only [bne_iff_ne, ne_eq]; omega
  clear hx hy hs
  go_enter Tryz.func26, Tryz.ntmps26
  go_wp2
  go_ret
  exact ⟨ret_bool HF.out.symm, hb0⟩
end Go.Proofs.YtgipnbeipfhekaaGreatDoor.LabV
namespace Go.Proofs.YtgipnbeipfhekaaGreatDoor.StM
open Go.Proofs.YtgipnbeipfhekaaGreatDoor Go.Proofs.YtgipnbeipfhekaaGreatDoor.LabV Go.Proofs.YtgipnbeipfhekaaGreatDoor.Str
set_option linter.unusedVariables false
structure St where
 K : Int
 W : Int
 T : Int
 m : Int
 f : Int
 a : Int
 s : Int
deriving DecidableEq
def St.l (x : St) : List Int := [x.K, x.W, x.T, x.m, x.f, x.a, x.s]
def St.ok (x : St) : Bool := streamB x.K x.W x.T x.m x.f x.a x.s
def St.val (x : St) : Value := .agg #[.int .i64 x.K, .int .i64 x.W, .int .i64 x.T, .int .i64 x.m, .int .i64 x.f, .int .i64 x.a, .int .i64 x.s]
def St.to (x : St) (s : Int) : St := { x with s := s }
def zeroSt : St := ⟨0, 0, 0, 0, 0, 0, 0⟩
def flat (xs : List St) : List Int := xs.flatMap St.l
theorem flat_cons (x : St) (xs : List St) : flat (x :: xs) = x.l ++ flat xs := rfl
theorem flat_app (xs ys : List St) : flat (xs ++ ys) = flat xs ++ flat ys := List.flatMap_append
theorem flat_len : ∀ xs : List St, (flat xs).length = 7 * xs.length
 | [] => rfl
 | x :: xs => by rw [flat_cons, List.length_append, flat_len xs, List.length_cons]; show 7 + _ = _; omega
theorem getD_app1 {l r : List Int} {i : Nat} (h : i < l.length) : (l ++ r).getD i 0 = l.getD i 0 := by
 simp only [List.getD_eq_getElem?_getD, List.getElem?_append_left h]
theorem getD_app2 (l r : List Int) (i : Nat) : (l ++ r).getD (l.length + i) 0 = r.getD i 0 := by
 simp only [List.getD_eq_getElem?_getD, List.getElem?_append_right (Nat.le_add_right _ _), Nat.add_sub_cancel_left]
theorem flat_get : ∀ (xs : List St) (j i : Nat), i < 7 → (flat xs).getD (7 * j + i) 0 = (xs.getD j zeroSt).l.getD i 0
 | [], j, i, hi => by
  have : ([].getD j zeroSt : St) = zeroSt := by simp [List.getD]
  rw [this]
  match i, hi with
  | 0, _ => simp [flat, zeroSt, St.l]
  | 1, _ => simp [flat, zeroSt, St.l]
  | 2, _ => simp [flat, zeroSt, St.l]
  | 3, _ => simp [flat, zeroSt, St.l]
  | 4, _ => simp [flat, zeroSt, St.l]
  | 5, _ => simp [flat, zeroSt, St.l]
  | 6, _ => simp [flat, zeroSt, St.l]
 | x :: xs, 0, i, hi => by
  rw [flat_cons, show 7 * 0 + i = i by omega, getD_app1 (by show i < 7; exact hi)]
  rfl
 | x :: xs, j + 1, i, hi => by
  rw [flat_cons, show 7 * (j + 1) + i = x.l.length + (7 * j + i) by show _ = 7 + _; omega, getD_app2, flat_get xs j i hi]
  rfl
end Go.Proofs.YtgipnbeipfhekaaGreatDoor.StM
namespace Go.Proofs.YtgipnbeipfhekaaGreatDoor.Dec
open Go.RowKit Go.Proofs.YtgipnbeipfhekaaGreatDoor Go.Proofs.YtgipnbeipfhekaaGreatDoor.Base Go.Proofs.YtgipnbeipfhekaaGreatDoor.Mem
set_option linter.unusedVariables false
abbrev tx (l : List UInt8) : ByteArray := ⟨l.toArray⟩
theorem tx_ext {a b : ByteArray} (h : a.data.toList = b.data.toList) : a = b := by
 cases a with | mk a => cases b with | mk b => simp at h; rw [h]
theorem tx_list (a : ByteArray) : tx a.data.toList = a := tx_ext (by simp)
theorem list_tx (l : List UInt8) : (tx l).data.toList = l := by simp
theorem size_tx (l : List UInt8) : (tx l).size = l.length := by simp [ByteArray.size]
theorem infoByte : (Tryz.prog.info? 5).map (fun i => (i.zero, i.size, i.bytes)) = some (some (.int .u8 0), 1, 1) := by kernel_rfl
def rd (u : Nat) : List UInt8 := if h : u = 0 then [] else UInt8.ofNat (48 + u % 10) :: rd (u / 10)
termination_by u
decreasing_by omega
theorem rd_zero : rd 0 = [] := by rw [rd, dif_pos rfl]
theorem rd_pos {u : Nat} (h : 0 < u) : rd u = UInt8.ofNat (48 + u % 10) :: rd (u / 10) := by rw [rd, dif_neg (by omega)]
theorem rd_rev : ∀ (u : Nat), 0 < u → (rd u).reverse = Lib.decDigits u := by
 intro u
 induction u using Nat.strongRecOn with
 | _ u ih =>
  intro h
  rw [rd_pos h, List.reverse_cons, Lib.decDigits]
  by_cases h10 : u < 10
  ·rw [dif_pos h10, show u / 10 = 0 by omega, rd_zero, Nat.mod_eq_of_lt h10]; rfl
  ·rw [dif_neg h10, ih (u / 10) (by omega) (by omega)]
theorem rd_len : ∀ (k u : Nat), u < 10 ^ k → (rd u).length ≤ k
  | 0, u, h => by obtain rfl : u = 0 := by simpa using h
                  rw [rd_zero]; simp
  | k + 1, u, h => by
    by_cases h0 : u = 0
    · subst h0; rw [rd_zero]; simp
    · rw [rd_pos (by omega), List.length_cons]
      have := rd_len k (u / 10) (by rw [Nat.pow_succ] at h; omega)
      omega
theorem byte_small {x : Nat} (h : x < 256) : (UInt8.ofNat x).toNat = x := by simp; omega
end Go.Proofs.YtgipnbeipfhekaaGreatDoor.Dec
namespace Go.Proofs
open Go.Shelf
def YtgipnbeipfhekaaGreatDoor.lays173_ren : Go.Shelf.Ren := ⟨fun | 173 => 40 | 246 => 81 | 283 => 132 | 284 => 133 | 285 => 134 | 286 => 135 | 129 => 179 | 317 => 178 | 318 => 180 | 319 => 181 | 320 => 182 | 337 => 216 | 338 => 217 | n => n, fun | 2 => 2 | 3 => 3 | 9 => 9 | 4 => 4 | 171 => 177 | 0 => 0 | 53 => 114 | 37 => 22 | 5 => 5 | 173 => 180 | 212 => 220 | 51 => 221 | 20 => 20 | 213 => 222 | 46 => 118 | 232 => 260 | 233 => 261 | n => n, fun | 17 => 1 | 18 => 4 | 19 => 5 | n => n⟩
theorem YtgipnbeipfhekaaGreatDoor.lays173 : Go.Proofs.LaysM.n173 Tryz.prog YtgipnbeipfhekaaGreatDoor.lays173_ren := {
 mixed := by kernel_rfl
 f129 := Tryz.func179.trans (congrArg some (by kernel_rfl))
 f173 := Tryz.func40.trans (congrArg some (by kernel_rfl))
 f246 := Tryz.func81.trans (congrArg some (by kernel_rfl))
 f283 := Tryz.func132.trans (congrArg some (by kernel_rfl))
 f284 := Tryz.func133.trans (congrArg some (by kernel_rfl))
 f285 := Tryz.func134.trans (congrArg some (by kernel_rfl))
 f286 := Tryz.func135.trans (congrArg some (by kernel_rfl))
 f317 := Tryz.func178.trans (congrArg some (by kernel_rfl))
 f318 := Tryz.func180.trans (congrArg some (by kernel_rfl))
 f319 := Tryz.func181.trans (congrArg some (by kernel_rfl))
 f320 := Tryz.func182.trans (congrArg some (by kernel_rfl))
 f337 := Tryz.func216.trans (congrArg some (by kernel_rfl))
 f338 := Tryz.func217.trans (congrArg some (by kernel_rfl))
 t0 := Tryz.underlying0
 a0 := Tryz.isAgg0
 z0 := Tryz.sizeOf0
 v0 := Tryz.zeroValue0
 t2 := Tryz.underlying2
 a2 := Tryz.isAgg2
 z2 := Tryz.sizeOf2
 v2 := Tryz.zeroValue2
 t3 := Tryz.underlying3
 a3 := Tryz.isAgg3
 z3 := Tryz.sizeOf3
 v3 := Tryz.zeroValue3
 t4 := Tryz.underlying4
 a4 := Tryz.isAgg4
 z4 := Tryz.sizeOf4
 v4 := Tryz.zeroValue4
 t5 := Tryz.underlying5
 a5 := Tryz.isAgg5
 z5 := Tryz.sizeOf5
 v5 := Tryz.zeroValue5
 t9 := Tryz.underlying9
 a9 := Tryz.isAgg9
 z9 := Tryz.sizeOf9
 v9 := Tryz.zeroValue9
 t20 := Tryz.underlying20
 a20 := Tryz.isAgg20
 z20 := Tryz.sizeOf20
 v20 := Tryz.zeroValue20
 t37 := Tryz.underlying22
 a37 := Tryz.isAgg22
 z37 := Tryz.sizeOf22
 v37 := Tryz.zeroValue22
 t46 := Tryz.underlying118
 a46 := Tryz.isAgg118
 z46 := Tryz.sizeOf118
 v46 := Tryz.zeroValue118
 t51 := Tryz.underlying221
 a51 := Tryz.isAgg221
 z51 := Tryz.sizeOf221
 v51 := Tryz.zeroValue221
 t53 := Tryz.underlying114
 a53 := Tryz.isAgg114
 z53 := Tryz.sizeOf114
 v53 := Tryz.zeroValue114
 t171 := Tryz.underlying177
 a171 := Tryz.isAgg177
 z171 := Tryz.sizeOf177
 v171 := Tryz.zeroValue177
 t173 := Tryz.underlying180
 a173 := Tryz.isAgg180
 z173 := Tryz.sizeOf180
 v173 := Tryz.zeroValue180
 t212 := Tryz.underlying220
 a212 := Tryz.isAgg220
 z212 := Tryz.sizeOf220
 v212 := Tryz.zeroValue220
 t213 := Tryz.underlying222
 a213 := Tryz.isAgg222
 z213 := Tryz.sizeOf222
 t232 := Tryz.underlying260
 a232 := Tryz.isAgg260
 z232 := Tryz.sizeOf260
 v232 := Tryz.zeroValue260
 t233 := Tryz.underlying261
 a233 := Tryz.isAgg261
 z233 := Tryz.sizeOf261
 v233 := Tryz.zeroValue261
 g17 := by kernel_rfl
 g18 := by kernel_rfl
 g19 := by kernel_rfl
 i0 := by kernel_rfl
 i2 := by kernel_rfl
 i3 := by kernel_rfl
 i4 := by kernel_rfl
 i5 := by kernel_rfl
 i9 := by kernel_rfl
 i20 := by kernel_rfl
 i37 := by kernel_rfl
 i46 := by kernel_rfl
 i51 := by kernel_rfl
 i53 := by kernel_rfl
 i171 := by kernel_rfl
 i173 := by kernel_rfl
 i212 := by kernel_rfl
 i232 := by kernel_rfl
 i233 := by kernel_rfl
 m17 := by kernel_rfl
 m18 := by kernel_rfl
 m19 := by kernel_rfl }
end Go.Proofs
namespace Go.Proofs.YtgipnbeipfhekaaGreatDoor.Dec
open Go.RowKit Go.Proofs.YtgipnbeipfhekaaGreatDoor Go.Proofs.YtgipnbeipfhekaaGreatDoor.Base Go.Proofs.YtgipnbeipfhekaaGreatDoor.Mem
set_option linter.unusedVariables false
def Pow (B : Nat) (w : World) : Prop := Lib.TabBelow Tryz.prog B w "internal/strconv.uint64pow10" .u64 Lib.pow10Tab
theorem Pow.on {B : Nat} {w w' : World} (h : Pow B w) (hb : Below B w w') : Pow B w' := Lib.TabBelow.on h hb
theorem below_grow (B : Nat) (w : World) (k : Nat) (os : Array Obj) (hB : B ≤ w.heap.size) : Below B w (Sort.grow (w.drewN k) os) :=
 ⟨rfl, rfl, rfl, by show w.heap.size ≤ (w.heap ++ os).size; rw [Array.size_append]; omega, fun j hj => by
  show (w.heap ++ os)[j]? = w.heap[j]?
  rw [Array.getElem?_append_left (by omega)]⟩
theorem formatInt_any (u : Nat) (hu : u ≤ 9223372036854775807) (B : Nat) (w : World) (hp : Pow B w) (hB : B ≤ w.heap.size) : Calls Tryz.prog 40 #[.int .i64 (u : Int), .int .i64 10] w fun e w' => e = .returned (.string (tx (Lib.decDigits u))) ∧ Below w.heap.size w w' := by
 refine (Any.strconv_FormatInt_10 YtgipnbeipfhekaaGreatDoor.lays173 (u : Int) (by omega) (by omega) w (Lib.TabBelow.here hp)).mono ?_
 rintro e w' ⟨rfl, k, os, rfl⟩
 refine ⟨?_, below_grow _ w k os (Nat.le_refl _)⟩
 rw [Lib.itoa, if_neg (by omega), Int.toNat_natCast]
theorem decimal_any (u : Nat) (hu : u ≤ 9223372036854775807) (B : Nat) (w : World) (hp : Pow B w) (hB : B ≤ w.heap.size) : Calls Tryz.prog 15 #[.int .i64 (u : Int)] w fun e w' => e = .returned (.string (tx (Lib.decDigits u))) ∧ Below w.heap.size w w' := by
 have HC := Lib.hid (formatInt_any u hu B w hp hB)
 clear hp
 go_enter Tryz.func15, Tryz.ntmps15
 go_wp2_with fail
 refine HC.out.mono ?_
 rintro e w' ⟨rfl, hb⟩
 go_wp2
 go_ret
 exact ⟨rfl, hb⟩
end Go.Proofs.YtgipnbeipfhekaaGreatDoor.Dec
namespace Go.Proofs.YtgipnbeipfhekaaGreatDoor.Jour
open Go.RowKit Go.Proofs.YtgipnbeipfhekaaGreatDoor Go.Proofs.YtgipnbeipfhekaaGreatDoor.Base Go.Proofs.YtgipnbeipfhekaaGreatDoor.Mem Go.Proofs.YtgipnbeipfhekaaGreatDoor.Dec Go.Proofs.YtgipnbeipfhekaaGreatDoor.LabM
set_option linter.unusedVariables false
theorem dec_len {u : Nat} (h : u < 1000000) : 1 ≤ (Lib.decDigits u).length ∧ (Lib.decDigits u).length ≤ 6 := by
 rw [Lib.decDigits_length]
 refine ⟨Lib.nDigits_pos u, ?_⟩
 rw [← Lib.decDigits_length]
 by_cases h0 : u = 0
 ·subst h0; rw [Lib.decDigits_one (by decide)]; simp
 ·rw [← rd_rev u (by omega), List.length_reverse]
  exact rd_len 6 u h
end Go.Proofs.YtgipnbeipfhekaaGreatDoor.Jour
namespace Go.Proofs
open Go.Shelf
end Go.Proofs
namespace Go.Proofs.YtgipnbeipfhekaaGreatDoor.Jour
open Go.RowKit Go.Proofs.YtgipnbeipfhekaaGreatDoor Go.Proofs.YtgipnbeipfhekaaGreatDoor.Base Go.Proofs.YtgipnbeipfhekaaGreatDoor.Mem Go.Proofs.YtgipnbeipfhekaaGreatDoor.Dec Go.Proofs.YtgipnbeipfhekaaGreatDoor.LabM
set_option linter.unusedVariables false
def IsJ (B b : Nat) (l : List UInt8) (w : World) : Prop := Lib.IsBuilder 93 5 B b (Lib.byteCells l) w
theorem IsJ.below {B b : Nat} {l : List UInt8} {w w' : World} (h : IsJ B b l w) (hb : Below w.heap.size w w') : IsJ B b l w' := by
 rcases h with ⟨h1, v, h2, h3, h4⟩ | ⟨h1, v, h2, h3, h4⟩
 ·have hlt : b < w.heap.size := Lib.BuilderAt.lt ⟨h1, v, h2, h3, h4⟩
  exact .inl ⟨h1, v, (hb.block b hlt).trans h2, ownsRow_below h3 hb, h4⟩
 ·have hlt : b < w.heap.size := Lib.BuilderAt.lt ⟨h1, v, h2, h3, h4⟩
  exact .inr ⟨h1, v, (hb.block b hlt).trans h2, ownsRow_below h3 hb, h4⟩
end Go.Proofs.YtgipnbeipfhekaaGreatDoor.Jour
namespace Go.Proofs
open Go.Shelf
end Go.Proofs
namespace Go.Proofs.YtgipnbeipfhekaaGreatDoor.RecJ
open Go.RowKit Go.Proofs.YtgipnbeipfhekaaGreatDoor Go.Proofs.YtgipnbeipfhekaaGreatDoor.Base Go.Proofs.YtgipnbeipfhekaaGreatDoor.Mem Go.Proofs.YtgipnbeipfhekaaGreatDoor.Dec Go.Proofs.YtgipnbeipfhekaaGreatDoor.LabM Go.Proofs.YtgipnbeipfhekaaGreatDoor.Jour
set_option linter.unusedVariables false
inductive At (l : List UInt8) (c : UInt8) : Option Nat → Prop
 | no : Lib.indexByte l c = -1 → At l c none
 | yes {o : Nat} : Lib.indexByte l c = o → o < l.length → At l c (some o)
theorem at_any (l : List UInt8) (c : UInt8) : At l c none ∨ ∃ o, At l c (some o) := by
 by_cases h : Lib.indexByte l c = -1
 ·exact .inl (.no h)
 ·have h0 := Lib.indexByte_ge l c
  obtain ⟨o, ho⟩ := Int.eq_ofNat_of_zero_le (show 0 ≤ Lib.indexByte l c by omega)
  exact .inr ⟨o, .yes ho (List.getElem?_eq_some_iff.1 (Lib.indexByte_some ho).1).1⟩
theorem At.uniq {l : List UInt8} {c : UInt8} {a b : Option Nat} (h : At l c a) (k : At l c b) : a = b := by
 cases h with
 | no h =>
  cases k with
  | no _ => rfl
  | yes k _ => omega
 | yes h _ =>
  cases k with
  | no k => omega
  | yes k _ => congr 1; omega
theorem At.of {l : List UInt8} {c : UInt8} {o : Nat} (h : l[o]? = some c) (k : ∀ j, j < o → l[j]? ≠ some c) : At l c (some o) := by
 rcases at_any l c with h1 | ⟨p, h1⟩
 ·cases h1 with
  | no e => exact absurd h (Lib.indexByte_none e o)
 ·have hp := h1
  cases h1 with
  | yes e hlt =>
   obtain ⟨e1, e2⟩ := Lib.indexByte_some e
   have : p = o := by
    rcases Nat.lt_trichotomy p o with q | q | q
    ·exact absurd e1 (k p q)
    ·exact q
    ·exact absurd h (e2 o q)
   rw [← this]; exact hp
theorem At.none_of {l : List UInt8} {c : UInt8} (k : ∀ j, j < l.length → l[j]? ≠ some c) : At l c none := by
 rcases at_any l c with h1 | ⟨p, h1⟩
 ·exact h1
 ·cases h1 with
  | yes e hlt => exact absurd (Lib.indexByte_some e).1 (k p hlt)
noncomputable def posOf (l : List UInt8) (c : UInt8) : Option Nat := if Lib.indexByte l c = -1 then none else some (Lib.indexByte l c).toNat
theorem At.pos {l : List UInt8} {c : UInt8} {a : Option Nat} (h : At l c a) : posOf l c = a := by
 cases h with
 | no e => rw [posOf, if_pos e]
 | yes e _ => rw [posOf, if_neg (by omega), e]; rfl
theorem pos_at (l : List UInt8) (c : UInt8) : At l c (posOf l c) := by
 rcases at_any l c with h | ⟨o, h⟩
 ·rw [h.pos]; exact h
 ·rw [h.pos]; exact h
end Go.Proofs.YtgipnbeipfhekaaGreatDoor.RecJ
namespace Go.Proofs.YtgipnbeipfhekaaGreatDoor.RecJ
open Go.RowKit Go.Proofs.YtgipnbeipfhekaaGreatDoor Go.Proofs.YtgipnbeipfhekaaGreatDoor.Base Go.Proofs.YtgipnbeipfhekaaGreatDoor.Mem Go.Proofs.YtgipnbeipfhekaaGreatDoor.Dec Go.Proofs.YtgipnbeipfhekaaGreatDoor.LabM Go.Proofs.YtgipnbeipfhekaaGreatDoor.Jour
set_option linter.unusedVariables false
def txs (ls : List (List UInt8)) : List ByteArray := ls.map tx
theorem txs_len (ls : List (List UInt8)) : (txs ls).length = ls.length := by simp [txs]
theorem txs_get (ls : List (List UInt8)) (i : Nat) (h : i < ls.length) : (txs ls).getD i ByteArray.empty = tx (ls.getD i []) := by simp [txs, List.getD, h]
end Go.Proofs.YtgipnbeipfhekaaGreatDoor.RecJ
namespace Go.Proofs
open Go.Shelf
def YtgipnbeipfhekaaGreatDoor.lays146_ren : Go.Shelf.Ren := ⟨fun | 146 => 44 | 221 => 85 | 268 => 136 | 138 => 52 | 143 => 103 | 195 => 101 | 197 => 183 | 218 => 102 | 219 => 163 | 260 => 218 | 217 => 207 | 225 => 208 | 224 => 209 | 267 => 210 | 266 => 234 | 314 => 235 | n => n, fun | 9 => 9 | 31 => 50 | 3 => 3 | 4 => 4 | 0 => 0 | 105 => 224 | 21 => 21 | 5 => 5 | 46 => 118 | 119 => 262 | 139 => 265 | 138 => 264 | 146 => 257 | 51 => 221 | n => n, fun | 1 => 0 | 3 => 6 | 4 => 7 | n => n⟩
theorem YtgipnbeipfhekaaGreatDoor.lays146 : Go.Proofs.Lays.n146 Tryz.prog YtgipnbeipfhekaaGreatDoor.lays146_ren := {
 mixed := by kernel_rfl
 f138 := Tryz.func52.trans (congrArg some (by kernel_rfl))
 f143 := Tryz.func103.trans (congrArg some (by kernel_rfl))
 f146 := Tryz.func44.trans (congrArg some (by kernel_rfl))
 f195 := Tryz.func101.trans (congrArg some (by kernel_rfl))
 f197 := Tryz.func183.trans (congrArg some (by kernel_rfl))
 f217 := Tryz.func207.trans (congrArg some (by kernel_rfl))
 f218 := Tryz.func102.trans (congrArg some (by kernel_rfl))
 f219 := Tryz.func163.trans (congrArg some (by kernel_rfl))
 f221 := Tryz.func85.trans (congrArg some (by kernel_rfl))
 f224 := Tryz.func209.trans (congrArg some (by kernel_rfl))
 f225 := Tryz.func208.trans (congrArg some (by kernel_rfl))
 f260 := Tryz.func218.trans (congrArg some (by kernel_rfl))
 f266 := Tryz.func234.trans (congrArg some (by kernel_rfl))
 f267 := Tryz.func210.trans (congrArg some (by kernel_rfl))
 f268 := Tryz.func136.trans (congrArg some (by kernel_rfl))
 f314 := Tryz.func235.trans (congrArg some (by kernel_rfl))
 t0 := Tryz.underlying0
 a0 := Tryz.isAgg0
 z0 := Tryz.sizeOf0
 v0 := Tryz.zeroValue0
 t3 := Tryz.underlying3
 a3 := Tryz.isAgg3
 z3 := Tryz.sizeOf3
 v3 := Tryz.zeroValue3
 t4 := Tryz.underlying4
 a4 := Tryz.isAgg4
 z4 := Tryz.sizeOf4
 v4 := Tryz.zeroValue4
 t5 := Tryz.underlying5
 a5 := Tryz.isAgg5
 z5 := Tryz.sizeOf5
 v5 := Tryz.zeroValue5
 t9 := Tryz.underlying9
 a9 := Tryz.isAgg9
 z9 := Tryz.sizeOf9
 v9 := Tryz.zeroValue9
 t21 := Tryz.underlying21
 a21 := Tryz.isAgg21
 z21 := Tryz.sizeOf21
 v21 := Tryz.zeroValue21
 t31 := Tryz.underlying50
 a31 := Tryz.isAgg50
 z31 := Tryz.sizeOf50
 v31 := Tryz.zeroValue50
 t46 := Tryz.underlying118
 a46 := Tryz.isAgg118
 z46 := Tryz.sizeOf118
 v46 := Tryz.zeroValue118
 t51 := Tryz.underlying221
 a51 := Tryz.isAgg221
 z51 := Tryz.sizeOf221
 v51 := Tryz.zeroValue221
 t105 := Tryz.underlying224
 a105 := Tryz.isAgg224
 z105 := Tryz.sizeOf224
 v105 := Tryz.zeroValue224
 t119 := Tryz.underlying262
 a119 := Tryz.isAgg262
 z119 := Tryz.sizeOf262
 t138 := Tryz.underlying264
 a138 := Tryz.isAgg264
 z138 := Tryz.sizeOf264
 v138 := Tryz.zeroValue264
 t139 := Tryz.underlying265
 a139 := Tryz.isAgg265
 z139 := Tryz.sizeOf265
 v139 := Tryz.zeroValue265
 t146 := Tryz.underlying257
 a146 := Tryz.isAgg257
 z146 := Tryz.sizeOf257
 v146 := Tryz.zeroValue257
 g1 := by kernel_rfl
 g3 := by kernel_rfl
 g4 := by kernel_rfl }
end Go.Proofs
namespace Go.Proofs.YtgipnbeipfhekaaGreatDoor.CutP
open Go.RowKit Go.Proofs.YtgipnbeipfhekaaGreatDoor Go.Proofs.YtgipnbeipfhekaaGreatDoor.Base Go.Proofs.YtgipnbeipfhekaaGreatDoor.Mem Go.Proofs.YtgipnbeipfhekaaGreatDoor.Dec Go.Proofs.YtgipnbeipfhekaaGreatDoor.LabM Go.Proofs.YtgipnbeipfhekaaGreatDoor.RecJ
set_option linter.unusedVariables false
noncomputable def cutR (c : UInt8) (l : List UInt8) : List (List UInt8) := match h : posOf l c with
 | none => [l]
 | some o => l.take o :: cutR c (l.drop (o + 1))
termination_by l.length
decreasing_by
 have := pos_at l c
 rw [h] at this
 cases this with
 | yes e hlt => rw [List.length_drop]; omega
theorem cutR_no {c : UInt8} {l : List UInt8} (h : At l c none) : cutR c l = [l] := by
 rw [cutR]
 split
 ·rfl
 ·rename_i o ho
  rw [h.pos] at ho; cases ho
theorem cutR_yes {c : UInt8} {l : List UInt8} {o : Nat} (h : At l c (some o)) : cutR c l = l.take o :: cutR c (l.drop (o + 1)) := by
 rw [cutR]
 split
 ·rename_i ho
  rw [h.pos] at ho; cases ho
 ·rename_i p hp
  rw [h.pos] at hp; cases hp; rfl
theorem cutR_len (c : UInt8) : ∀ (n : Nat) (l : List UInt8), l.length ≤ n → 1 ≤ (cutR c l).length ∧ (cutR c l).length ≤ l.length + 1 ∧ ∀ e, e ∈ cutR c l → e.length ≤ l.length
 | n, l, h => by
  rcases at_any l c with h1 | ⟨o, h1⟩
  ·rw [cutR_no h1]; simp
  ·rw [cutR_yes h1]
   cases h1 with
   | yes e hlt =>
    cases n with
    | zero => omega
    | succ n =>
     obtain ⟨i0, i1, i2⟩ := cutR_len c n (l.drop (o + 1)) (by rw [List.length_drop]; omega)
     rw [List.length_drop] at i1
     refine ⟨by simp, by rw [List.length_cons]; omega, fun x hx => ?_⟩
     rcases List.mem_cons.1 hx with rfl | hx
     ·rw [List.length_take]; omega
     ·have := i2 x hx; rw [List.length_drop] at this; omega
def CutRet (l : List UInt8) (c : UInt8) (w : World) (e : Ending) (w' : World) : Prop := ∃ (A : Option Addr) (cp : Nat), e = .returned (.slice A (cutR c l).length cp) ∧ RdT w' w'.heap.size A (txs (cutR c l)) ∧ Below w.heap.size w w'
theorem splitK_cut (c : UInt8) : ∀ (n : Nat) (l : List UInt8), l.length ≤ n → Lib.splitK [c] 0 (Lib.count l [c]) l = cutR c l
 | n, l, h => by
  rcases at_any l c with h1 | ⟨o, h1⟩
  ·have hi : Lib.index l [c] = -1 := by rw [Lib.index_one]; cases h1 with | no e => exact e
   rw [Lib.count_miss hi, cutR_no h1]; rfl
  ·have hi : Lib.index l [c] = (o : Int) := by rw [Lib.index_one]; cases h1 with | yes e _ => exact e
   have hlt : o < l.length := by cases h1 with | yes _ e => exact e
   cases n with
   | zero => omega
   | succ n =>
    have ih := splitK_cut c n (l.drop (o + 1)) (by rw [List.length_drop]; omega)
    have hc := Lib.count_hit (s := l) (sub := [c]) (by simp) hi
    rw [show ([c] : List UInt8).length = 1 from rfl] at hc
    rw [cutR_yes h1, ← ih, hc, Nat.add_comm 1, Lib.splitK, if_neg (by rw [hi]; simp), hi]
    rfl
theorem splitB_cut (c : UInt8) (s : ByteArray) : Lib.splitB ⟨#[c]⟩ 0 (Lib.countB s ⟨#[c]⟩) s = txs (cutR c s.data.toList) := by
 have h := Lib.splitB_data ⟨#[c]⟩ 0 (Lib.countB s ⟨#[c]⟩) s
 have e : Lib.countB s ⟨#[c]⟩ = Lib.count s.data.toList [c] := rfl
 rw [e] at h ⊢
 rw [show (⟨#[c]⟩ : ByteArray).data.toList = [c] from rfl, splitK_cut c _ _ (Nat.le_refl _)] at h
 rw [← h, txs, List.map_map]
 have : (tx ∘ fun x : ByteArray => x.data.toList) = id := funext fun a => tx_list a
 rw [this, List.map_id]
theorem cutSplit_any (s : ByteArray) (c : UInt8) (hs : s.size ≤ 1048576) (m : Int) (w : World) (hm : w.cell? ⟨YtgipnbeipfhekaaGreatDoor.lays146_ren.g 1, 0, none⟩ = some (.int .i64 m)) : Calls Tryz.prog 44 #[.string s, .string ⟨#[c]⟩] w (CutRet s.data.toList c w) := by
 have et : YtgipnbeipfhekaaGreatDoor.lays146_ren.t 9 = 9 := by kernel_rfl
 refine (Any.strings_Split YtgipnbeipfhekaaGreatDoor.lays146 (by rw [et]; exact infoT) s ⟨#[c]⟩ m w (by omega) hm (Nat.le_refl 1)).mono ?_
 rintro e w' ⟨rfl, rfl⟩
 rw [et, splitB_cut]
 have hl := Lib.splitB_all ⟨#[c]⟩ (Nat.le_refl 1) 0 (Lib.countB s ⟨#[c]⟩) s rfl
 rw [splitB_cut, txs_len] at hl
 refine ⟨some ⟨w.heap.size, 0, none⟩, Lib.countB s ⟨#[c]⟩ + 1, by rw [hl], fun _ => ⟨w.heap.size, 0, rfl, by simp, fun i hi => ?_⟩, (Below.refl _ _).alloc (Nat.le_refl _) _⟩
 have hcell : (w.alloc (.cells ((txs (cutR c s.data.toList)).map Value.string).toArray 9)).heap[w.heap.size]? = some (.cells ((txs (cutR c s.data.toList)).map Value.string).toArray 9 (0, 0)) := by
  show (w.heap.push _)[w.heap.size]? = _
  simp
 rw [Lib.cell_of_heap hcell]
 simp [List.getD, hi]
end Go.Proofs.YtgipnbeipfhekaaGreatDoor.CutP
namespace Go.Proofs.YtgipnbeipfhekaaGreatDoor.Dec
open Go.RowKit Go.Proofs.YtgipnbeipfhekaaGreatDoor Go.Proofs.YtgipnbeipfhekaaGreatDoor.Base Go.Proofs.YtgipnbeipfhekaaGreatDoor.Mem
set_option linter.unusedVariables false
theorem decimalZ_any (v : Int) (h1 : -9223372036854775807 ≤ v) (h2 : v ≤ 9223372036854775807) (B : Nat) (w : World) (hp : Pow B w) (hB : B ≤ w.heap.size) : Calls Tryz.prog 15 #[.int .i64 v] w fun e w' => e = .returned (.string (tx (Lib.itoa v))) ∧ Below w.heap.size w w' := by
 have HC := Lib.hid (Any.strconv_FormatInt_10 YtgipnbeipfhekaaGreatDoor.lays173 v (by omega) (by omega) w (Lib.TabBelow.here hp))
 clear hp
 go_enter Tryz.func15, Tryz.ntmps15
 go_wp2_with fail
 refine HC.out.mono ?_
 rintro e w' ⟨rfl, k, os, rfl⟩
 have hb := Lib.hid (below_grow _ w k os (Nat.le_refl _))
 go_wp2
 go_ret
 exact ⟨rfl, hb.out⟩
end Go.Proofs.YtgipnbeipfhekaaGreatDoor.Dec
namespace Go.Proofs
open Go.Shelf
def YtgipnbeipfhekaaGreatDoor.lays174_ren : Go.Shelf.Ren := ⟨fun | 174 => 189 | 247 => 225 | 245 => 226 | 287 => 240 | 279 => 241 | 280 => 242 | 281 => 243 | 282 => 244 | 321 => 255 | 322 => 256 | 316 => 257 | 171 => 259 | 205 => 258 | 243 => 261 | 246 => 81 | 283 => 132 | 284 => 133 | 285 => 134 | 286 => 135 | 129 => 179 | 317 => 178 | 318 => 180 | 319 => 181 | 320 => 182 | 337 => 216 | 338 => 217 | n => n, fun | 9 => 9 | 3 => 3 | 2 => 2 | 75 => 97 | 85 => 231 | 4 => 4 | 167 => 266 | 5 => 5 | 53 => 114 | 175 => 267 | 46 => 118 | 168 => 269 | 37 => 22 | 0 => 0 | 210 => 283 | 21 => 21 | 127 => 141 | 145 => 287 | 143 => 285 | 171 => 177 | 173 => 180 | 212 => 220 | 51 => 221 | 20 => 20 | 213 => 222 | 232 => 260 | 233 => 261 | 80 => 101 | n => n, fun | 15 => 8 | 16 => 9 | 17 => 1 | 18 => 4 | 19 => 5 | n => n⟩
theorem YtgipnbeipfhekaaGreatDoor.lays174 : Go.Proofs.LaysC.n174 Tryz.prog YtgipnbeipfhekaaGreatDoor.lays174_ren := {
 mixed := by kernel_rfl
 f129 := Tryz.func179.trans (congrArg some (by kernel_rfl))
 f171 := Tryz.func259.trans (congrArg some (by kernel_rfl))
 f174 := Tryz.func189.trans (congrArg some (by kernel_rfl))
 f205 := Tryz.func258.trans (congrArg some (by kernel_rfl))
 f243 := Tryz.func261.trans (congrArg some (by kernel_rfl))
 f245 := Tryz.func226.trans (congrArg some (by kernel_rfl))
 f246 := Tryz.func81.trans (congrArg some (by kernel_rfl))
 f247 := Tryz.func225.trans (congrArg some (by kernel_rfl))
 f279 := Tryz.func241.trans (congrArg some (by kernel_rfl))
 f280 := Tryz.func242.trans (congrArg some (by kernel_rfl))
 f281 := Tryz.func243.trans (congrArg some (by kernel_rfl))
 f282 := Tryz.func244.trans (congrArg some (by kernel_rfl))
 f283 := Tryz.func132.trans (congrArg some (by kernel_rfl))
 f284 := Tryz.func133.trans (congrArg some (by kernel_rfl))
 f285 := Tryz.func134.trans (congrArg some (by kernel_rfl))
 f286 := Tryz.func135.trans (congrArg some (by kernel_rfl))
 f287 := Tryz.func240.trans (congrArg some (by kernel_rfl))
 f316 := Tryz.func257.trans (congrArg some (by kernel_rfl))
 f317 := Tryz.func178.trans (congrArg some (by kernel_rfl))
 f318 := Tryz.func180.trans (congrArg some (by kernel_rfl))
 f319 := Tryz.func181.trans (congrArg some (by kernel_rfl))
 f320 := Tryz.func182.trans (congrArg some (by kernel_rfl))
 f321 := Tryz.func255.trans (congrArg some (by kernel_rfl))
 f322 := Tryz.func256.trans (congrArg some (by kernel_rfl))
 f337 := Tryz.func216.trans (congrArg some (by kernel_rfl))
 f338 := Tryz.func217.trans (congrArg some (by kernel_rfl))
 t0 := Tryz.underlying0
 a0 := Tryz.isAgg0
 z0 := Tryz.sizeOf0
 v0 := Tryz.zeroValue0
 t2 := Tryz.underlying2
 a2 := Tryz.isAgg2
 z2 := Tryz.sizeOf2
 v2 := Tryz.zeroValue2
 t3 := Tryz.underlying3
 a3 := Tryz.isAgg3
 z3 := Tryz.sizeOf3
 v3 := Tryz.zeroValue3
 t4 := Tryz.underlying4
 a4 := Tryz.isAgg4
 z4 := Tryz.sizeOf4
 v4 := Tryz.zeroValue4
 t5 := Tryz.underlying5
 a5 := Tryz.isAgg5
 z5 := Tryz.sizeOf5
 v5 := Tryz.zeroValue5
 t9 := Tryz.underlying9
 a9 := Tryz.isAgg9
 z9 := Tryz.sizeOf9
 v9 := Tryz.zeroValue9
 t20 := Tryz.underlying20
 a20 := Tryz.isAgg20
 z20 := Tryz.sizeOf20
 v20 := Tryz.zeroValue20
 t21 := Tryz.underlying21
 a21 := Tryz.isAgg21
 z21 := Tryz.sizeOf21
 v21 := Tryz.zeroValue21
 t37 := Tryz.underlying22
 a37 := Tryz.isAgg22
 z37 := Tryz.sizeOf22
 v37 := Tryz.zeroValue22
 t46 := Tryz.underlying118
 a46 := Tryz.isAgg118
 z46 := Tryz.sizeOf118
 v46 := Tryz.zeroValue118
 t51 := Tryz.underlying221
 a51 := Tryz.isAgg221
 z51 := Tryz.sizeOf221
 v51 := Tryz.zeroValue221
 t53 := Tryz.underlying114
 a53 := Tryz.isAgg114
 z53 := Tryz.sizeOf114
 v53 := Tryz.zeroValue114
 t75 := Tryz.underlying97
 a75 := Tryz.isAgg97
 z75 := Tryz.sizeOf97
 v75 := Tryz.zeroValue97
 t85 := Tryz.underlying231
 a85 := Tryz.isAgg231
 z85 := Tryz.sizeOf231
 v85 := Tryz.zeroValue231
 t127 := Tryz.underlying141
 a127 := Tryz.isAgg141
 z127 := Tryz.sizeOf141
 v127 := Tryz.zeroValue141
 t143 := Tryz.underlying285
 a143 := Tryz.isAgg285
 z143 := Tryz.sizeOf285
 v143 := Tryz.zeroValue285
 t145 := Tryz.underlying287
 a145 := Tryz.isAgg287
 z145 := Tryz.sizeOf287
 v145 := Tryz.zeroValue287
 t167 := Tryz.underlying266
 a167 := Tryz.isAgg266
 z167 := Tryz.sizeOf266
 v167 := Tryz.zeroValue266
 t168 := Tryz.underlying269
 a168 := Tryz.isAgg269
 z168 := Tryz.sizeOf269
 v168 := Tryz.zeroValue269
 t171 := Tryz.underlying177
 a171 := Tryz.isAgg177
 z171 := Tryz.sizeOf177
 v171 := Tryz.zeroValue177
 t173 := Tryz.underlying180
 a173 := Tryz.isAgg180
 z173 := Tryz.sizeOf180
 v173 := Tryz.zeroValue180
 t175 := Tryz.underlying267
 a175 := Tryz.isAgg267
 z175 := Tryz.sizeOf267
 v175 := Tryz.zeroValue267
 t210 := Tryz.underlying283
 a210 := Tryz.isAgg283
 z210 := Tryz.sizeOf283
 v210 := Tryz.zeroValue283
 t212 := Tryz.underlying220
 a212 := Tryz.isAgg220
 z212 := Tryz.sizeOf220
 v212 := Tryz.zeroValue220
 t213 := Tryz.underlying222
 a213 := Tryz.isAgg222
 z213 := Tryz.sizeOf222
 t232 := Tryz.underlying260
 a232 := Tryz.isAgg260
 z232 := Tryz.sizeOf260
 v232 := Tryz.zeroValue260
 t233 := Tryz.underlying261
 a233 := Tryz.isAgg261
 z233 := Tryz.sizeOf261
 v233 := Tryz.zeroValue261
 g15 := by kernel_rfl
 g16 := by kernel_rfl
 g17 := by kernel_rfl
 g18 := by kernel_rfl
 g19 := by kernel_rfl
 t80 := Tryz.underlying101
 a80 := Tryz.isAgg101
 z80 := Tryz.sizeOf101
 v80 := Tryz.zeroValue101
 i0 := by kernel_rfl
 i2 := by kernel_rfl
 i3 := by kernel_rfl
 i4 := by kernel_rfl
 i5 := by kernel_rfl
 i9 := by kernel_rfl
 i20 := by kernel_rfl
 i21 := by kernel_rfl
 i37 := by kernel_rfl
 i46 := by kernel_rfl
 i51 := by kernel_rfl
 i53 := by kernel_rfl
 i75 := by kernel_rfl
 i80 := by kernel_rfl
 i85 := by kernel_rfl
 i127 := by kernel_rfl
 i143 := by kernel_rfl
 i145 := by kernel_rfl
 i167 := by kernel_rfl
 i168 := by kernel_rfl
 i171 := by kernel_rfl
 i173 := by kernel_rfl
 i175 := by kernel_rfl
 i210 := by kernel_rfl
 i212 := by kernel_rfl
 i232 := by kernel_rfl
 i233 := by kernel_rfl
 m15 := by kernel_rfl
 m16 := by kernel_rfl
 m17 := by kernel_rfl
 m18 := by kernel_rfl
 m19 := by kernel_rfl
 c0 := by kernel_rfl
 c2 := by kernel_rfl
 c3 := by kernel_rfl
 c4 := by kernel_rfl
 c5 := by kernel_rfl
 c9 := by kernel_rfl
 c20 := by kernel_rfl
 c21 := by kernel_rfl
 c37 := by kernel_rfl
 c46 := by kernel_rfl
 c51 := by kernel_rfl
 c53 := by kernel_rfl
 c75 := by kernel_rfl
 c80 := by kernel_rfl
 c85 := by kernel_rfl
 c127 := by kernel_rfl
 c143 := by kernel_rfl
 c145 := by kernel_rfl
 c167 := by kernel_rfl
 c168 := by kernel_rfl
 c171 := by kernel_rfl
 c173 := by kernel_rfl
 c175 := by kernel_rfl
 c210 := by kernel_rfl
 c212 := by kernel_rfl
 c213 := by kernel_rfl
 c232 := by kernel_rfl
 c233 := by kernel_rfl }
end Go.Proofs
namespace Go.Proofs.YtgipnbeipfhekaaGreatDoor.Val
open Go.RowKit Go.Proofs.YtgipnbeipfhekaaGreatDoor Go.Proofs.YtgipnbeipfhekaaGreatDoor.Base Go.Proofs.YtgipnbeipfhekaaGreatDoor.Mem Go.Proofs.YtgipnbeipfhekaaGreatDoor.Dec
set_option linter.unusedVariables false
def foldD (a : Nat) (l : List UInt8) : Nat := l.foldl (fun a c => a * 10 + (c.toNat - 48)) a
def digs (l : List UInt8) : Prop := ∀ c ∈ l, 48 ≤ c.toNat ∧ c.toNat ≤ 57
theorem foldD_ge : ∀ (l : List UInt8) (a : Nat), a ≤ foldD a l
 | [], a => Nat.le_refl _
 | c :: r, a => by
  have := foldD_ge r (a * 10 + (c.toNat - 48))
  show a ≤ foldD (a * 10 + (c.toNat - 48)) r
  omega
theorem foldD_app (a : Nat) (l m : List UInt8) : foldD a (l ++ m) = foldD (foldD a l) m := by simp [foldD, List.foldl_append]
theorem digs_dec : ∀ (u : Nat), digs (Lib.decDigits u) ∧ foldD 0 (Lib.decDigits u) = u := by
 intro u
 induction u using Nat.strongRecOn with
 | _ u ih =>
  rw [Lib.decDigits]
  by_cases h10 : u < 10
  ·rw [dif_pos h10]
   refine ⟨fun c hc => ?_, ?_⟩
   ·obtain rfl := List.mem_singleton.1 hc
    rw [byte_small (by omega)]; omega
   ·show 0 * 10 + ((UInt8.ofNat (48 + u)).toNat - 48) = u
    rw [byte_small (by omega)]; omega
  ·rw [dif_neg h10]
   obtain ⟨i1, i2⟩ := ih (u / 10) (by omega)
   refine ⟨fun c hc => ?_, ?_⟩
   ·rcases List.mem_append.1 hc with h | h
    ·exact i1 c h
    ·obtain rfl := List.mem_singleton.1 h
     rw [byte_small (by omega)]; omega
   ·rw [foldD_app, i2]
    show u / 10 * 10 + ((UInt8.ofNat (48 + u % 10)).toNat - 48) = u
    rw [byte_small (by omega)]; omega
theorem dec_ne (u : Nat) : 1 ≤ (Lib.decDigits u).length := by
 rw [Lib.decDigits_length]; exact Lib.nDigits_pos u
theorem parseM_digs : ∀ (l : List UInt8) (a : Nat), digs l → foldD a l ≤ 1000000000000000000 → Lib.parseUintM (2 ^ 64 - 1) a l = .ok (foldD a l)
 | [], a, _, _ => rfl
 | c :: r, a, hd, hb => by
  have h1 := hd c List.mem_cons_self
  have h2 := foldD_ge r (a * 10 + (c.toNat - 48))
  have h3 : foldD a (c :: r) = foldD (a * 10 + (c.toNat - 48)) r := rfl
  rw [h3] at hb ⊢
  rw [Lib.parseUintM, if_pos h1, if_neg (by omega), if_neg (by omega)]
  exact parseM_digs r _ (fun x hx => hd x (List.mem_cons_of_mem _ hx)) hb
def isVal (e : List UInt8) (v : Int) : Prop := Lib.itoa v = e ∧ -1000000000000000 ≤ v ∧ v ≤ 1000000000000000
theorem parse_val {e : List UInt8} {v : Int} (h : isVal e v) : Lib.parseIntB 64 e = .ok v := by
 obtain ⟨rfl, h1, h2⟩ := h
 by_cases hn : v < 0
 ·obtain ⟨u, rfl⟩ : ∃ u : Nat, v = -(u : Int) := ⟨(-v).toNat, by omega⟩
  obtain ⟨d1, d2⟩ := digs_dec u
  have hne : Lib.decDigits u ≠ [] := fun h => by have := dec_ne u; rw [h] at this; simp at this
  rw [Lib.itoa_neg u (by omega), Lib.parseIntB_minus, Lib.parseUintB, if_neg hne, parseM_digs _ _ d1 (by rw [d2]; omega), d2, Lib.signedC, if_neg (by omega)]
 ·obtain ⟨u, rfl⟩ := Int.eq_ofNat_of_zero_le (show 0 ≤ v by omega)
  obtain ⟨d1, d2⟩ := digs_dec u
  have hl := dec_ne u
  rw [show Lib.itoa ((u : Nat) : Int) = Lib.decDigits u from Lib.itoa_nonneg u]
  have hp := parseM_digs (Lib.decDigits u) 0 d1 (by rw [d2]; omega)
  rw [d2] at hp
  generalize Lib.decDigits u = l at *
  cases l with
  | nil => simp at hl
  | cons c r =>
   have hc := d1 c List.mem_cons_self
   rw [Lib.parseIntB_plain 64 c r (by omega) (by omega), Lib.parseUintB, if_neg (by simp), hp, Lib.signlessC, if_neg (by omega)]
def ValRet (e : List UInt8) (w : World) (en : Ending) (w' : World) : Prop := ∃ (v : Int) (b : Bool), en = .returned (.tuple #[.int .i64 v, .bool b]) ∧ (b = true → isVal e v) ∧ (b = false → v = 0 ∧ ∀ v', ¬ isVal e v') ∧ Below w.heap.size w w'
noncomputable def valO (e : List UInt8) : Option Int := match Lib.parseIntB 64 e with
 | .ok v => if Lib.itoa v = e ∧ -1000000000000000 ≤ v ∧ v ≤ 1000000000000000 then some v else none
 | _ => none
theorem valO_yes {e : List UInt8} {v : Int} (h : isVal e v) : valO e = some v := by
 have hp := parse_val h
 rw [valO, hp]
 exact if_pos h
theorem valO_no {e : List UInt8} (h : ∀ v, ¬ isVal e v) : valO e = none := by
 unfold valO
 split
 ·rename_i v _
  exact if_neg (h v)
 ·rfl
def Errs (B : Nat) (w : World) : Prop := ∃ e1 e2 : Value, YtgipnbeipfhekaaGreatDoor.lays174_ren.g 15 < B ∧ YtgipnbeipfhekaaGreatDoor.lays174_ren.g 16 < B ∧ w.cell? ⟨YtgipnbeipfhekaaGreatDoor.lays174_ren.g 15, 0, none⟩ = some e1 ∧ w.cell? ⟨YtgipnbeipfhekaaGreatDoor.lays174_ren.g 16, 0, none⟩ = some e2 ∧ (e1 = .nilIface ∨ ∃ te pe, e1 = .iface te pe) ∧ (e2 = .nilIface ∨ ∃ te pe, e2 = .iface te pe)
theorem Errs.on {B : Nat} {w w' : World} (h : Errs B w) (hb : Below B w w') : Errs B w' := by
 obtain ⟨e1, e2, h1, h2, h3, h4, h5, h6⟩ := h
 exact ⟨e1, e2, h1, h2, (hb.cell (p := ⟨_, 0, none⟩) h1).trans h3, (hb.cell (p := ⟨_, 0, none⟩) h2).trans h4, h5, h6⟩
set_option maxHeartbeats 2000000 in
set_option maxRecDepth 100000 in
theorem readDec_any (s : ByteArray) (hs : s.size ≤ 1048576) (B : Nat) (w : World) (hp : Pow B w) (he : Errs B w) (hB : B ≤ w.heap.size) : Calls Tryz.prog 141 #[.string s] w (ValRet s.data.toList w) := by
 obtain ⟨e1, e2, h1, h2, h3, h4, h5, h6⟩ := he
 rcases hP : Lib.parseIntB 64 s.data.toList with v | _ | _
 ·skip
  have HC := Lib.hid (Any.strconv_ParseInt_10_at64_ok YtgipnbeipfhekaaGreatDoor.lays174 s (by omega) v hP w)
  have hbd := Lib.parseIntB_bounds hP
  have HR := Lib.hid (fun w => inRange_any v (-1000000000000000) 1000000000000000 w)
  have HPw := Lib.hid hp
  have HPP := Lib.hid hP
  clear hP hp h1 h2 h3 h4 h5 h6
  by_cases hin : -1000000000000000 ≤ v ∧ v ≤ 1000000000000000
  ·rw [inR_yes hin] at HR
   have HD := Lib.hid (fun (w1 : World) (hb : Below w.heap.size w w1) => decimalZ_any v (by omega) (by omega) B w1 (HPw.out.on (hb.mono hB)) (Nat.le_trans hB hb.size))
   go_enter Tryz.func141, Tryz.ntmps141
   go_wp2_with fail
   refine HC.out.mono ?_
   rintro e w1 ⟨rfl, hw⟩
   have hb1 : Below w.heap.size w w1 := by
    rcases hw with rfl | ⟨t, rfl⟩
    ·exact Below.refl _ _
    ·exact Lib.bytesWorld_below _ _ _
   have HB1 := Lib.hid hb1
   clear hw hb1
   go_wp2_with fail
   refine (HR.out _).mono ?_
   rintro e w' ⟨rfl, rfl⟩
   go_wp2_with fail
   refine (HD.out _ HB1.out).mono ?_
   rintro e w2 ⟨rfl, hb2⟩
   have HB2 := Lib.hid (Base.Below.nextA HB1.out hb2)
   clear hb2
   by_cases hq : Lib.itoa v = s.data.toList
   ·have e1 : tx (Lib.itoa v) = s := by rw [hq]
    rw [e1]
    have HY : Hid (isVal s.data.toList v) := Lib.hid ⟨hq, hin⟩
    have hbe : (s.toList == s.toList) = true := by simp
    clear hq e1
    go_wp2
    go_ret2
    exact ⟨v, true, rfl, fun _ => HY.out, fun h => (by cases h), HB2.out⟩
   ·have e1 : ((tx (Lib.itoa v)).toList == s.toList) = false := beq_eq_false_iff_ne.2 (fun h => hq (by rw [ByteArray.toList_eq, ByteArray.toList_eq, list_tx] at h; exact h))
    have HN : Hid (∀ v', ¬ isVal s.data.toList v') := Lib.hid fun v' h => by
     have := parse_val h
     rw [HPP.out] at this
     injection this with this
     subst this
     exact hq h.1
    clear hq
    generalize tx (Lib.itoa v) = d at *
    go_wp2
    go_ret2
    exact ⟨0, false, rfl, fun h => (by cases h), fun _ => ⟨rfl, HN.out⟩, HB2.out⟩
  ·have hno : inR v (-1000000000000000) 1000000000000000 = false := by
    cases h : inR v (-1000000000000000) 1000000000000000 with
    | false => rfl
    | true => exact absurd (inR_true h) hin
   rw [hno] at HR
   have HN : Hid (∀ v', ¬ isVal s.data.toList v') := Lib.hid fun v' h => by
    have := parse_val h
    rw [HPP.out] at this
    injection this with this
    subst this
    exact hin h.2
   clear hno
   go_enter Tryz.func141, Tryz.ntmps141
   go_wp2_with fail
   refine HC.out.mono ?_
   rintro e w1 ⟨rfl, hw⟩
   have hb1 : Below w.heap.size w w1 := by
    rcases hw with rfl | ⟨t, rfl⟩
    ·exact Below.refl _ _
    ·exact Lib.bytesWorld_below _ _ _
   have HB1 := Lib.hid hb1
   clear hw hb1
   go_wp2_with fail
   refine (HR.out _).mono ?_
   rintro e w' ⟨rfl, rfl⟩
   go_wp2
   go_ret2
   exact ⟨0, false, rfl, fun h => (by cases h), fun _ => ⟨rfl, HN.out⟩, HB1.out⟩
 ·skip
  have HC := Lib.hid (Any.strconv_ParseInt_10_at64_syntax YtgipnbeipfhekaaGreatDoor.lays174 s (by omega) hP e1 w h3 h5)
  have HN : Hid (∀ v', ¬ isVal s.data.toList v') := Lib.hid fun v' h => by have := parse_val h; rw [hP] at this; cases this
  clear hP hp h1 h2 h3 h4
  go_enter Tryz.func141, Tryz.ntmps141
  go_wp2_with fail
  refine HC.out.mono ?_
  rintro e w' ⟨N, rfl, hN, _, hb⟩
  go_wp2
  go_ret2
  exact ⟨0, false, rfl, fun h => (by cases h), fun _ => ⟨rfl, HN.out⟩, hb⟩
 ·skip
  have HC := Lib.hid (Any.strconv_ParseInt_10_at64_range YtgipnbeipfhekaaGreatDoor.lays174 s (by omega) hP e2 w h4 h6)
  have HN : Hid (∀ v', ¬ isVal s.data.toList v') := Lib.hid fun v' h => by have := parse_val h; rw [hP] at this; cases this
  clear hP hp h1 h2 h3 h4
  go_enter Tryz.func141, Tryz.ntmps141
  go_wp2_with fail
  refine HC.out.mono ?_
  rintro e w' ⟨N, rfl, hN, _, hb⟩
  go_wp2
  go_ret2
  exact ⟨0, false, rfl, fun h => (by cases h), fun _ => ⟨rfl, HN.out⟩, hb⟩
end Go.Proofs.YtgipnbeipfhekaaGreatDoor.Val
namespace Go.Proofs.YtgipnbeipfhekaaGreatDoor.Val
open Go.RowKit Go.Proofs.YtgipnbeipfhekaaGreatDoor Go.Proofs.YtgipnbeipfhekaaGreatDoor.Base Go.Proofs.YtgipnbeipfhekaaGreatDoor.Mem Go.Proofs.YtgipnbeipfhekaaGreatDoor.Dec
set_option linter.unusedVariables false
theorem itoa_pos (u : Nat) : Lib.itoa ((u : Nat) : Int) = Lib.decDigits u := Lib.itoa_nonneg u
end Go.Proofs.YtgipnbeipfhekaaGreatDoor.Val
namespace Go.Proofs.YtgipnbeipfhekaaGreatDoor.Rd
open Go.RowKit Go.Proofs.YtgipnbeipfhekaaGreatDoor Go.Proofs.YtgipnbeipfhekaaGreatDoor.Base Go.Proofs.YtgipnbeipfhekaaGreatDoor.Mem Go.Proofs.YtgipnbeipfhekaaGreatDoor.Dec Go.Proofs.YtgipnbeipfhekaaGreatDoor.LabM Go.Proofs.YtgipnbeipfhekaaGreatDoor.RecJ Go.Proofs.YtgipnbeipfhekaaGreatDoor.CutP Go.Proofs.YtgipnbeipfhekaaGreatDoor.Val Go.Proofs.YtgipnbeipfhekaaGreatDoor.Str Go.Proofs.YtgipnbeipfhekaaGreatDoor.Take
set_option linter.unusedVariables false
theorem below7 {B b : Nat} {w0 w : World} (h : Below B w0 w) (hB : B ≤ b) (hs : B ≤ w.heap.size) (K W T m f a s : Int) : Below B w0 (set7 w b K W T m f a s) :=
 h.trans (grown_below (grown_set7 w b K W T m f a s) (fun g e => by cases e; exact hB) hs)
theorem ownNotStr {w : World} {B b n : Nat} {v : Value} {xs : List Value} {K W T m f a s : Int} (h : w.ownsRow B 2 1 v n xs) (hb : SBox w b K W T m f a s) : v.ownBlock ≠ some b := fun he => by
 obtain ⟨cur, h1, _⟩ := ownsRow_block h he
 unfold SBox at hb
 rw [hb] at h1
 injection h1 with h1
 injection h1 with _ h2
 cases h2
noncomputable def nsOf (ws : List (List UInt8)) : List Int := ws.map fun e => (valO e).getD 0
def okW (ws : List (List UInt8)) : Prop := ∀ e ∈ ws, ∃ v, valO e = some v
theorem nsOf_len (ws : List (List UInt8)) : (nsOf ws).length = ws.length := by simp [nsOf]
theorem nsOf_snoc (ws : List (List UInt8)) (e : List UInt8) {v : Int} (h : valO e = some v) : nsOf (ws ++ [e]) = nsOf ws ++ [v] := by simp [nsOf, h]
abbrev S7 := Int × Int × Int × Int × Int × Int × Int
def stO (w0 : List UInt8) (ns : List Int) : Option S7 :=
 if w0 = [114] ∧ ns.length = 3 then some (0, ns.getD 0 0, ns.getD 1 0, 0, 0, 0, ns.getD 2 0)
 else if w0 = [99] ∧ ns.length = 4 then some (1, 0, 0, ns.getD 0 0, ns.getD 1 0, ns.getD 2 0, ns.getD 3 0) else none
def validS (t : S7) : Bool := streamB t.1 t.2.1 t.2.2.1 t.2.2.2.1 t.2.2.2.2.1 t.2.2.2.2.2.1 t.2.2.2.2.2.2
open Classical in
noncomputable def rdO (l : List UInt8) : Option S7 :=
 if okW ((cutR 58 l).drop 1) then (match stO ((cutR 58 l).getD 0 []) (nsOf ((cutR 58 l).drop 1)) with
  | some t => if validS t = true then some t else none
  | none => none) else none
theorem rdO_bad {l : List UInt8} (h : ¬ okW ((cutR 58 l).drop 1)) : rdO l = none := by unfold rdO; rw [if_neg h]
theorem rdO_none {l : List UInt8} (h : okW ((cutR 58 l).drop 1)) (h2 : stO ((cutR 58 l).getD 0 []) (nsOf ((cutR 58 l).drop 1)) = none) : rdO l = none := by unfold rdO; rw [if_pos h, h2]
theorem rdO_some {l : List UInt8} {t : S7} (h : okW ((cutR 58 l).drop 1)) (h2 : stO ((cutR 58 l).getD 0 []) (nsOf ((cutR 58 l).drop 1)) = some t) : rdO l = if validS t = true then some t else none := by unfold rdO; rw [if_pos h, h2]
def RdRet (R : Option S7) (w : World) (e : Ending) (w' : World) : Prop :=
 (∀ K W T m f a s, R = some (K, W, T, m, f, a, s) → streamB K W T m f a s = true ∧ e = .returned (.tuple #[.agg #[.int .i64 K, .int .i64 W, .int .i64 T, .int .i64 m, .int .i64 f, .int .i64 a, .int .i64 s], .bool true])) ∧ (R = none → e = .returned (.tuple #[.agg #[.int .i64 0, .int .i64 0, .int .i64 0, .int .i64 0, .int .i64 0, .int .i64 0, .int .i64 0], .bool false])) ∧ Below w.heap.size w w'
theorem RdRet.no {R : Option S7} {w w' : World} {e : Ending} (h : R = none) (he : e = .returned (.tuple #[.agg #[.int .i64 0, .int .i64 0, .int .i64 0, .int .i64 0, .int .i64 0, .int .i64 0, .int .i64 0], .bool false])) (hb : Below w.heap.size w w') : RdRet R w e w' :=
 ⟨fun _ _ _ _ _ _ _ h1 => (by rw [h] at h1; cases h1), fun _ => he, hb⟩
theorem RdRet.yes {R : Option S7} {K W T m f a s : Int} {w w' : World} {e : Ending} (h : R = some (K, W, T, m, f, a, s)) (hv : streamB K W T m f a s = true) (he : e = .returned (.tuple #[.agg #[.int .i64 K, .int .i64 W, .int .i64 T, .int .i64 m, .int .i64 f, .int .i64 a, .int .i64 s], .bool true])) (hb : Below w.heap.size w w') : RdRet R w e w' :=
 ⟨fun _ _ _ _ _ _ _ h1 => (by rw [h] at h1; injection h1 with h1; injection h1 with e1 h1; injection h1 with e2 h1; injection h1 with e3 h1; injection h1 with e4 h1; injection h1 with e5 h1; injection h1 with e6 e7; subst e1 e2 e3 e4 e5 e6 e7; exact ⟨hv, he⟩), fun h1 => (by rw [h] at h1; cases h1), hb⟩
theorem cell_set7 {w : World} {b q i : Nat} {v : Value} (h : w.cell? ⟨b, i, none⟩ = some v) (hne : q ≠ b) (K W T m f a s : Int) : (set7 w q K W T m f a s).cell? ⟨b, i, none⟩ = some v := by
 have hn : ∀ j, (⟨q, j, none⟩ : Addr) ≠ ⟨b, i, none⟩ := fun j e => hne (congrArg Addr.block e)
 unfold Take.set7
 rw [World.cell?_setCell_other _ _ _ _ (hn 6), World.cell?_setCell_other _ _ _ _ (hn 5), World.cell?_setCell_other _ _ _ _ (hn 4), World.cell?_setCell_other _ _ _ _ (hn 3), World.cell?_setCell_other _ _ _ _ (hn 2), World.cell?_setCell_other _ _ _ _ (hn 1), World.cell?_setCell_other _ _ _ _ (hn 0)]
 exact h
def RlTo (ws : List (List UInt8)) (B bz : Nat) (w : World) (v : Value) (k : Nat) (wr : World) : Prop :=
 1 ≤ k ∧ k ≤ ws.length ∧ B ≤ wr.heap.size ∧ Hid (okW ((ws.drop 1).take (k - 1))) ∧ Hid (OwnI wr B v (nsOf ((ws.drop 1).take (k - 1)))) ∧ Hid (SBox wr bz 0 0 0 0 0 0 0) ∧ Hid (Below w.heap.size w wr)
theorem RlTo.next {ws : List (List UInt8)} {B bz k : Nat} {w wr w2 w3 : World} {v v' : Value} {n : Int} {o : Obj} (h : RlTo ws B bz w v k wr) (hk : k < ws.length) (hwB : w.heap.size ≤ B) (hv : valO (ws.getD k []) = some n) (hb : Below wr.heap.size wr w2)
  (h1 : w3.ownsRow B 2 1 v' ((nsOf ((ws.drop 1).take (k - 1))).length + 1) (ints (nsOf ((ws.drop 1).take (k - 1))) ++ [.int .i64 n])) (h2 : (w2.alloc o).grownBy w3 v.ownBlock) : RlTo ws B bz w v' (k + 1) w3 := by
 obtain ⟨a1, a2, a3, a4, a5, a6, a7⟩ := h
 have hO2 := (a5.out.below hb).below ((Below.refl w2.heap.size w2).alloc (Nat.le_refl _) o)
 have hS2 := (a6.out.below hb a6.out.lt).below ((Below.refl w2.heap.size w2).alloc (Nat.le_refl _) o) (Nat.lt_of_lt_of_le a6.out.lt hb.size)
 have e : (ws.drop 1).take k = (ws.drop 1).take (k - 1) ++ [ws.getD k []] := by
  have hl : k - 1 < (ws.drop 1).length := by rw [List.length_drop]; omega
  have := List.take_add_one (l := ws.drop 1) (i := k - 1)
  rw [show k - 1 + 1 = k by omega] at this
  rw [this, List.getElem?_drop, show 1 + (k - 1) = k by omega, List.getElem?_eq_getElem hk, List.getD_eq_getElem?_getD, List.getElem?_eq_getElem hk]; rfl
 refine ⟨by omega, hk, Nat.le_trans (Nat.le_trans a3 hb.size) (Nat.le_trans (by simp) h2.size), Lib.hid ?_, Lib.hid ?_, Lib.hid (hS2.kept h2 (ownNotStr hO2 hS2)), Lib.hid ?_⟩
 ·rw [Nat.add_sub_cancel, e]
  intro x hx
  rcases List.mem_append.1 hx with hx | hx
  ·exact a4.out x hx
  ·obtain rfl := List.mem_singleton.1 hx
   exact ⟨n, hv⟩
 ·rw [Nat.add_sub_cancel, e, nsOf_snoc _ _ hv]
  unfold OwnI
  rw [List.length_append]
  have : ints (nsOf ((ws.drop 1).take (k - 1)) ++ [n]) = ints (nsOf ((ws.drop 1).take (k - 1))) ++ [.int .i64 n] := by simp [ints]
  rw [this]; exact h1
 ·have hb2 : Below wr.heap.size wr (w2.alloc o) := hb.alloc hb.size o
  refine (a7.out.trans (hb2.mono a7.out.size)).trans (grown_below h2 (fun g e => ?_) (Nat.le_trans a7.out.size hb2.size))
  obtain ⟨_, _, q, _⟩ := ownsRow_block hO2 e
  exact Nat.le_trans hwB q
end Go.Proofs.YtgipnbeipfhekaaGreatDoor.Rd
namespace Go.Proofs.YtgipnbeipfhekaaGreatDoor.Blk
open Go.RowKit Go.Proofs.YtgipnbeipfhekaaGreatDoor Go.Proofs.YtgipnbeipfhekaaGreatDoor.Base Go.Proofs.YtgipnbeipfhekaaGreatDoor.Mem
set_option linter.unusedVariables false
def Blk (w : World) (b : Nat) (t : TypeId) (cs : Array Value) : Prop := w.heap[b]? = some (.cells cs t (0, 0))
section
variable {w w' : World} {b : Nat} {t : TypeId} {cs : Array Value}
theorem Blk.new (w : World) (t : TypeId) (cs : Array Value) : Blk (w.alloc (.cells cs t)) w.heap.size t cs := by
 unfold Blk
 show (w.heap.push _)[w.heap.size]? = _
 simp
theorem Blk.newAt {n : Nat} (t : TypeId) (cs : Array Value) (h : n = w.heap.size) : Blk (w.alloc (.cells cs t)) n t cs := h ▸ Blk.new w t cs
theorem Blk.lt (h : Blk w b t cs) : b < w.heap.size := by
 rcases Nat.lt_or_ge b w.heap.size with hlt | hge
 ·exact hlt
 ·unfold Blk at h; rw [Array.getElem?_eq_none hge] at h; cases h
theorem Blk.cell (h : Blk w b t cs) (i : Nat) : w.cell? ⟨b, i, none⟩ = cs[i]? := Lib.cell_of_heap h i
theorem Blk.at (h : Blk w b t cs) (i : Nat) {v : Value} (hv : cs[i]? = some v) : w.cell? ⟨b, i, none⟩ = some v := (h.cell i).trans hv
theorem Blk.frz (h : Blk w b t cs) (i : Nat) : w.frozen? ⟨b, i, none⟩ = false := Lib.frozen_of_heap h i
theorem Blk.below {B : Nat} (h : Blk w b t cs) (hb : Below B w w') (hB : b < B) : Blk w' b t cs := (hb.block b hB).trans h
theorem Blk.belowS (h : Blk w b t cs) (hb : Below w.heap.size w w') : Blk w' b t cs := h.below hb h.lt
theorem Blk.kept {row : Option Nat} (h : Blk w b t cs) (hg : w.grownBy w' row) (hne : row ≠ some b) : Blk w' b t cs := (hg.block b h.lt fun e => hne e.symm).trans h
theorem Blk.alloc (h : Blk w b t cs) (o : Obj) : Blk (w.alloc o) b t cs := h.belowS ((Below.refl _ _).alloc (Nat.le_refl _) _)
theorem Blk.drewN (h : Blk w b t cs) (n : Nat) : Blk (w.drewN n) b t cs := h
theorem Blk.drew (h : Blk w b t cs) : Blk w.drew b t cs := h
theorem Blk.set (h : Blk w b t cs) (i : Nat) (v : Value) : Blk (w.setCell ⟨b, i, none⟩ v) b t (cs.setIfInBounds i v) := by
 unfold Blk at *
 simp [World.setCell, Array.getElem?_modify, h]
theorem Blk.other (h : Blk w b t cs) {a : Addr} (v : Value) (hne : a.block ≠ b) : Blk (w.setCell a v) b t cs :=
 h.kept (Src.grown_setCell w a v) fun e => hne (Option.some.inj e)
theorem Blk.setTo {cs' : Array Value} (h : Blk w b t cs) (i : Nat) (v : Value) (hc : cs.setIfInBounds i v = cs') : Blk (w.setCell ⟨b, i, none⟩ v) b t cs' := hc ▸ h.set i v
def put3 (w : World) (b : Nat) (v0 v1 v2 : Value) : World := ((w.setCell ⟨b, 0, none⟩ v0).setCell ⟨b, 1, none⟩ v1).setCell ⟨b, 2, none⟩ v2
theorem Blk.set3 {u0 u1 u2 : Value} (h : Blk w b t #[u0, u1, u2]) (v0 v1 v2 : Value) : Blk (put3 w b v0 v1 v2) b t #[v0, v1, v2] :=
 ((h.setTo 0 v0 rfl).setTo 1 v1 rfl).setTo 2 v2 rfl
theorem Blk.oth3 {b' : Nat} (h : Blk w b t cs) (v0 v1 v2 : Value) (hne : b' ≠ b) : Blk (put3 w b' v0 v1 v2) b t cs := ((h.other v0 hne).other v1 hne).other v2 hne
theorem below_put3 {B b' : Nat} {w0 : World} (h : Below B w0 w) (hB : B ≤ b') (v0 v1 v2 : Value) : Below B w0 (put3 w b' v0 v1 v2) :=
 ((h.setCell (p := ⟨b', 0, none⟩) hB v0).setCell (p := ⟨b', 1, none⟩) hB v1).setCell (p := ⟨b', 2, none⟩) hB v2
end
structure Beside (p : Nat) (w w' : World) : Prop where
 os : w'.os = w.os
 tape : w'.tape = w.tape
 output : w'.output = w.output
 size : w.heap.size ≤ w'.heap.size
 same : ∀ q, q < w.heap.size → q ≠ p → w'.heap[q]? = w.heap[q]?
theorem Beside.refl (p : Nat) (w : World) : Beside p w w := ⟨rfl, rfl, rfl, Nat.le_refl _, fun _ _ _ => rfl⟩
theorem Beside.trans {p : Nat} {a b c : World} (h : Beside p a b) (k : Beside p b c) : Beside p a c :=
 ⟨k.os.trans h.os, k.tape.trans h.tape, k.output.trans h.output, Nat.le_trans h.size k.size, fun q h1 h2 => (k.same q (Nat.lt_of_lt_of_le h1 h.size) h2).trans (h.same q h1 h2)⟩
theorem Beside.grown {p : Nat} {w w' : World} (h : w.grownBy w' (some p)) : Beside p w w' := ⟨h.os, h.tape, h.output, h.size, fun q h1 h2 => h.block q h1 fun e => h2 (Option.some.inj e)⟩
theorem Beside.ofBelow {p : Nat} {w w' : World} (h : Below w.heap.size w w') : Beside p w w' := ⟨h.os, h.tape, h.output, h.size, fun q h1 _ => h.block q h1⟩
theorem Beside.below {p B : Nat} {w w' : World} (h : Beside p w w') (hp : B ≤ p) (hB : B ≤ w.heap.size) : Below B w w' := ⟨h.os, h.tape, h.output, h.size, fun q hq => h.same q (by omega) (by omega)⟩
theorem Beside.alloc {p : Nat} {w w' : World} (h : Beside p w w') (o : Obj) : Beside p w (w'.alloc o) := h.trans (Beside.ofBelow ((Below.refl _ _).alloc (Nat.le_refl _) o))
theorem Beside.drewN {p : Nat} {w w' : World} (h : Beside p w w') (n : Nat) : Beside p w (w'.drewN n) := h.trans (Beside.ofBelow (below_drewN (Below.refl _ _) n))
theorem Beside.drew {p : Nat} {w w' : World} (h : Beside p w w') : Beside p w w'.drew := h.drewN 1
theorem Beside.set {p : Nat} {w w' : World} (h : Beside p w w') {a : Addr} (ha : w.heap.size ≤ a.block) (v : Value) : Beside p w (w'.setCell a v) := by
 have g := Src.grown_setCell w' a v
 exact ⟨g.os.trans h.os, g.tape.trans h.tape, g.output.trans h.output, Nat.le_trans h.size g.size, fun q h1 h2 => (g.block q (Nat.lt_of_lt_of_le h1 h.size) fun e => by have := Option.some.inj e; omega).trans (h.same q h1 h2)⟩
theorem Blk.beside {p b : Nat} {t : TypeId} {cs : Array Value} {w w' : World} (h : Blk w b t cs) (hb : Beside p w w') (hne : b ≠ p) : Blk w' b t cs := (hb.same b h.lt hne).trans h
theorem Blk.src {p b : Nat} {t : TypeId} {cs : Array Value} {w w' : World} (h : Blk w b t cs) (hg : w.grownBy w' (some p)) (hne : b ≠ p) : Blk w' b t cs := h.kept hg fun e => hne (Option.some.inj e).symm
end Go.Proofs.YtgipnbeipfhekaaGreatDoor.Blk

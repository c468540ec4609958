/- Shifted points are even exactly for the cuts for which the points are: the law walked. -/
import Derived.Test.YthaoopgkfhjoiaaShMath
import Derived.Test.YthaoopgkfhjoiaaShiftLaw
import Derived.Test.YthaoopgkfhjoiaaNetPLaw
import Derived.Test.YthaoopgkfhjoiaaDrawNet
import Derived.Test.YthaoopgkfhjoiaaR8
import Derived.Test.YthaoopgkfhjoiaaPas
import Derived.Test.YthaoopgkfhjoiaaOpen
namespace Go.Proofs.Ythaoopgkfhjoiaa.ShL
open Go.RowKit Go.Proofs.Ythaoopgkfhjoiaa Go.Proofs.Ythaoopgkfhjoiaa.Base Go.Proofs.Ythaoopgkfhjoiaa.Mem Go.Proofs.Ythaoopgkfhjoiaa.AllIn Go.Proofs.Ythaoopgkfhjoiaa.Pts Go.Proofs.Ythaoopgkfhjoiaa.NetV Go.Proofs.Ythaoopgkfhjoiaa.RevNet Go.Proofs.Ythaoopgkfhjoiaa.Cuts Go.Proofs.Ythaoopgkfhjoiaa.Src Go.Proofs.Ythaoopgkfhjoiaa.ShM
set_option linter.unusedVariables false
theorem r8Least_any (a b : Int) (w : World) : Calls Try.prog 51 #[.int .i64 a, .int .i64 b] w fun e w' => ∃ r : Int, r ≤ a ∧ r ≤ b ∧ (r = a ∨ r = b) ∧ e = .returned (.int .i64 r) ∧ w = w' := by
  by_cases h : a < b
  all_goals
    go_enter Try.func51, Try.ntmps51
    go_wp2
    go_ret
  · exact ⟨a, by omega, by omega, .inl rfl, rfl, rfl⟩
  · exact ⟨b, by omega, by omega, .inr rfl, rfl, rfl⟩
set_option maxHeartbeats 400000 in
theorem r8Sum_any (A : Option Addr) (c B : Nat) (ys : List Int) (w : World) (hy : RdI w B A ys) (h : ∀ i, i < ys.length → 0 ≤ ys.getD i 0 ∧ ys.getD i 0 ≤ 64) (hl : ys.length ≤ 64) :
    Calls Try.prog 52 #[.slice A ys.length c] w fun e w' => e = .returned (.int .i64 (sumTo ys ys.length)) ∧ w = w' := by
  have HB := Lib.hid (sumTo_bd h)
  have HY := Lib.hid hy
  have HR := Lib.hid h
  clear hy h
  go_enter Try.func52, Try.ntmps52
  go_wp2
  go_loop [3, 4] (fun s i => ∃ d : Nat, d ≤ ys.length ∧ i = .int .i64 (d : Int) ∧ s = .int .i64 (sumTo ys d)) (fun _ i => ys.length - (intOf i).toNat)
  case atStart => exact ⟨0, Nat.zero_le _, rfl, rfl⟩
  case round =>
    obtain ⟨d, hd, rfl, rfl⟩ := hrel
    by_cases hdt : d < ys.length
    · obtain ⟨b, off, rfl, _, hc⟩ := HY.out (by omega)
      have g := hc d hdt
      obtain ⟨h1, h2⟩ := HB.out d hd
      obtain ⟨h3, h4⟩ := HR.out d hdt
      have HS : Hid (sumTo ys (d + 1) = sumTo ys d + ys.getD d 0) := Lib.hid rfl
      clear hc
      generalize ys.getD d 0 = y at *
      generalize sumTo ys d = s at *
      go_wp2
      go_round
      case rel => exact ⟨d + 1, hdt, by go_num, by rw [HS.out]⟩
      case measure => simp [intOf]; omega
    · obtain rfl : d = ys.length := by omega
      go_wp2
      go_ret
      exact ⟨rfl, rfl⟩
set_option maxHeartbeats 1000000 in
theorem r8Same_yes (A A' : Option Addr) (c c' B B' : Nat) (xs : List Int) (w : World) (hx : RdI w B A xs) (hy : RdI w B' A' xs) (hm : xs.length ≤ 1099511627776) :
    Calls Try.prog 53 #[.slice A xs.length c, .slice A' xs.length c'] w fun e w' => e = .returned (.bool true) ∧ ∃ n, w' = w.drewN n := by
  have hne : ((xs.length : Int) != (xs.length : Int)) = false := by simp
  go_enter Try.func53, Try.ntmps53
  go_wp2
  go_loopw [5] (fun i wr => ∃ (k m : Nat), k ≤ xs.length ∧ i = .int .i64 k ∧ wr = w.drewN m) (fun i _ => xs.length - (intOf i).toNat)
  case atStart => exact ⟨0, 0, Nat.zero_le _, rfl, rfl⟩
  case round =>
    obtain ⟨k, m, hk, rfl, rfl⟩ := hrel
    by_cases hlt : k < xs.length
    · obtain ⟨b, off, rfl, _, h1⟩ := hx (by omega)
      obtain ⟨b', off', rfl, _, h2⟩ := hy (by omega)
      have g1 := h1 k hlt
      have g2 := h2 k hlt
      clear h1 h2 hx hy
      generalize xs.getD k 0 = x at *
      have hx2 : (x != x) = false := by simp
      go_wp2
      go_quiet (fail)
      go_wp2
      go_roundw
      case rel => exact ⟨k + 1, _, by omega, by go_num, rfl⟩
      case measure => simp [intOf]; omega
    · clear hx hy
      go_wp2
      go_ret
      exact ⟨rfl, _, rfl⟩
theorem r8Same_q (A A' : Option Addr) (c c' B B' : Nat) (xs : List Int) (w : World) (hx : RdI w B A xs) (hy : RdI w B' A' xs) (hm : xs.length ≤ 1099511627776) (n : Nat) :
    Calls Try.prog 53 #[.slice A xs.length c, .slice A' xs.length c'] (w.drewN n) fun e w' => e = .returned (.bool true) ∧ ∃ n, w' = w.drewN n :=
  (r8Same_yes A A' c c' B B' xs (w.drewN n) (hx.drewN n) (hy.drewN n) hm).mono fun _ _ ⟨h1, k, h2⟩ => ⟨h1, n + k, by rw [h2, World.drewN_drewN]⟩
/-- a valid net of at most 5 bits and 3 sides, drawn -/
def R8NetRet (w : World) (e : Ending) (w' : World) : Prop := ∃ (b : Nat) (A : Option Addr) (c : Nat) (xss : List (List Int)) (us : List Value), e = .returned (.agg #[.int .i64 (b : Int), .slice A xss.length c]) ∧ b ≤ 5 ∧ 1 ≤ xss.length ∧ xss.length ≤ 3 ∧
  xss.all (rowB b b) = true ∧ netB b xss = true ∧ tot xss ≤ 1048576 ∧ OwnII w' w.heap.size (.slice A xss.length c) xss us ∧ Below w.heap.size w w'
set_option maxHeartbeats 1000000 in
theorem r8Net_any (A : Option Addr) (c : Nat) (zs : List Int) (w : World) (hx : RdB w w.heap.size A zs) (hl : zs.length ≤ 48) (hz : ∀ z ∈ zs, 0 ≤ z ∧ z ≤ 255) :
    Calls Try.prog 49 #[.slice A zs.length c] w (R8NetRet w) := by
  obtain ⟨W0, hW0⟩ : ∃ W0, W0 = w.alloc (.cells #[.int .i64 0, .slice none 0 0] 66) := ⟨_, rfl⟩
  have hb0 : Below w.heap.size w W0 := by rw [hW0]; exact (Below.refl _ _).alloc (Nat.le_refl _) _
  have hz0 : W0.heap.size = w.heap.size + 1 := by rw [hW0]; simp
  have K0 : RevNet.Box W0 w.heap.size 0 (.slice none 0 0) := by rw [hW0]; exact RevNet.Box.new _ _ _
  have HK0 := Lib.hid K0
  have HB0 := Lib.hid hb0
  have HF := Lib.hid (from_any A c w.heap.size zs W0 (hx.below hb0 (Nat.le_refl _)) (by omega) (by omega) hz)
  have HW0 := Lib.hid hW0
  have hzl : w.heap.size < W0.heap.size := by omega
  clear hx hz hW0 hb0 K0 hz0
  go_enter Try.func49, Try.ntmps49
  go_wp2_with fail
  rw [← HW0.out]
  refine HF.out.mono ?_
  rintro e w1 ⟨rfl, s1, b1⟩
  have HP1 := Lib.hid (pick_any W0.heap.size 0 6 w1 s1 (by omega))
  have X1 := Lib.hid b1
  have hz1 := s1.lt
  clear s1 b1
  go_wp2_with fail
  refine HP1.out.mono ?_
  rintro e w2 ⟨b, rfl, hb, s2, g2⟩
  have HP2 := Lib.hid (pick_any W0.heap.size 2 3 w2 s2 (by omega))
  have X2 := Lib.hid (X1.out.trans (DrawN.below_src g2 (Nat.le_refl _) (by omega)))
  have hz2' := s2.lt
  clear s2 g2
  go_wp2_with fail
  refine HP2.out.mono ?_
  rintro e w3 ⟨sd, rfl, hsd, s3, g3⟩
  have hz2 := X2.out.size
  have HD := Lib.hid (DrawN.drawSized_any W0.heap.size W0.heap.size 4 b (1 + sd) w3 s3 (Nat.le_refl _) (by omega) (by omega) (by omega))
  have X3 := Lib.hid (X2.out.trans (DrawN.below_src g3 (Nat.le_refl _) (by omega)))
  have hz3 := g3.size
  clear s3 g3
  go_wp2_with fail
  rw [show (1 : Int) + (sd : Int) = ((1 + sd : Nat) : Int) by omega]
  refine HD.out.mono ?_
  rintro e w4 ⟨A4, c4, xss, us, rfl, hlen, hrow, o4, s4, b4⟩
  have X4 := Lib.hid (X3.out.trans b4)
  have HK4 := Lib.hid (HK0.out.below X4.out)
  have O4 := Lib.hid o4
  have HR := Lib.hid hrow
  have HLen := Lib.hid hlen
  have k0 := HK4.out.c0
  have k1 := HK4.out.c1
  have f0 := DrawN.Box.frz HK4.out 0
  have f1 := DrawN.Box.frz HK4.out 1
  have hz4 := HK4.out.lt
  clear s4 b4 o4 hrow hlen
  go_wp2
  refine bodyPost_ret (v := .agg #[.int .i64 (b : Int), .slice A4 xss.length c4]) (by simp [results, Try.results49, go_sem, k0, k1]) rfl ?_
  have hall : xss.all (rowB b b) = true := all_of [] fun i hi => HR.out i (by rw [HLen.out] at hi; exact hi)
  have hbit : netB b xss = true := by
    unfold netB
    rw [Int.toNat_natCast, hall, inR_yes (by omega), inR_yes (by have := HLen.out; omega)]
    rfl
  have hl := HLen.out
  refine ⟨b, A4, c4, xss, us, rfl, by omega, by omega, by omega, hall, hbit, ?_, ?_, ?_⟩
  · have h1 := NetP.tot_rows xss hall
    have h2 : b * xss.length ≤ 5 * 3 := Nat.mul_le_mul (by omega) (by omega)
    omega
  · have o := OwnII.setLow (OwnII.setLow O4.out (a := ⟨w.heap.size, 0, none⟩) (show w.heap.size < _ by omega) (.int .i64 (b : Int))) (a := ⟨w.heap.size, 1, none⟩) (show w.heap.size < _ by omega) (.slice A4 xss.length c4)
    exact o.base (by omega)
  · exact ((HB0.out.trans (X4.out.mono (by omega))).setCell (show w.heap.size ≤ w.heap.size from Nat.le_refl _) _).setCell (show w.heap.size ≤ w.heap.size from Nat.le_refl _) _
/-- two lists that grow: what both appends leave -/
theorem two_push {b : Nat} {wr w2 w4 : World} {v1 v2 u1 u2 : Value} {xs cs xs' cs' : List Int} {o o' : Obj} (hB : b ≤ wr.heap.size)
    (h1 : OwnI wr b v1 xs) (h2 : OwnI wr b v2 cs) (ha : ∀ g, v1.ownBlock = some g → v2.ownBlock ≠ some g)
    (n1 : OwnI w2 b u1 xs') (g1 : (wr.alloc o).grownBy w2 v1.ownBlock) (e1 : u1.ownBlock = v1.ownBlock ∨ u1.ownBlock = some (wr.heap.size + 1))
    (n2 : OwnI w4 b u2 cs') (g2 : (w2.alloc o').grownBy w4 v2.ownBlock) (e2 : u2.ownBlock = v2.ownBlock ∨ u2.ownBlock = some (w2.heap.size + 1)) :
    OwnI w4 b u1 xs' ∧ (∀ g, u1.ownBlock = some g → u2.ownBlock ≠ some g) ∧ Below b wr w4 := by
  have hb1 : Below b wr w2 := append_below h1 hB g1
  have hv2 := beside h1 h2 ha g1
  have hs : wr.heap.size + 1 ≤ w2.heap.size := by
    have := g1.size
    simpa using this
  have hu1 : ∀ g, v2.ownBlock = some g → u1.ownBlock ≠ some g := fun g hg he => by
    rcases e1 with e | e
    · exact ha g (e.symm.trans he) hg
    · obtain ⟨_, _, _, q⟩ := ownsRow_block h2 hg
      rw [e] at he
      injection he with he
      omega
  refine ⟨beside hv2 n1 hu1 g2, fun g he hg => ?_, hb1.trans (append_below hv2 (Nat.le_trans hB hb1.size) g2)⟩
  rcases e2 with e | e
  · exact hu1 g (e.symm.trans hg) he
  · obtain ⟨_, _, _, q⟩ := ownsRow_block n1 he
    rw [e] at hg
    injection hg with hg
    omega
/-- what shifts and what cuts, so far -/
def LRel (b sides : Nat) (w : World) (v1 v2 left i : Value) (wr : World) : Prop :=
  ∃ (k : Nat) (xs cs : List Int) (q : Int), k ≤ sides ∧ i = .int .i64 (k : Int) ∧ left = .int .i64 q ∧ 0 ≤ q ∧ q ≤ 6 ∧ Hid (q = 6 - sumTo cs k ∧ xs.length = k ∧ cs.length = k ∧ InB b k xs ∧ ∀ j, j < k → 0 ≤ cs.getD j 0 ∧ cs.getD j 0 ≤ b) ∧
    OwnI wr w.heap.size v1 xs ∧ OwnI wr w.heap.size v2 cs ∧ (∀ g, v1.ownBlock = some g → v2.ownBlock ≠ some g) ∧ Below w.heap.size w wr
theorem sumTo_app (cs : List Int) (y : Int) : ∀ k, k ≤ cs.length → sumTo (cs ++ [y]) k = sumTo cs k
  | 0, _ => rfl
  | k + 1, h => by
    rw [sumTo, sumTo, sumTo_app cs y k (by omega)]
    congr 1
    simp [List.getD, List.getElem?_append_left (show k < cs.length by omega)]
theorem getD_app {xs : List Int} {y : Int} {k d : Nat} (hl : xs.length = k) : (xs ++ [y]).getD d 0 = if d < k then xs.getD d 0 else if d = k then y else 0 := by
  by_cases h : d < k
  · rw [if_pos h]; simp [List.getD, List.getElem?_append_left (show d < xs.length by omega)]
  · rw [if_neg h]
    by_cases h2 : d = k
    · rw [if_pos h2]; subst h2; subst hl; simp [List.getD]
    · rw [if_neg h2]
      simp [List.getD, List.getElem?_append_right (show xs.length ≤ d by omega)]
      have : d - xs.length = (d - xs.length - 1) + 1 := by omega
      rw [this]; simp
theorem LRel.facts {b k : Nat} {xs cs : List Int} {q x y : Int} (h : q = 6 - sumTo cs k ∧ xs.length = k ∧ cs.length = k ∧ InB b k xs ∧ ∀ j, j < k → 0 ≤ cs.getD j 0 ∧ cs.getD j 0 ≤ b) (hx : 0 ≤ x ∧ x ≤ (2 : Int) ^ b - 1) (hy : 0 ≤ y ∧ y ≤ b) :
    q - y = 6 - sumTo (cs ++ [y]) (k + 1) ∧ (xs ++ [x]).length = k + 1 ∧ (cs ++ [y]).length = k + 1 ∧ InB b (k + 1) (xs ++ [x]) ∧ ∀ j, j < k + 1 → 0 ≤ (cs ++ [y]).getD j 0 ∧ (cs ++ [y]).getD j 0 ≤ b := by
  obtain ⟨h1, h2, h3, h4, h5⟩ := h
  refine ⟨?_, by simp [h2], by simp [h3], fun j hj => ?_, fun j hj => ?_⟩
  · rw [sumTo, sumTo_app cs y k (by omega), getD_app h3, if_neg (by omega), if_pos rfl, h1]; omega
  · rw [getD_app h2]
    split
    · exact h4 j (by assumption)
    · rw [if_pos (by omega)]; exact hx
  · rw [getD_app h3]
    split
    · exact h5 j (by assumption)
    · rw [if_pos (by omega)]; exact hy
theorem LRel.next {b sides k : Nat} {xs cs : List Int} {q x y : Int} {w wr w2 w4 : World} {v1 v2 u1 u2 : Value} {o o' : Obj} (hk : k < sides)
    (hf : q = 6 - sumTo cs k ∧ xs.length = k ∧ cs.length = k ∧ InB b k xs ∧ ∀ j, j < k → 0 ≤ cs.getD j 0 ∧ cs.getD j 0 ≤ b) (hx : 0 ≤ x ∧ x ≤ (2 : Int) ^ b - 1) (hy : 0 ≤ y ∧ y ≤ b) (hyq : y ≤ q) (hq : q ≤ 6)
    (h1 : OwnI wr w.heap.size v1 xs) (h2 : OwnI wr w.heap.size v2 cs) (ha : ∀ g, v1.ownBlock = some g → v2.ownBlock ≠ some g) (hb : Below w.heap.size w wr)
    (n1 : w2.ownsRow w.heap.size 2 1 u1 (k + 1) (ints xs ++ [.int .i64 x])) (g1 : (wr.alloc o).grownBy w2 v1.ownBlock) (e1 : u1.ownBlock = v1.ownBlock ∨ u1.ownBlock = some (wr.heap.size + 1))
    (n2 : w4.ownsRow w.heap.size 2 1 u2 (k + 1) (ints cs ++ [.int .i64 y])) (g2 : (w2.alloc o').grownBy w4 v2.ownBlock) (e2 : u2.ownBlock = v2.ownBlock ∨ u2.ownBlock = some (w2.heap.size + 1)) :
    LRel b sides w u1 u2 (.int .i64 (q - y)) (.int .i64 ((k : Int) + 1)) w4 := by
  have m1 : OwnI w2 w.heap.size u1 (xs ++ [x]) := OwnI_push h1 hb.size (by rw [hf.2.1]; exact n1)
  have hv2 := beside h1 h2 ha g1
  have hs : w.heap.size ≤ w2.heap.size := by have q1 := hb.size; have q2 := g1.size; simp at q2; omega
  have m2 : OwnI w4 w.heap.size u2 (cs ++ [y]) := OwnI_push hv2 hs (by rw [hf.2.2.1]; exact n2)
  obtain ⟨r1, r2, r3⟩ := two_push hb.size h1 h2 ha m1 g1 e1 m2 g2 e2
  exact ⟨k + 1, xs ++ [x], cs ++ [y], q - y, hk, by simp, rfl, by omega, by omega, Lib.hid (LRel.facts hf hx hy), r1, m2, r2, hb.trans r3⟩
theorem two_start (b sides : Nat) (w : World) : LRel b sides w (.slice (some ⟨w.heap.size, 0, none⟩) 0 0) (.slice (some ⟨w.heap.size + 1, 0, none⟩) 0 0) (.int .i64 6) (.int .i64 0) ((w.alloc (.cells #[] 2)).alloc (.cells #[] 2)) := by
  have q1 := own_lit (B := w.heap.size) w (Nat.le_refl _) [] (by simp)
  have q2 := own_lit (B := w.heap.size) (w.alloc (.cells #[] 2)) (by simp) [] (by simp)
  have hz : (w.alloc (.cells #[] 2)).heap.size = w.heap.size + 1 := by simp
  rw [hz] at q2
  refine ⟨0, [], [], 6, Nat.zero_le _, rfl, rfl, by omega, by omega, Lib.hid ⟨by simp [sumTo], rfl, rfl, fun j hj => absurd hj (Nat.not_lt_zero j), fun j hj => absurd hj (Nat.not_lt_zero j)⟩, World.ownsRow.alloc q1 _, q2, ?_, ((Below.refl _ _).alloc (Nat.le_refl _) _).alloc (by simp) _⟩
  intro g h1 h2
  have e1 : w.heap.size = g := Option.some.inj h1
  have e2 : w.heap.size + 1 = g := Option.some.inj h2
  omega
open Go.Proofs.Ythaoopgkfhjoiaa.Shift Go.Proofs.Ythaoopgkfhjoiaa.Box in
theorem plain {b n : Nat} {P : List (List Int)} {xs cs : List Int} (hb : b ≤ 5) (h1 : 1 ≤ P.length) (h2 : P.length ≤ 64) (hn1 : 1 ≤ n) (hn : n ≤ 4) (hP : ∀ i, i < P.length → (P.getD i []).length = n ∧ InB b n (P.getD i []))
    (hx : xs.length = n) (hc : cs.length = n) (hxi : InB b n xs) (hci : ∀ j, j < n → 0 ≤ cs.getD j 0 ∧ cs.getD j 0 ≤ b) (hs : sumTo cs n ≤ 6) :
    shB P b xs = true ∧ shR P b xs = shL P xs ∧ shB (shL P xs) b xs = true ∧ shR (shL P xs) b xs = P ∧ cutsB P b cs = true ∧ evenB P b cs = evenB (shL P xs) b cs ∧
    sumTo (boxR P b cs) (boxR P b cs).length = P.length ∧ (∀ i, i < (boxR P b cs).length → 0 ≤ (boxR P b cs).getD i 0 ∧ (boxR P b cs).getD i 0 ≤ 64) ∧ (shL P xs).length = P.length ∧ tot (shL P xs) ≤ 256 := by
  subst hx
  have pP := ptsB_of (b := b) (by omega) h1 h2 hn1 hn hP
  have lM := shL_len P xs
  have hM : ∀ i, i < (shL P xs).length → ((shL P xs).getD i []).length = xs.length ∧ InB b xs.length ((shL P xs).getD i []) := fun i hi => by
    rw [lM] at hi
    rw [shL_get hi]
    exact ⟨shRow_len _ _, shRow_in (hP i hi).2 hxi⟩
  have pM := ptsB_of (b := b) (by omega) (by omega) (by omega) hn1 hn hM
  have aX : allInB xs 0 ((2 : Int) ^ b - 1) = true := allInB_of fun i hi => inR_yes (hxi i hi)
  have aC : allInB cs 0 (b : Int) = true := allInB_of fun i hi => inR_yes (hci i (by omega))
  have s1 : shB P b xs = true := by
    unfold shB
    rw [pP, (hP 0 (by omega)).1, beq_self_eq_true, Int.toNat_natCast, aX]; rfl
  have s2 : shB (shL P xs) b xs = true := by
    unfold shB
    rw [pM, (hM 0 (by omega)).1, beq_self_eq_true, Int.toNat_natCast, aX]; rfl
  have k1 : cutsB P b cs = true := by
    unfold cutsB
    rw [pP, (hP 0 (by omega)).1, hc, beq_self_eq_true, aC, decide_eq_true hs]; rfl
  have k2 : cutsB (shL P xs) b cs = true := by
    unfold cutsB
    rw [pM, (hM 0 (by omega)).1, hc, beq_self_eq_true, aC, decide_eq_true hs]; rfl
  have b1 : boxR P b cs = cntL b P cs P.length := by rw [boxR, if_pos k1]; simp
  have b2 : boxR (shL P xs) b cs = cntL b (shL P xs) cs P.length := by rw [boxR, if_pos k2, lM]; simp
  have hbx : ∀ i, i < P.length → boxTo b (P.getD i []) cs cs.length < 2 ^ (sumTo cs cs.length).toNat := fun i hi =>
    boxTo_lt (fun j hj => (hP i hi).2 j (by omega)) (fun j hj => hci j (by omega)) cs.length (Nat.le_refl _)
  refine ⟨s1, by rw [shR, if_pos s1], s2, by rw [shR, if_pos s2]; exact shL_back hP, k1, ?_, ?_, fun i hi => ?_, lM, ?_⟩
  · unfold evenB
    rw [k1, k2, b1, b2, even_same hc (fun i hi => (hP i hi).2) hxi (fun j hj => hci j (by omega))]
  · rw [b1, cntL_len, cntL_sum hbx P.length (Nat.le_refl _)]
  · rw [b1]
    have := cntL_bd b P cs P.length i
    omega
  · rw [shL_tot]
    have : P.length * xs.length ≤ 64 * 4 := Nat.mul_le_mul h2 hn
    omega
set_option maxHeartbeats 1600000 in
set_option maxRecDepth 100000 in
theorem shifted_any (A0 A1 : Option Addr) (c0 c1 : Nat) (zs ys : List Int) (w : World) (hl0 : zs.length ≤ 9223372036854775807) (hl1 : ys.length ≤ 9223372036854775807) (hz0' : ∀ z ∈ zs, 0 ≤ z ∧ z ≤ 255) (hz1' : ∀ z ∈ ys, 0 ≤ z ∧ z ≤ 255) (hx0 : RdB w w.heap.size A0 zs) (hx1 : RdB w w.heap.size A1 ys) :
    Calls Try.prog 11 #[.slice A0 zs.length c0, .slice A1 ys.length c1] w fun e w' => e = .returned (.bool true) ∧ Below w.heap.size w w' := by
  by_cases hlong : 48 < zs.length ∨ 48 < ys.length
  · clear hx0 hx1 hz0' hz1'
    go_enter Try.func11, Try.ntmps11
    go_wp2_with (go_at_call 28; refine (R8.r8Long_yes _ _ _ _ _ _ _ hlong hl0 hl1).mono ?_; rintro e w' ⟨rfl, rfl⟩)
    go_ret
    exact ⟨rfl, Below.refl _ _⟩
  obtain ⟨i0, hi, hz0, hz1, hz2⟩ := info_parts infoI
  have hs0 : zs.length ≤ 48 := by omega
  have hs1 : ys.length ≤ 48 := by omega
  have HNet := Lib.hid (r8Net_any A0 c0 zs w hx0 hs0 hz0')
  have HX1 := Lib.hid hx1
  have HZ1 := Lib.hid hz1'
  clear hx0 hx1 hz0' hz1' hlong
  go_enter Try.func11, Try.ntmps11
  go_wp2_with fail
  refine (R8.r8Long_no _ _ _ _ _ _ _ hs0 hs1).mono ?_
  rintro e w' ⟨rfl, rfl⟩
  go_wp2_with fail
  refine HNet.out.mono ?_
  rintro e w1 ⟨b, A, c, xss, us, rfl, hb5, hl1', hl3, hall, hbit, htot, o1, b1⟩
  have HAll := Lib.hid hall
  have HB1 := Lib.hid b1
  have O1 := Lib.hid o1
  obtain ⟨W1, hW1⟩ : ∃ W1, W1 = w1.alloc (.cells #[.int .i64 b, .slice A xss.length c] 66) := ⟨_, rfl⟩
  have x1 : Below w1.heap.size w1 W1 := by rw [hW1]; exact (Below.refl _ _).alloc (Nat.le_refl _) _
  have hzW : W1.heap.size = w1.heap.size + 1 := by rw [hW1]; simp
  have k1 : RevNet.Box W1 w1.heap.size b (.slice A xss.length c) := by rw [hW1]; exact RevNet.Box.new _ _ _
  have HK1 := Lib.hid k1
  have X1 := Lib.hid x1
  have HW1 := Lib.hid hW1
  have hzz : w1.heap.size < W1.heap.size := by omega
  have HPt := Lib.hid (NetP.implNetPts_any A c W1.heap.size b xss W1 ((o1.below x1).rd) (Nat.le_refl _) (by omega) htot)
  rw [hbit] at HPt
  have HPtL := Lib.hid (show NetP.nptsL b xss = NetP.netL xss (2 ^ b) by rw [NetP.nptsL, if_pos hbit]; simp)
  rw [HPtL.out] at HPt
  have hq0 := k1.c0
  have hq1 := k1.c1
  obtain ⟨p1, p2⟩ := pw_bd6 (b := b) (by omega)
  have HIn := Lib.hid (net_pts hall)
  have HPl := Lib.hid (NetP.netL_len xss (2 ^ b))
  have hpt := NetP.netL_tot xss (2 ^ b)
  have hpw : 2 ^ b ≤ 2 ^ 5 := Nat.pow_le_pow_right (by decide) hb5
  have hpw0 := Nat.two_pow_pos b
  have HPts := Lib.hid (ptsB_of (b := b) (n := xss.length) (P := NetP.netL xss (2 ^ b)) (by omega) (by rw [HPl.out]; omega) (by rw [HPl.out]; omega) hl1' (by omega) HIn.out)
  have hpt2 : tot (NetP.netL xss (2 ^ b)) ≤ 96 := by
    rw [hpt]
    have : 2 ^ b * xss.length ≤ 32 * 3 := Nat.mul_le_mul (by omega) hl3
    omega
  have HTot := Lib.hid hpt2
  clear hall b1 o1 x1 hzW k1 hW1 hbit hpt hpt2
  generalize NetP.netL xss (2 ^ b) = P at *
  have hP64 : P.length ≤ 64 := by rw [HPl.out]; omega
  have hP1 : 1 ≤ P.length := by rw [HPl.out]; omega
  go_wp2_with fail
  rw [← HW1.out]
  refine HPt.out.mono ?_
  rintro e w2 ⟨A2, c2, us2, rfl, o2, b2⟩
  have O2 := Lib.hid o2
  have B2 := Lib.hid b2
  have r0 := (HK1.out.below b2).c0
  have r1 := (HK1.out.below b2).c1
  have hz2' := b2.size
  have HX2 := Lib.hid (HX1.out.below (HB1.out.trans ((Base.Below.nextA X1.out b2).mono HB1.out.size)) (Nat.le_refl _))
  clear o2 b2 hq0 hq1
  have hsl : w1.heap.size < w2.heap.size := by omega
  have HLS := Lib.hid (two_start b xss.length w2)
  go_wp2_with fail
  go_loopw [8, 9, 10, 11] (fun v1 v2 left i wr => LRel b xss.length w2 v1 v2 left i wr) (fun _ _ _ i _ => xss.length - (intOf i).toNat)
  case atStart => exact HLS.out
  case round =>
    obtain ⟨k, xs, cs, q, hk, rfl, rfl, hq0, hq6, HF, hO1, hO2, ha, hb⟩ := hrel
    obtain ⟨wo, rfl⟩ : ∃ x, x = wr := ⟨_, rfl⟩
    have HO1 := Lib.hid hO1
    have HO2 := Lib.hid hO2
    have HA := Lib.hid ha
    have HB := Lib.hid hb
    have hzo := hb.size
    have s0 := (hb.cell (p := ⟨w1.heap.size, 0, none⟩) hsl).trans r0
    have s1 := (hb.cell (p := ⟨w1.heap.size, 1, none⟩) hsl).trans r1
    clear hO1 hO2 ha hb r0 r1
    by_cases hlt : k < xss.length
    · have HAt := Lib.hid (fun i n hi => R8.r8At_any A1 c1 w.heap.size ys i n wo HZ1.out hl1 (HX2.out.below HB.out (by have := HB1.out.size; omega)) hi)
      have hsz0 : w1.heap.size < wo.heap.size := by omega
      go_wp2_with fail
      refine (HAt.out (k : Int) ((2 : Int) ^ b) (by omega)).mono ?_
      rintro e w' ⟨x, hx0, hx1, rfl, rfl⟩
      have hx : 0 ≤ x ∧ x ≤ (2 : Int) ^ b - 1 := by omega
      have hlx : (xs.length : Nat) = k := HF.out.2.1
      have hlc : (cs.length : Nat) = k := HF.out.2.2.1
      have hown := World.ownsRow.alloc HO1.out (.cells #[.int .i64 x] 2)
      rw [hlx] at hown
      have HW := Lib.hid hown
      have HLc := Lib.hid hlc
      clear hown hlx hlc
      go_wp2_with (at_builtin; refine wpList_append_own_at _ rfl (.tmp 39) (.tmp 47) 30 rfl w2.heap.size 2 i0 (.int .i64 0) 1 8 Try.underlying30 hi hz0 hz1 hz2 rfl (by decide) _ _ _ rfl HW.out ⟨wo.heap.size, 0, none⟩ 1 1 [.int .i64 x] rfl rfl ?p1a ?p2a ?p3a ?p4a ?p5a ?_)
      try case p1a => exact news_one _ _ _ (by simp)
      try case p2a => first | exact one_int | rfl | simp
      try case p3a => first | (simp only [maxLen]; omega) | omega
      try case p4a => omega
      try case p5a => first | (simp only [World.size_alloc]; omega) | omega
      intro u1 w3 hown' hg' _ he1
      have N1 := Lib.hid hown'
      have G1 := Lib.hid hg'
      have E1 := Lib.hid he1
      have hb3 := append_below HO1.out (by omega) hg'
      have t0 := (hb3.cell (p := ⟨w1.heap.size, 0, none⟩) hsl).trans s0
      have t1 := (hb3.cell (p := ⟨w1.heap.size, 1, none⟩) hsl).trans s1
      have o2 := beside HO1.out HO2.out HA.out hg'
      have HO22 := Lib.hid o2
      have hz3 := hg'.size
      have HB3 := Lib.hid (HB.out.trans hb3)
      have HAt3 := Lib.hid (fun i n hi => R8.r8At_any A1 c1 w.heap.size ys i n w3 HZ1.out hl1 (HX2.out.below HB3.out (by have := HB1.out.size; omega)) hi)
      have hz3' : wo.heap.size + 1 ≤ w3.heap.size := by simpa using hz3
      clear hown' hg' he1 hb3 o2 s0 s1 hz3
      go_wp2_with fail
      refine (r8Least_any q (b : Int) _).mono ?_
      rintro e w' ⟨m, m1, m2, m3, rfl, rfl⟩
      have hm6 : m ≤ 6 := by omega
      have hm0 : 0 ≤ m := by omega
      go_wp2_with fail
      refine (HAt3.out ((k : Int) + 5) (m + 1) (by omega)).mono ?_
      rintro e w' ⟨y, hy0, hy1, rfl, rfl⟩
      have hy : 0 ≤ y ∧ y ≤ b := by omega
      have hyq : y ≤ q := by omega
      have hown := World.ownsRow.alloc HO22.out (.cells #[.int .i64 y] 2)
      rw [HLc.out] at hown
      have HW2 := Lib.hid hown
      clear hown
      go_wp2_with (at_builtin; refine wpList_append_own_at _ rfl (.tmp 58) (.tmp 60) 30 rfl w2.heap.size 2 i0 (.int .i64 0) 1 8 Try.underlying30 hi hz0 hz1 hz2 rfl (by decide) _ _ _ rfl HW2.out ⟨w3.heap.size, 0, none⟩ 1 1 [.int .i64 y] rfl rfl ?p1b ?p2b ?p3b ?p4b ?p5b ?_)
      try case p1b => exact news_one _ _ _ (by simp)
      try case p2b => first | exact one_int | rfl | simp
      try case p3b => first | (simp only [maxLen]; omega) | omega
      try case p4b => omega
      try case p5b => first | (simp only [World.size_alloc]; omega) | omega
      intro u2 w4 hown' hg' _ he2
      have HN := Lib.hid (LRel.next (sides := xss.length) (w := w2) hlt HF.out hx hy hyq hq6 HO1.out HO2.out HA.out HB.out N1.out G1.out (by simpa using E1.out) hown' hg' (by simpa using he2))
      clear hown' hg' he2
      go_wp2
      go_roundw
      case rel => exact HN.out
      case measure => simp [intOf]; omega
    · obtain rfl : k = xss.length := by omega
      obtain ⟨f1, f2, f3, f4, f5⟩ := HF.out
      have hpl := plain (b := b) (n := xss.length) (P := P) (xs := xs) (cs := cs) hb5 hP1 hP64 hl1' (by omega) HIn.out f2 f3 f4 f5 (by omega)
      obtain ⟨e1, e2, e3, e4, e5, e6, e7, e8, e9, e10⟩ := hpl
      obtain ⟨Ax, cx, ex, _⟩ := OwnI.form HO1.out
      obtain ⟨Ac, cc, ec, _⟩ := OwnI.form HO2.out
      subst ex ec
      have HCI := Lib.hid (fun W hx hy hB => Box.implBox_any A2 Ac c2 cc W.heap.size b P cs W hx hy hB (by omega) (by have := HTot.out; omega) (by omega))
      rw [e5] at HCI
      have HSh1 := Lib.hid (fun W hx hy hB => Shift.implShift_any A2 Ax c2 cx W.heap.size b P xs W hx hy hB (by omega) (by have := HTot.out; omega) (by omega))
      rw [e1, e2] at HSh1
      have HSh2 := Lib.hid (fun AM cM W hx hy hB => Shift.implShift_any AM Ax cM cx W.heap.size b (Shift.shL P xs) xs W hx hy hB (by omega) (by omega) (by omega))
      rw [e3, e4] at HSh2
      have HEv1 := Lib.hid (fun W hx hy hB => Box.implEven_any A2 Ac c2 cc W.heap.size b P cs W hx hy hB (by omega) (by have := HTot.out; omega) (by omega))
      have HEv2 := Lib.hid (fun AM cM W hx hy hB => Box.implEven_any AM Ac cM cc W.heap.size b (Shift.shL P xs) cs W hx hy hB (by omega) (by omega) (by omega))
      rw [← e6] at HEv2
      have HSum := Lib.hid e7
      have HCb := Lib.hid e8
      have hcb := Box.boxR_bd P b cs
      have hxl : xs.length ≤ 4 := by omega
      clear e1 e2 e3 e4 e5 e6 e7 e8 e10 f1 f2 f3 f4 f5
      generalize Box.boxR P b cs = R at *
      generalize Box.evenB P b cs = ev at *
      generalize hMM : Shift.shL P xs = M at *
      clear hMM
      have hM : M.length ≤ 64 := by omega
      clear e9
      have R2 := Lib.hid (O2.out.rd.below HB.out (Nat.le_refl _))
      have RX := Lib.hid HO1.out.rd
      have RC := Lib.hid HO2.out.rd
      have hsz0 : w1.heap.size < wo.heap.size := by omega
      go_wp2_with fail
      refine (HSh1.out wo (R2.out.more hzo) RX.out (Nat.le_refl _)).mono ?_
      rintro e w5 ⟨A5, c5, us5, rfl, o5, b5⟩
      have B5 := Lib.hid b5
      have O5 := Lib.hid o5
      have t0 := (b5.cell (p := ⟨w1.heap.size, 0, none⟩) hsz0).trans s0
      have hz5 := b5.size
      clear o5 b5 s0 s1
      have hsz5 : w1.heap.size < w5.heap.size := by omega
      go_wp2_with fail
      refine (HSh2.out A5 c5 w5 O5.out.rd ((RX.out.below B5.out (Nat.le_refl _)).more B5.out.size) (Nat.le_refl _)).mono ?_
      rintro e w6 ⟨A6, c6, us6, rfl, o6, b6⟩
      have B6 := Lib.hid (Base.Below.nextA B5.out b6)
      have O6 := Lib.hid o6
      have O56 := Lib.hid (O5.out.below b6)
      have q0 := (b6.cell (p := ⟨w1.heap.size, 0, none⟩) hsz5).trans t0
      have hz6 := b6.size
      clear o6 b6 t0
      have hsz6 : w1.heap.size < w6.heap.size := by omega
      go_wp2_with fail
      refine (HCI.out w6 ((R2.out.below B6.out hzo).more (by omega)) ((RC.out.below B6.out (Nat.le_refl _)).more B6.out.size) (Nat.le_refl _)).mono ?_
      rintro e w7 ⟨A7, c7, rfl, o7, b7⟩
      have B7 := Lib.hid (Base.Below.nextA B6.out b7)
      have O7 := Lib.hid o7
      have O57 := Lib.hid (O56.out.below b7)
      have O67 := Lib.hid (O6.out.below b7)
      have t0 := (b7.cell (p := ⟨w1.heap.size, 0, none⟩) hsz6).trans q0
      have hz7 := b7.size
      clear o7 b7 q0
      have hsz7 : w1.heap.size < w7.heap.size := by omega
      have hne : ((P.length : Int) != (P.length : Int)) = false := by simp
      go_wp2_with fail
      refine (r8Sum_any A7 c7 _ R w7 (OwnI.rd O7.out) HCb.out hcb).mono ?_
      rintro e w' ⟨rfl, rfl⟩
      rw [HSum.out]
      go_wp2_with fail
      go_loopw [19] (fun i wr => ∃ k : Nat, k ≤ P.length ∧ i = .int .i64 (k : Int) ∧ Drawn w7 wr) (fun i _ => P.length - (intOf i).toNat)
      case atStart => exact ⟨0, Nat.zero_le _, rfl, Drawn.refl _⟩
      case round =>
        obtain ⟨k, hk, rfl, hD⟩ := hrel
        have HD := Lib.hid hD
        have hDb := hD.below (B := w7.heap.size)
        by_cases hkt : k < P.length
        · have rA := O67.out.rd.below hDb (Nat.le_refl _)
          have rB := (R2.out.below (B7.out.trans (hDb.mono B7.out.size)) hzo)
          obtain ⟨ba, oa, ea, _, ca⟩ := rA (by omega)
          obtain ⟨Aa, ka, ga, ra⟩ := ca k hkt
          obtain ⟨bb, ob, eb, _, cb⟩ := rB (by omega)
          obtain ⟨Ab, kb, gb, rb⟩ := cb k hkt
          have hpl := (HIn.out k hkt).1
          have HSm := Lib.hid (fun n => r8Same_q Aa Ab ka kb _ _ (P.getD k []) wr ra rb (by omega) n)
          subst ea eb
          clear ca cb ra rb rA rB hD hDb hpl
          generalize P.getD k [] = zs2 at *
          go_wp2
          go_quiet ((go_at_call 53; exact HSm.out _))
          go_wp2
          go_roundw
          case rel => exact ⟨k + 1, hkt, by go_num, HD.out.next _⟩
          case measure => simp [intOf]; omega
        · obtain rfl : k = P.length := by omega
          have u0 := (hDb.cell (p := ⟨w1.heap.size, 0, none⟩) hsz7).trans t0
          have hDz := hDb.size
          have XD := Lib.hid (B7.out.trans (hDb.mono B7.out.size))
          have HE1 := Lib.hid (fun W (hW : Below wr.heap.size wr W) => HEv1.out W ((R2.out.below (XD.out.trans (hW.mono (by omega))) hzo).more (by have := hW.size; omega)) ((RC.out.below (XD.out.trans (hW.mono (by omega))) (Nat.le_refl _)).more (by have := hW.size; omega)) (Nat.le_refl _))
          have RM := Lib.hid (O57.out.rd.below hDb (Nat.le_refl _))
          have HE2 := Lib.hid (fun W (hW : Below wr.heap.size wr W) => HEv2.out A5 c5 W ((RM.out.below hW (by omega)).more (by have := hW.size; omega)) ((RC.out.below (XD.out.trans (hW.mono (by omega))) (Nat.le_refl _)).more (by have := hW.size; omega)) (Nat.le_refl _))
          have hszr : w1.heap.size < wr.heap.size := by omega
          have hev : (ev == ev) = true := by simp
          clear hD hDb
          go_wp2
          (refine wp_region_below (by kernel_rfl) (by kernel_rfl) ?_; (repeat (refine wpQuiet_step (fun K hK => ?_); go_simp; first | (refine hK _ ?_; clear hK K) | (apply Exists.intro; refine ⟨fun wq hq => ?_, hK _ ?_⟩; (first | rfl | (have v0 := (hq.cell (p := ⟨w1.heap.size, 0, none⟩) hszr).trans u0; first | (go_simp; done) | (go_simp; rfl) | (go_at_call 41; first | (with_reducible refine (HE1.out _ hq).mono ?_) | (with_reducible refine (HE2.out _ hq).mono ?_)); rintro e w' ⟨rfl, hb'⟩; exact ⟨rfl, Base.Below.nextA hq hb'⟩)); clear hK K))); refine wpQuiet_nil ?_; intro wq hq)
          go_wp2
          go_ret
          have y1 := XD.out.trans (hq.mono (show wo.heap.size ≤ wr.heap.size by omega))
          have y2 := HB.out.trans (y1.mono hzo)
          have y3 := B2.out.trans (y2.mono hz2')
          have y4 := X1.out.trans (y3.mono (Nat.le_of_lt hzz))
          exact ⟨ret_bool (by simp), HB1.out.trans (y4.mono HB1.out.size)⟩
/-- an argument of bytes of each -/
theorem shifted_v {w : World} {v u : Value} (h : Open.IsBytes w v) (h' : Open.IsBytes w u) : Calls Try.prog 11 #[v, u] w fun e w' => e = .returned (.bool true) ∧ Below w.heap.size w w' := by
  obtain ⟨A, c, zs, rfl, hl, hz, hx⟩ := h.ex
  obtain ⟨A', c', ys, rfl, hl', hz', hx'⟩ := h'.ex
  exact shifted_any A A' c c' zs ys w hl hl' hz hz' hx hx'
end Go.Proofs.Ythaoopgkfhjoiaa.ShL

/- Shifted points are even exactly for the cuts for which the points are: the law walked. -/
import Derived.Test.YtjkcdnfmmfpbjaaShMath
import Derived.Test.YtjkcdnfmmfpbjaaShiftLaw
import Derived.Test.YtjkcdnfmmfpbjaaNetPLaw
import Derived.Test.YtjkcdnfmmfpbjaaDrawNet
import Derived.Test.YtjkcdnfmmfpbjaaR8
import Derived.Test.YtjkcdnfmmfpbjaaPas
import Derived.Test.YtjkcdnfmmfpbjaaOpen
namespace Go.Proofs.Ytjkcdnfmmfpbjaa.ShL
open Go.RowKit Go.Proofs.Ytjkcdnfmmfpbjaa Go.Proofs.Ytjkcdnfmmfpbjaa.Base Go.Proofs.Ytjkcdnfmmfpbjaa.Mem Go.Proofs.Ytjkcdnfmmfpbjaa.AllIn Go.Proofs.Ytjkcdnfmmfpbjaa.Pts Go.Proofs.Ytjkcdnfmmfpbjaa.NetV Go.Proofs.Ytjkcdnfmmfpbjaa.RevNet Go.Proofs.Ytjkcdnfmmfpbjaa.Cuts Go.Proofs.Ytjkcdnfmmfpbjaa.Src Go.Proofs.Ytjkcdnfmmfpbjaa.ShM
set_option linter.unusedVariables false
theorem r8Least_any (a b : Int) (w : World) : Calls Try.prog 31 #[.int .i64 a, .int .i64 b] w fun e w' => ∃ r : Int, r ≤ a ∧ r ≤ b ∧ (r = a ∨ r = b) ∧ e = .returned (.int .i64 r) ∧ w = w' := by
  by_cases h : a < b
  all_goals
    go_enter Try.func31, Try.ntmps31
    go_wp2
    go_ret
  · exact ⟨a, by omega, by omega, .inl rfl, rfl, rfl⟩
  · exact ⟨b, by omega, by omega, .inr rfl, rfl, rfl⟩
/-- a valid net of at most 5 bits and 3 sides, drawn -/
def R8NetRet (w : World) (e : Ending) (w' : World) : Prop := ∃ (b : Nat) (A : Option Addr) (c : Nat) (xss : List (List Int)) (us : List Value), e = .returned (.agg #[.int .i64 (b : Int), .slice A xss.length c]) ∧ b ≤ 5 ∧ 1 ≤ xss.length ∧ xss.length ≤ 3 ∧
  xss.all (rowB b b) = true ∧ netB b xss = true ∧ tot xss ≤ 1048576 ∧ OwnII w' w.heap.size (.slice A xss.length c) xss us ∧ Below w.heap.size w w'
set_option maxHeartbeats 1000000 in
theorem r8Net_any (A : Option Addr) (c : Nat) (zs : List Int) (w : World) (hx : RdB w w.heap.size A zs) (hl : zs.length ≤ 48) (hz : ∀ z ∈ zs, 0 ≤ z ∧ z ≤ 255) :
    Calls Try.prog 29 #[.slice A zs.length c] w (R8NetRet w) := by
  obtain ⟨W0, hW0⟩ : ∃ W0, W0 = w.alloc (.cells #[.int .i64 0, .slice none 0 0] 49) := ⟨_, rfl⟩
  have hb0 : Below w.heap.size w W0 := by rw [hW0]; exact (Below.refl _ _).alloc (Nat.le_refl _) _
  have hz0 : W0.heap.size = w.heap.size + 1 := by rw [hW0]; simp
  have K0 : RevNet.Box W0 w.heap.size 0 (.slice none 0 0) := by rw [hW0]; exact RevNet.Box.new _ _ _
  have HK0 := Lib.hid K0
  have HB0 := Lib.hid hb0
  have HF := Lib.hid (from_any A c w.heap.size zs W0 (hx.below hb0 (Nat.le_refl _)) (by omega) (by omega) hz)
  have HW0 := Lib.hid hW0
  have hzl : w.heap.size < W0.heap.size := by omega
  clear hx hz hW0 hb0 K0 hz0
  go_enter Try.func29, Try.ntmps29
  go_wp2_with fail
  rw [← HW0.out]
  refine HF.out.mono ?_
  rintro e w1 ⟨rfl, s1, b1⟩
  have HP1 := Lib.hid (pick_any W0.heap.size 0 6 w1 s1 (by omega))
  have X1 := Lib.hid b1
  have hz1 := s1.lt
  clear s1 b1
  go_wp2_with fail
  refine HP1.out.mono ?_
  rintro e w2 ⟨b, rfl, hb, s2, g2⟩
  have HP2 := Lib.hid (pick_any W0.heap.size 2 3 w2 s2 (by omega))
  have X2 := Lib.hid (X1.out.trans (DrawN.below_src g2 (Nat.le_refl _) (by omega)))
  have hz2' := s2.lt
  clear s2 g2
  go_wp2_with fail
  refine HP2.out.mono ?_
  rintro e w3 ⟨sd, rfl, hsd, s3, g3⟩
  have hz2 := X2.out.size
  have HD := Lib.hid (DrawN.drawSized_any W0.heap.size W0.heap.size 4 b (1 + sd) w3 s3 (Nat.le_refl _) (by omega) (by omega) (by omega))
  have X3 := Lib.hid (X2.out.trans (DrawN.below_src g3 (Nat.le_refl _) (by omega)))
  have hz3 := g3.size
  clear s3 g3
  go_wp2_with fail
  rw [show (1 : Int) + (sd : Int) = ((1 + sd : Nat) : Int) by omega]
  refine HD.out.mono ?_
  rintro e w4 ⟨A4, c4, xss, us, rfl, hlen, hrow, o4, s4, b4⟩
  have X4 := Lib.hid (X3.out.trans b4)
  have HK4 := Lib.hid (HK0.out.below X4.out)
  have O4 := Lib.hid o4
  have HR := Lib.hid hrow
  have HLen := Lib.hid hlen
  have k0 := HK4.out.c0
  have k1 := HK4.out.c1
  have f0 := DrawN.Box.frz HK4.out 0
  have f1 := DrawN.Box.frz HK4.out 1
  have hz4 := HK4.out.lt
  clear s4 b4 o4 hrow hlen
  go_wp2
  refine bodyPost_ret (v := .agg #[.int .i64 (b : Int), .slice A4 xss.length c4]) (by simp [results, Try.results29, go_sem, k0, k1]) rfl ?_
  have hall : xss.all (rowB b b) = true := all_of [] fun i hi => HR.out i (by rw [HLen.out] at hi; exact hi)
  have hbit : netB b xss = true := by
    unfold netB
    rw [Int.toNat_natCast, hall, inR_yes (by omega), inR_yes (by have := HLen.out; omega)]
    rfl
  have hl := HLen.out
  refine ⟨b, A4, c4, xss, us, rfl, by omega, by omega, by omega, hall, hbit, ?_, ?_, ?_⟩
  · have h1 := NetP.tot_rows xss hall
    have h2 : b * xss.length ≤ 5 * 3 := Nat.mul_le_mul (by omega) (by omega)
    omega
  · have o := OwnII.setLow (OwnII.setLow O4.out (a := ⟨w.heap.size, 0, none⟩) (show w.heap.size < _ by omega) (.int .i64 (b : Int))) (a := ⟨w.heap.size, 1, none⟩) (show w.heap.size < _ by omega) (.slice A4 xss.length c4)
    exact o.base (by omega)
  · exact ((HB0.out.trans (X4.out.mono (by omega))).setCell (show w.heap.size ≤ w.heap.size from Nat.le_refl _) _).setCell (show w.heap.size ≤ w.heap.size from Nat.le_refl _) _
/-- two lists that grow: what both appends leave -/
theorem two_push {b : Nat} {wr w2 w4 : World} {v1 v2 u1 u2 : Value} {xs cs xs' cs' : List Int} {o o' : Obj} (hB : b ≤ wr.heap.size)
    (h1 : OwnI wr b v1 xs) (h2 : OwnI wr b v2 cs) (ha : ∀ g, v1.ownBlock = some g → v2.ownBlock ≠ some g)
    (n1 : OwnI w2 b u1 xs') (g1 : (wr.alloc o).grownBy w2 v1.ownBlock) (e1 : u1.ownBlock = v1.ownBlock ∨ u1.ownBlock = some (wr.heap.size + 1))
    (n2 : OwnI w4 b u2 cs') (g2 : (w2.alloc o').grownBy w4 v2.ownBlock) (e2 : u2.ownBlock = v2.ownBlock ∨ u2.ownBlock = some (w2.heap.size + 1)) :
    OwnI w4 b u1 xs' ∧ (∀ g, u1.ownBlock = some g → u2.ownBlock ≠ some g) ∧ Below b wr w4 := by
  have hb1 : Below b wr w2 := append_below h1 hB g1
  have hv2 := beside h1 h2 ha g1
  have hs : wr.heap.size + 1 ≤ w2.heap.size := by
    have := g1.size
    simpa using this
  have hu1 : ∀ g, v2.ownBlock = some g → u1.ownBlock ≠ some g := fun g hg he => by
    rcases e1 with e | e
    · exact ha g (e.symm.trans he) hg
    · obtain ⟨_, _, _, q⟩ := ownsRow_block h2 hg
      rw [e] at he
      injection he with he
      omega
  refine ⟨beside hv2 n1 hu1 g2, fun g he hg => ?_, hb1.trans (append_below hv2 (Nat.le_trans hB hb1.size) g2)⟩
  rcases e2 with e | e
  · exact hu1 g (e.symm.trans hg) he
  · obtain ⟨_, _, _, q⟩ := ownsRow_block n1 he
    rw [e] at hg
    injection hg with hg
    omega
/-- what shifts and what cuts, so far -/
def LRel (b sides : Nat) (w : World) (v1 v2 left i : Value) (wr : World) : Prop :=
  ∃ (k : Nat) (xs cs : List Int) (q : Int), k ≤ sides ∧ i = .int .i64 (k : Int) ∧ left = .int .i64 q ∧ 0 ≤ q ∧ q ≤ 6 ∧ Hid (q = 6 - sumTo cs k ∧ xs.length = k ∧ cs.length = k ∧ InB b k xs ∧ ∀ j, j < k → 0 ≤ cs.getD j 0 ∧ cs.getD j 0 ≤ b) ∧
    OwnI wr w.heap.size v1 xs ∧ OwnI wr w.heap.size v2 cs ∧ (∀ g, v1.ownBlock = some g → v2.ownBlock ≠ some g) ∧ Below w.heap.size w wr
theorem sumTo_app (cs : List Int) (y : Int) : ∀ k, k ≤ cs.length → sumTo (cs ++ [y]) k = sumTo cs k
  | 0, _ => rfl
  | k + 1, h => by
    rw [sumTo, sumTo, sumTo_app cs y k (by omega)]
    congr 1
    simp [List.getD, List.getElem?_append_left (show k < cs.length by omega)]
theorem getD_app {xs : List Int} {y : Int} {k d : Nat} (hl : xs.length = k) : (xs ++ [y]).getD d 0 = if d < k then xs.getD d 0 else if d = k then y else 0 := by
  by_cases h : d < k
  · rw [if_pos h]; simp [List.getD, List.getElem?_append_left (show d < xs.length by omega)]
  · rw [if_neg h]
    by_cases h2 : d = k
    · rw [if_pos h2]; subst h2; subst hl; simp [List.getD]
    · rw [if_neg h2]
      simp [List.getD, List.getElem?_append_right (show xs.length ≤ d by omega)]
      have : d - xs.length = (d - xs.length - 1) + 1 := by omega
      rw [this]; simp
theorem LRel.facts {b k : Nat} {xs cs : List Int} {q x y : Int} (h : q = 6 - sumTo cs k ∧ xs.length = k ∧ cs.length = k ∧ InB b k xs ∧ ∀ j, j < k → 0 ≤ cs.getD j 0 ∧ cs.getD j 0 ≤ b) (hx : 0 ≤ x ∧ x ≤ (2 : Int) ^ b - 1) (hy : 0 ≤ y ∧ y ≤ b) :
    q - y = 6 - sumTo (cs ++ [y]) (k + 1) ∧ (xs ++ [x]).length = k + 1 ∧ (cs ++ [y]).length = k + 1 ∧ InB b (k + 1) (xs ++ [x]) ∧ ∀ j, j < k + 1 → 0 ≤ (cs ++ [y]).getD j 0 ∧ (cs ++ [y]).getD j 0 ≤ b := by
  obtain ⟨h1, h2, h3, h4, h5⟩ := h
  refine ⟨?_, by simp [h2], by simp [h3], fun j hj => ?_, fun j hj => ?_⟩
  · rw [sumTo, sumTo_app cs y k (by omega), getD_app h3, if_neg (by omega), if_pos rfl, h1]; omega
  · rw [getD_app h2]
    split
    · exact h4 j (by assumption)
    · rw [if_pos (by omega)]; exact hx
  · rw [getD_app h3]
    split
    · exact h5 j (by assumption)
    · rw [if_pos (by omega)]; exact hy
theorem LRel.next {b sides k : Nat} {xs cs : List Int} {q x y : Int} {w wr w2 w4 : World} {v1 v2 u1 u2 : Value} {o o' : Obj} (hk : k < sides)
    (hf : q = 6 - sumTo cs k ∧ xs.length = k ∧ cs.length = k ∧ InB b k xs ∧ ∀ j, j < k → 0 ≤ cs.getD j 0 ∧ cs.getD j 0 ≤ b) (hx : 0 ≤ x ∧ x ≤ (2 : Int) ^ b - 1) (hy : 0 ≤ y ∧ y ≤ b) (hyq : y ≤ q) (hq : q ≤ 6)
    (h1 : OwnI wr w.heap.size v1 xs) (h2 : OwnI wr w.heap.size v2 cs) (ha : ∀ g, v1.ownBlock = some g → v2.ownBlock ≠ some g) (hb : Below w.heap.size w wr)
    (n1 : w2.ownsRow w.heap.size 2 1 u1 (k + 1) (ints xs ++ [.int .i64 x])) (g1 : (wr.alloc o).grownBy w2 v1.ownBlock) (e1 : u1.ownBlock = v1.ownBlock ∨ u1.ownBlock = some (wr.heap.size + 1))
    (n2 : w4.ownsRow w.heap.size 2 1 u2 (k + 1) (ints cs ++ [.int .i64 y])) (g2 : (w2.alloc o').grownBy w4 v2.ownBlock) (e2 : u2.ownBlock = v2.ownBlock ∨ u2.ownBlock = some (w2.heap.size + 1)) :
    LRel b sides w u1 u2 (.int .i64 (q - y)) (.int .i64 ((k : Int) + 1)) w4 := by
  have m1 : OwnI w2 w.heap.size u1 (xs ++ [x]) := OwnI_push h1 hb.size (by rw [hf.2.1]; exact n1)
  have hv2 := beside h1 h2 ha g1
  have hs : w.heap.size ≤ w2.heap.size := by have q1 := hb.size; have q2 := g1.size; simp at q2; omega
  have m2 : OwnI w4 w.heap.size u2 (cs ++ [y]) := OwnI_push hv2 hs (by rw [hf.2.2.1]; exact n2)
  obtain ⟨r1, r2, r3⟩ := two_push hb.size h1 h2 ha m1 g1 e1 m2 g2 e2
  exact ⟨k + 1, xs ++ [x], cs ++ [y], q - y, hk, by simp, rfl, by omega, by omega, Lib.hid (LRel.facts hf hx hy), r1, m2, r2, hb.trans r3⟩
theorem two_start (b sides : Nat) (w : World) : LRel b sides w (.slice (some ⟨w.heap.size, 0, none⟩) 0 0) (.slice (some ⟨w.heap.size + 1, 0, none⟩) 0 0) (.int .i64 6) (.int .i64 0) ((w.alloc (.cells #[] 2)).alloc (.cells #[] 2)) := by
  have q1 := own_lit (B := w.heap.size) w (Nat.le_refl _) [] (by simp)
  have q2 := own_lit (B := w.heap.size) (w.alloc (.cells #[] 2)) (by simp) [] (by simp)
  have hz : (w.alloc (.cells #[] 2)).heap.size = w.heap.size + 1 := by simp
  rw [hz] at q2
  refine ⟨0, [], [], 6, Nat.zero_le _, rfl, rfl, by omega, by omega, Lib.hid ⟨by simp [sumTo], rfl, rfl, fun j hj => absurd hj (Nat.not_lt_zero j), fun j hj => absurd hj (Nat.not_lt_zero j)⟩, World.ownsRow.alloc q1 _, q2, ?_, ((Below.refl _ _).alloc (Nat.le_refl _) _).alloc (by simp) _⟩
  intro g h1 h2
  have e1 : w.heap.size = g := Option.some.inj h1
  have e2 : w.heap.size + 1 = g := Option.some.inj h2
  omega
open Go.Proofs.Ytjkcdnfmmfpbjaa.Shift Go.Proofs.Ytjkcdnfmmfpbjaa.Box in
theorem plain {b n : Nat} {P : List (List Int)} {xs cs : List Int} (hb : b ≤ 5) (h1 : 1 ≤ P.length) (h2 : P.length ≤ 64) (hn1 : 1 ≤ n) (hn : n ≤ 4) (hP : ∀ i, i < P.length → (P.getD i []).length = n ∧ InB b n (P.getD i []))
    (hx : xs.length = n) (hc : cs.length = n) (hxi : InB b n xs) (hci : ∀ j, j < n → 0 ≤ cs.getD j 0 ∧ cs.getD j 0 ≤ b) (hs : sumTo cs n ≤ 6) :
    shB P b xs = true ∧ shR P b xs = shL P xs ∧ shB (shL P xs) b xs = true ∧ shR (shL P xs) b xs = P ∧ cutsB P b cs = true ∧ evenB P b cs = evenB (shL P xs) b cs ∧
    sumTo (boxR P b cs) (boxR P b cs).length = P.length ∧ (∀ i, i < (boxR P b cs).length → 0 ≤ (boxR P b cs).getD i 0 ∧ (boxR P b cs).getD i 0 ≤ 64) ∧ (shL P xs).length = P.length ∧ tot (shL P xs) ≤ 256 := by
  subst hx
  have pP := ptsB_of (b := b) (by omega) h1 h2 hn1 hn hP
  have lM := shL_len P xs
  have hM : ∀ i, i < (shL P xs).length → ((shL P xs).getD i []).length = xs.length ∧ InB b xs.length ((shL P xs).getD i []) := fun i hi => by
    rw [lM] at hi
    rw [shL_get hi]
    exact ⟨shRow_len _ _, shRow_in (hP i hi).2 hxi⟩
  have pM := ptsB_of (b := b) (by omega) (by omega) (by omega) hn1 hn hM
  have aX : allInB xs 0 ((2 : Int) ^ b - 1) = true := allInB_of fun i hi => inR_yes (hxi i hi)
  have aC : allInB cs 0 (b : Int) = true := allInB_of fun i hi => inR_yes (hci i (by omega))
  have s1 : shB P b xs = true := by
    unfold shB
    rw [pP, (hP 0 (by omega)).1, beq_self_eq_true, Int.toNat_natCast, aX]; rfl
  have s2 : shB (shL P xs) b xs = true := by
    unfold shB
    rw [pM, (hM 0 (by omega)).1, beq_self_eq_true, Int.toNat_natCast, aX]; rfl
  have k1 : cutsB P b cs = true := by
    unfold cutsB
    rw [pP, (hP 0 (by omega)).1, hc, beq_self_eq_true, aC, decide_eq_true hs]; rfl
  have k2 : cutsB (shL P xs) b cs = true := by
    unfold cutsB
    rw [pM, (hM 0 (by omega)).1, hc, beq_self_eq_true, aC, decide_eq_true hs]; rfl
  have b1 : boxR P b cs = cntL b P cs P.length := by rw [boxR, if_pos k1]; simp
  have b2 : boxR (shL P xs) b cs = cntL b (shL P xs) cs P.length := by rw [boxR, if_pos k2, lM]; simp
  have hbx : ∀ i, i < P.length → boxTo b (P.getD i []) cs cs.length < 2 ^ (sumTo cs cs.length).toNat := fun i hi =>
    boxTo_lt (fun j hj => (hP i hi).2 j (by omega)) (fun j hj => hci j (by omega)) cs.length (Nat.le_refl _)
  refine ⟨s1, by rw [shR, if_pos s1], s2, by rw [shR, if_pos s2]; exact shL_back hP, k1, ?_, ?_, fun i hi => ?_, lM, ?_⟩
  · unfold evenB
    rw [k1, k2, b1, b2, even_same hc (fun i hi => (hP i hi).2) hxi (fun j hj => hci j (by omega))]
  · rw [b1, cntL_len, cntL_sum hbx P.length (Nat.le_refl _)]
  · rw [b1]
    have := cntL_bd b P cs P.length i
    omega
  · rw [shL_tot]
    have : P.length * xs.length ≤ 64 * 4 := Nat.mul_le_mul h2 hn
    omega
end Go.Proofs.Ytjkcdnfmmfpbjaa.ShL

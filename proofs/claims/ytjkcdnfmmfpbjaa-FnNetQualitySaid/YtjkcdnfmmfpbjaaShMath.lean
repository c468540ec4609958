/- Shifted points: the plain law. -/
import Derived.Test.YtjkcdnfmmfpbjaaEven
import Derived.Test.YtjkcdnfmmfpbjaaNetPts
namespace Go.Proofs.Ytjkcdnfmmfpbjaa.ShM
open Go.Proofs.Ytjkcdnfmmfpbjaa Go.Proofs.Ytjkcdnfmmfpbjaa.Base Go.Proofs.Ytjkcdnfmmfpbjaa.Mem Go.Proofs.Ytjkcdnfmmfpbjaa.AllIn Go.Proofs.Ytjkcdnfmmfpbjaa.Pts Go.Proofs.Ytjkcdnfmmfpbjaa.Cuts Go.Proofs.Ytjkcdnfmmfpbjaa.Box Go.Proofs.Ytjkcdnfmmfpbjaa.Shift Go.Proofs.Ytjkcdnfmmfpbjaa.NetV
set_option linter.unusedVariables false
theorem lor_xor {a p c : Nat} (hp : p < 2 ^ c) : a * 2 ^ c ||| p = a * 2 ^ c ^^^ p := by
  apply Nat.eq_of_testBit_eq
  intro i
  rw [Nat.testBit_or, Nat.testBit_xor, Nat.testBit_mul_two_pow]
  by_cases h : c ≤ i
  · rw [Nat.testBit_lt_two_pow (Nat.lt_of_lt_of_le hp (Nat.pow_le_pow_right (by decide) h))]; simp
  · simp [h]
theorem xor_mul (a b c : Nat) : (a ^^^ b) * 2 ^ c = a * 2 ^ c ^^^ b * 2 ^ c := by
  apply Nat.eq_of_testBit_eq
  intro i
  rw [Nat.testBit_mul_two_pow, Nat.testBit_xor, Nat.testBit_xor, Nat.testBit_mul_two_pow, Nat.testBit_mul_two_pow]
  cases decide (c ≤ i) <;> simp
theorem xor_div (a b c : Nat) : (a ^^^ b) / 2 ^ c = a / 2 ^ c ^^^ b / 2 ^ c := by
  apply Nat.eq_of_testBit_eq
  intro i
  rw [Nat.testBit_div_two_pow, Nat.testBit_xor, Nat.testBit_xor, Nat.testBit_div_two_pow, Nat.testBit_div_two_pow]
/-- numbers of b bits, as many as cuts -/
def InB (b n : Nat) (xs : List Int) : Prop := ∀ j, j < n → 0 ≤ xs.getD j 0 ∧ xs.getD j 0 ≤ (2 : Int) ^ b - 1
theorem shRow_get {xs ys : List Int} {d : Nat} (h : d < ys.length) : (shRow xs ys).getD d 0 = xorI (xs.getD d 0) (ys.getD d 0) := by simp [shRow, List.getD, h]
theorem nat_lt {b : Nat} {x : Int} (h0 : 0 ≤ x) (h1 : x ≤ (2 : Int) ^ b - 1) : x.toNat < 2 ^ b := by
  have : ((2 ^ b : Nat) : Int) = (2 : Int) ^ b := by simp
  omega
theorem shRow_in {b : Nat} {xs ys : List Int} (hx : InB b ys.length xs) (hy : InB b ys.length ys) : InB b ys.length (shRow xs ys) := fun j hj => by
  rw [shRow_get hj]
  have h := Nat.xor_lt_two_pow (nat_lt (hx j hj).1 (hx j hj).2) (nat_lt (hy j hj).1 (hy j hj).2)
  have : ((2 ^ b : Nat) : Int) = (2 : Int) ^ b := by simp
  unfold xorI
  omega
theorem box_xor {b : Nat} {xs ys cs : List Int} (hl : cs.length = ys.length) (hx : InB b ys.length xs) (hy : InB b ys.length ys) (hc : ∀ j, j < cs.length → 0 ≤ cs.getD j 0 ∧ cs.getD j 0 ≤ b) : ∀ d, d ≤ cs.length → boxTo b (shRow xs ys) cs d = boxTo b xs cs d ^^^ boxTo b ys cs d
  | 0, _ => by simp [boxTo]
  | d + 1, hd => by
    have ih := box_xor hl hx hy hc d (by omega)
    have c1 := hc d (by omega)
    have hdy : d < ys.length := by omega
    have x1 := nat_lt (hx d hdy).1 (hx d hdy).2
    have y1 := nat_lt (hy d hdy).1 (hy d hdy).2
    have e : ((shRow xs ys).getD d 0).toNat = (xs.getD d 0).toNat ^^^ (ys.getD d 0).toNat := by rw [shRow_get hdy]; simp [xorI]
    have px := part_lt (b := b) (c := (cs.getD d 0).toNat) x1 (by omega)
    have py := part_lt (b := b) (c := (cs.getD d 0).toNat) y1 (by omega)
    have pz := part_lt (b := b) (c := (cs.getD d 0).toNat) (Nat.xor_lt_two_pow x1 y1) (by omega)
    rw [boxTo, boxTo, boxTo, e, lor_xor pz, lor_xor px, lor_xor py, ih, xor_mul, xor_div]
    apply Nat.eq_of_testBit_eq
    intro i
    simp only [Nat.testBit_xor]
    generalize (boxTo b xs cs d * 2 ^ (cs.getD d 0).toNat).testBit i = t1
    generalize (boxTo b ys cs d * 2 ^ (cs.getD d 0).toNat).testBit i = t2
    generalize ((xs.getD d 0).toNat / 2 ^ (b - (cs.getD d 0).toNat)).testBit i = t3
    generalize ((ys.getD d 0).toNat / 2 ^ (b - (cs.getD d 0).toNat)).testBit i = t4
    cases t1 <;> cases t2 <;> cases t3 <;> cases t4 <;> rfl
/-- how often f hits q, below k -/
def hits (f : Nat → Nat) (q : Nat) : Nat → Int
  | 0 => 0
  | k + 1 => hits f q k + if f k = q then 1 else 0
theorem cntL_hits (b : Nat) (P : List (List Int)) (cs : List Int) (q : Nat) (hq : q < 2 ^ (sumTo cs cs.length).toNat) : ∀ k, (cntL b P cs k).getD q 0 = hits (fun i => boxTo b (P.getD i []) cs cs.length) q k
  | 0 => by
    simp only [cntL, hits, List.getD, List.getElem?_replicate]
    split <;> rfl
  | k + 1 => by
    have ih := cntL_hits b P cs q hq k
    rw [cntL, getD_set, hits, cntL_len]
    by_cases h : boxTo b (P.getD k []) cs cs.length = q
    · rw [if_pos ⟨h, hq⟩, if_pos h, h, ih]
    · rw [if_neg (fun hh => h hh.1), if_neg h, ih]; simp
theorem hits_xor {f g : Nat → Nat} {m n : Nat} (h : ∀ i, i < n → g i = f i ^^^ m) (q : Nat) : ∀ k, k ≤ n → hits g q k = hits f (q ^^^ m) k
  | 0, _ => rfl
  | k + 1, hk => by
    rw [hits, hits, hits_xor h q k (by omega), h k (by omega)]
    congr 1
    have e : (f k ^^^ m = q) = (f k = q ^^^ m) := by
      apply propext
      constructor
      · intro h; rw [← h, Nat.xor_assoc, Nat.xor_self, Nat.xor_zero]
      · intro h; rw [h, Nat.xor_assoc, Nat.xor_self, Nat.xor_zero]
    simp only [e]
theorem evenL_iff (L : List Int) : evenL L = true ↔ ∀ q, q < L.length → L.getD q 0 = L.getD 0 0 := by
  constructor
  · intro h q hq
    have := all_at 0 hq (show L.all (fun x => x == L.getD 0 0) = true from h)
    simpa using this
  · intro h
    exact all_of 0 fun i hi => beq_iff_eq.2 (h i hi)
theorem even_shift {L M : List Int} {m s : Nat} (hL : L.length = 2 ^ s) (hM : M.length = 2 ^ s) (hm : m < 2 ^ s) (h : ∀ q, q < 2 ^ s → M.getD q 0 = L.getD (q ^^^ m) 0) : evenL L = evenL M := by
  have hp : 0 < 2 ^ s := Nat.two_pow_pos s
  rw [Bool.eq_iff_iff, evenL_iff, evenL_iff]
  constructor
  · intro hl q hq
    exact ((h q (by omega)).trans (hl _ (by rw [hL]; exact Nat.xor_lt_two_pow (by omega) hm))).trans ((h 0 hp).trans (hl _ (by rw [hL]; exact Nat.xor_lt_two_pow hp hm))).symm
  · intro hl q hq
    have key : ∀ r, r < 2 ^ s → L.getD r 0 = M.getD 0 0 := fun r hr => by
      have h1 := h (r ^^^ m) (Nat.xor_lt_two_pow hr hm)
      rw [Nat.xor_assoc, Nat.xor_self, Nat.xor_zero] at h1
      rw [← h1]
      exact hl _ (by rw [hM]; exact Nat.xor_lt_two_pow hr hm)
    rw [key q (by omega), key 0 hp]
theorem shL_get {P : List (List Int)} {ys : List Int} {i : Nat} (h : i < P.length) : (shL P ys).getD i [] = shRow (P.getD i []) ys := by simp [shL, List.getD, h]
/-- shifted points are even for the same cuts -/
theorem even_same {b : Nat} {P : List (List Int)} {ys cs : List Int} (hl : cs.length = ys.length) (hP : ∀ i, i < P.length → InB b ys.length (P.getD i [])) (hy : InB b ys.length ys) (hc : ∀ j, j < cs.length → 0 ≤ cs.getD j 0 ∧ cs.getD j 0 ≤ b) :
    evenL (cntL b P cs P.length) = evenL (cntL b (shL P ys) cs P.length) := by
  have hm := boxTo_lt (b := b) (xs := ys) (ys := cs) (fun j hj => hy j (by omega)) hc cs.length (Nat.le_refl _)
  refine even_shift (cntL_len _ _ _ _) (cntL_len _ _ _ _) hm fun q hq => ?_
  rw [cntL_hits _ _ _ q hq, cntL_hits _ _ _ _ (Nat.xor_lt_two_pow hq hm)]
  exact hits_xor (n := P.length) (fun i hi => by
    show boxTo b ((shL P ys).getD i []) cs cs.length = _
    rw [shL_get hi]
    exact box_xor hl (hP i hi) hy hc cs.length (Nat.le_refl _)) q P.length (Nat.le_refl _)
theorem sumTo_set (L : List Int) (q : Nat) (hq : q < L.length) : ∀ d, sumTo (L.set q (L.getD q 0 + 1)) d = sumTo L d + if q < d then 1 else 0
  | 0 => by simp [sumTo]
  | d + 1 => by
    rw [sumTo, sumTo, sumTo_set L q hq d, getD_set]
    by_cases h : q = d
    · subst h
      have e1 : (if q = q ∧ q < L.length then L.getD q 0 + 1 else L.getD q 0) = L.getD q 0 + 1 := if_pos ⟨rfl, hq⟩
      have e2 : (if q < q then (1 : Int) else 0) = 0 := if_neg (Nat.lt_irrefl _)
      have e3 : (if q < q + 1 then (1 : Int) else 0) = 1 := if_pos (Nat.lt_succ_self _)
      rw [e1, e2, e3]; omega
    · have e1 : (if q = d ∧ d < L.length then L.getD q 0 + 1 else L.getD d 0) = L.getD d 0 := if_neg fun hh => h hh.1
      rw [e1]
      by_cases h2 : q < d
      · rw [if_pos h2, if_pos (show q < d + 1 by omega)]; omega
      · rw [if_neg h2, if_neg (show ¬ q < d + 1 by omega)]; omega
theorem sumTo_zero (n : Nat) : ∀ d, sumTo (List.replicate n 0) d = 0
  | 0 => rfl
  | d + 1 => by
    rw [sumTo, sumTo_zero n d]
    simp only [List.getD, List.getElem?_replicate]
    split <;> rfl
theorem cntL_sum {b : Nat} {P : List (List Int)} {cs : List Int} (h : ∀ i, i < P.length → boxTo b (P.getD i []) cs cs.length < 2 ^ (sumTo cs cs.length).toNat) : ∀ k, k ≤ P.length → sumTo (cntL b P cs k) (2 ^ (sumTo cs cs.length).toNat) = k
  | 0, _ => by rw [cntL, sumTo_zero]; rfl
  | k + 1, hk => by
    rw [cntL, sumTo_set _ _ (by rw [cntL_len]; exact h k (by omega)), cntL_sum h k (by omega), if_pos (h k (by omega))]
    simp
theorem xor_back (x y : Int) (hx : 0 ≤ x) : xorI (xorI x y) y = x := by
  unfold xorI
  rw [Int.toNat_natCast, Nat.xor_assoc, Nat.xor_self, Nat.xor_zero]
  omega
theorem shRow_back {b : Nat} {xs ys : List Int} (hl : xs.length = ys.length) (hx : InB b ys.length xs) : shRow (shRow xs ys) ys = xs := by
  refine getD_ext 0 (by rw [shRow_len, hl]) fun i hi => ?_
  rw [shRow_len] at hi
  rw [shRow_get hi, shRow_get hi, xor_back _ _ (hx i hi).1]
theorem shL_back {b : Nat} {P : List (List Int)} {ys : List Int} (hP : ∀ i, i < P.length → (P.getD i []).length = ys.length ∧ InB b ys.length (P.getD i [])) : shL (shL P ys) ys = P := by
  refine getD_ext [] (by rw [shL_len, shL_len]) fun i hi => ?_
  rw [shL_len, shL_len] at hi
  rw [shL_get (by rw [shL_len]; exact hi), shL_get hi, shRow_back (hP i hi).1 (hP i hi).2]
/-- points of so many sides -/
theorem ptsB_of {b n : Nat} {P : List (List Int)} (hb : b ≤ 6) (h1 : 1 ≤ P.length) (h2 : P.length ≤ 64) (h3 : 1 ≤ n) (h4 : n ≤ 4) (hP : ∀ i, i < P.length → (P.getD i []).length = n ∧ InB b n (P.getD i [])) : ptsB P b = true := by
  have h0 := (hP 0 (by omega)).1
  have hall : P.all (rowB n b) = true := all_of [] fun i hi => by
    obtain ⟨q1, q2⟩ := hP i hi
    unfold rowB
    rw [beq_iff_eq.2 q1, allInB_of fun j hj => inR_yes (q2 j (by omega))]
    rfl
  unfold ptsB
  rw [h0, Int.toNat_natCast, hall, inR_yes (by omega), inR_yes (by omega), inR_yes (by omega)]
  rfl
/-- the points of a valid net -/
theorem net_pts {b : Nat} {xss : List (List Int)} (h : xss.all (rowB b b) = true) : ∀ i, i < (NetP.netL xss (2 ^ b)).length → ((NetP.netL xss (2 ^ b)).getD i []).length = xss.length ∧ InB b xss.length ((NetP.netL xss (2 ^ b)).getD i []) := fun i hi => by
  rw [NetP.netL_len] at hi
  have e : (NetP.netL xss (2 ^ b)).getD i [] = NetP.numL i xss := by simp [NetP.netL, hi]
  rw [e]
  refine ⟨NetP.numL_len _ _, fun j hj => ?_⟩
  have e2 : (NetP.numL i xss).getD j 0 = ((NetP.numTo i (xss.getD j []) (xss.getD j []).length : Nat) : Int) := by simp [NetP.numL, List.getD, hj]
  have hr := NetP.row_of h hj
  have hlt := NetP.numTo_lt i (xss.getD j []) (xss.getD j []).length
  rw [e2]
  rw [hr.1] at hlt ⊢
  have : ((2 ^ b : Nat) : Int) = (2 : Int) ^ b := by simp
  omega
end Go.Proofs.Ytjkcdnfmmfpbjaa.ShM

/- The reference's naturals: digits to the base 2^30 in memory; a number made, sums. -/
import Derived.Test.YtionognmgcabbaaMgIsR12
import Derived.Test.YtionognmgcabbaaMgIsR00
import Derived.Deep.AppendSrc
import Derived.Lib.SliceRun
namespace Go.Proofs.Ytionognmgcabbaa.Big
open Go.RowKit Go.Proofs.Ytionognmgcabbaa Go.Proofs.Ytionognmgcabbaa.Base Go.Proofs.Ytionognmgcabbaa.Mem Go.Proofs.Ytionognmgcabbaa.BigM
set_option linter.unusedVariables false
/-- digits as the numbers of a list in memory -/
def zs (xs : List Nat) : List Int := xs.map Int.ofNat
theorem zs_len (xs : List Nat) : (zs xs).length = xs.length := by simp [zs]
theorem zs_get (xs : List Nat) (i : Nat) : (zs xs).getD i 0 = ((xs.getD i 0 : Nat) : Int) := by
  simp only [zs, List.getD_eq_getElem?_getD, List.getElem?_map]
  cases xs[i]? <;> rfl
theorem zs_snoc (xs : List Nat) (d : Nat) : ints (zs xs) ++ [.int .i64 (d : Int)] = ints (zs (xs ++ [d])) := by simp [zs, ints]
/-- digits that lie in an array of their own -/
def Dig (w : World) (B : Nat) (v : Value) (xs : List Nat) : Prop := w.ownsRow B 2 1 v xs.length (ints (zs xs))
/-- a number that is read -/
def IsB (w : World) (x : Nat) (v : Value) : Prop := Dig w 0 v (bigL x)
/-- a number that is returned -/
def BRet (x : Nat) (w : World) (e : Ending) (w' : World) : Prop := ∃ v, e = .returned v ∧ IsB w' x v ∧ Below w.heap.size w w'
theorem Dig.form {w : World} {B : Nat} {v : Value} {xs : List Nat} (h : Dig w B v xs) : ∃ A c, v = .slice A xs.length c ∧ (0 < xs.length → ∃ g, A = some ⟨g, 0, none⟩ ∧ B ≤ g ∧ g < w.heap.size) := ownsRow_form h
theorem Dig.below {w w' : World} {B : Nat} {v : Value} {xs : List Nat} (h : Dig w B v xs) (hb : Below w.heap.size w w') : Dig w' B v xs := ownsRow_below h hb
theorem Dig.base {w : World} {B B' : Nat} {v : Value} {xs : List Nat} (h : Dig w B v xs) (hb : B' ≤ B) : Dig w B' v xs := ownsRow_base h hb
theorem Dig.cell {w : World} {B n c : Nat} {A : Option Addr} {xs : List Nat} (h : Dig w B (.slice A n c) xs) {i : Nat} (hi : i < xs.length) : ∃ g, A = some ⟨g, 0, none⟩ ∧ B ≤ g ∧ g < w.heap.size ∧ w.cell? ⟨g, i, none⟩ = some (.int .i64 ((xs.getD i 0 : Nat) : Int)) := by
  obtain ⟨A', c', e, hf⟩ := h.form
  injection e with e1 e2 e3
  subst e1 e2 e3
  obtain ⟨g, rfl, h1, h2⟩ := hf (by omega)
  refine ⟨g, rfl, h1, h2, ?_⟩
  rw [World.ownsRow.cellAt h i (by omega), ints_get _ i (by rw [zs_len]; exact hi), zs_get]
theorem Dig.take {w : World} {B n c : Nat} {A : Option Addr} {xs : List Nat} (h : Dig w B (.slice A n c) xs) {k : Nat} (hk : k ≤ xs.length) : Dig w B (.slice A k c) (xs.take k) := by
  obtain ⟨A', c', e, hf⟩ := h.form
  injection e with e1 e2 e3
  subst e1 e2 e3
  unfold Dig at h ⊢
  rw [List.length_take, Nat.min_eq_left hk]
  refine ⟨by rw [ints_len, zs_len, List.length_take, Nat.min_eq_left hk, Nat.mul_one], ?_⟩
  rcases h.2 with ⟨h0, h1⟩ | ⟨g, cap, cur, e, h1, hh, h2⟩
  · injection h0 with e1 e2 e3
    subst e1 e3
    have : k = 0 := by omega
    subst this
    refine .inl ⟨rfl, ?_⟩
    first | rfl | omega
  · injection e with e1 e2 e3
    subst e1 e3
    refine .inr ⟨g, c, cur, rfl, h1, hh, by omega, h2.2.1, h2.2.2.1, ?_⟩
    have h3 := h2.2.2.2
    simp only [Nat.mul_one] at h3 ⊢
    have h4 := congrArg (List.take k) h3
    rw [List.take_take, Nat.min_eq_left hk] at h4
    rw [h4]
    simp only [zs, ints, List.map_take]
theorem IsB.below {w w' : World} {x : Nat} {v : Value} (h : IsB w x v) (hb : Below w.heap.size w w') : IsB w' x v := Dig.below h hb
theorem BRet.of {x : Nat} {w w' : World} {v : Value} {B : Nat} {xs : List Nat} (h : Dig w' B v xs) (hx : xs = bigL x) (hb : Below w.heap.size w w') : BRet x w (.returned v) w' := by
  subst hx; exact ⟨v, rfl, h.base (Nat.zero_le _), hb⟩
theorem and30 (x : Nat) (h : x < 9223372036854775808) : bits .and .i64 (x : Int) 1073741823 = ((x % 1073741824 : Nat) : Int) := by
  have := Bits.i64_and_nat x 1073741823 h (by decide)
  rw [Nat.and_two_pow_sub_one_eq_mod x 30] at this
  exact this
/-- the state of BigOf -/
def OfRel (x : Nat) (w : World) (nv ov : Value) (wr : World) : Prop :=
  ∃ (m : Nat) (ys : List Nat), nv = .int .i64 (m : Int) ∧ m ≤ x ∧ ys.length ≤ 3 ∧ Hid (bigL x = ys ++ bigL m) ∧ Hid (Dig wr w.heap.size ov ys) ∧ Hid (Below w.heap.size w wr)
theorem Dig.push {w wr w3 : World} {v v' : Value} {ys : List Nat} {d : Nat} {cs : Array Value} {t : TypeId} (hO : Dig wr w.heap.size v ys) (hb : Below w.heap.size w wr)
    (hown : w3.ownsRow w.heap.size 2 1 v' (ys.length + 1) (ints (zs ys) ++ [.int .i64 (d : Int)])) (hg : (wr.alloc (.cells cs t)).grownBy w3 v.ownBlock) : Dig w3 w.heap.size v' (ys ++ [d]) ∧ Below w.heap.size w w3 := by
  refine ⟨?_, ?_⟩
  · unfold Dig
    rw [List.length_append, List.length_singleton, ← zs_snoc]
    exact hown
  · exact (hb.alloc hb.size _).trans (grown_below hg (fun g e => by
      obtain ⟨_, _, h1, _⟩ := ownsRow_block hO e
      exact h1) (by simp; have := hb.size; omega))
theorem OfRel.next {x m : Nat} {w wr w3 : World} {v v' : Value} {ys : List Nat} {cs : Array Value} {t : TypeId} (hpos : 0 < m) (hm : m ≤ x) (hx : x < 9223372036854775808) (hd : bigL x = ys ++ bigL m) (hO : Dig wr w.heap.size v ys) (hb : Below w.heap.size w wr)
    (hown : w3.ownsRow w.heap.size 2 1 v' (ys.length + 1) (ints (zs ys) ++ [.int .i64 ((m % D30 : Nat) : Int)])) (hg : (wr.alloc (.cells cs t)).grownBy w3 v.ownBlock) : OfRel x w (.int .i64 ((m / D30 : Nat) : Int)) v' w3 := by
  obtain ⟨h1, h2⟩ := hO.push hb hown hg
  have h3 := of_step hd (Nat.ne_of_gt hpos)
  refine ⟨m / D30, ys ++ [m % D30], rfl, Nat.le_trans (Nat.div_le_self _ _) hm, ?_, Lib.hid h3, Lib.hid h1, Lib.hid h2⟩
  have h4 := bigL_len_le (x := x) (k := 3) (Nat.lt_of_lt_of_le hx (by decide))
  have h5 := congrArg List.length h3
  rw [List.length_append] at h5
  omega
set_option maxHeartbeats 1000000 in
set_option maxRecDepth 100000 in
theorem bigOf_any (x : Nat) (hx : x < 9223372036854775808) (w : World) : Calls Try.prog 62 #[.int .i64 (x : Int)] w (BRet x w) := by
  obtain ⟨i0, hi, hz0, hz1, hz2⟩ := info_parts infoI
  have H0 : Hid (OfRel x w (.int .i64 (x : Int)) (.slice (some ⟨w.heap.size, 0, none⟩) 0 0) (w.alloc (.cells #[] 2))) := Lib.hid
    ⟨x, [], rfl, Nat.le_refl _, by simp, Lib.hid rfl, Lib.hid (World.ownsRow_made w #[] 0 (Nat.le_refl _) (Nat.zero_le _) (by simp)), Lib.hid ((Below.refl _ _).alloc (Nat.le_refl _) _)⟩
  have HX := Lib.hid hx
  go_enter Try.func62, Try.ntmps62
  go_wp2
  go_loopw [0, 3] (fun nv ov wr => OfRel x w nv ov wr) (fun nv _ _ => (intOf nv).toNat)
  case atStart => exact H0.out
  case round =>
    obtain ⟨m, ys, rfl, hm, hl, hd, hO, hb⟩ := hrel
    clear H0
    by_cases hpos : 0 < m
    · have hand := and30 m (by omega)
      have hdiv : (m : Int) / 1073741824 = ((m / D30 : Nat) : Int) := by simp [D30]
      have hlt : m / D30 < m := Nat.div_lt_self hpos (by decide)
      have HN := Lib.hid (fun w3 v' cs t hown hg => OfRel.next (w3 := w3) (v' := v') (cs := cs) (t := t) hpos hm HX.out hd.out hO.out hb.out hown hg)
      have hsz := hb.out.size
      have hown := World.ownsRow.alloc hO.out (.cells #[.int .i64 ((m % 1073741824 : Nat) : Int)] 2)
      have HW := Lib.hid hown
      clear hown hO hb hd hx
      unfold D30 at HN hdiv hlt
      generalize m % 1073741824 = d at *
      go_wp2_with (at_builtin; refine wpList_append_own_at _ rfl (.tmp 9) (.tmp 12) 55 rfl w.heap.size 2 i0 (.int .i64 0) 1 8 Try.underlying55 hi hz0 hz1 hz2 rfl (by decide) _ _ _ rfl HW.out ⟨wr.heap.size, 0, none⟩ 1 1 [.int .i64 (d : Int)] rfl rfl ?p1a ?p2a ?p3a ?p4a ?p5a ?_)
      try case p1a => exact news_one _ _ _ (by simp)
      try case p2a => first | exact one_int | rfl | simp
      try case p3a => first | (simp only [maxLen]; omega) | omega
      try case p4a => omega
      try case p5a => first | (simp only [World.size_alloc]; omega) | omega
      intro v' w3 hown' hg' _ he
      have HN3 := Lib.hid (HN.out w3 v' _ _ hown' hg')
      clear hown' hg' he HN HW
      generalize m / 1073741824 = q at *
      go_wp2
      go_roundw
      case rel => exact HN3.out
      case measure => simp [intOf]; omega
    · obtain rfl : m = 0 := by omega
      have hR := hd.out
      rw [bigL_zero, List.append_nil] at hR
      have HR := Lib.hid (BRet.of hO.out hR.symm hb.out)
      clear hR hO hb hd
      go_wp2
      go_ret
      exact HR.out
end Go.Proofs.Ytionognmgcabbaa.Big
/- The reference's naturals: sums. -/
namespace Go.Proofs.Ytionognmgcabbaa.Big
open Go.RowKit Go.Proofs.Ytionognmgcabbaa Go.Proofs.Ytionognmgcabbaa.Base Go.Proofs.Ytionognmgcabbaa.Mem Go.Proofs.Ytionognmgcabbaa.BigM
set_option linter.unusedVariables false
/-- the state of a sum: X, Y what is left of the numbers, C carried -/
def PlusSt (x y i C X Y : Nat) (ys : List Nat) : Prop := X = x / D30 ^ i ∧ Y = y / D30 ^ i ∧ ys.length = i ∧ bigL (x + y) = ys ++ bigL (X + Y + C) ∧ C ≤ 1
def PlusRel (x y : Nat) (w : World) (iv cv ov : Value) (wr : World) : Prop :=
  ∃ (i C X Y : Nat) (ys : List Nat), iv = .int .i64 (i : Int) ∧ cv = .int .i64 (C : Int) ∧ i ≤ 4000000 ∧ Hid (PlusSt x y i C X Y ys) ∧ Hid (Dig wr w.heap.size ov ys) ∧ Hid (Below w.heap.size w wr)
theorem PlusSt.next {x y i C X Y a b S : Nat} {ys : List Nat} (h : PlusSt x y i C X Y ys) (ha : a = (bigL x).getD i 0) (hb : b = (bigL y).getD i 0) (hS : S = C + a + b) (hpos : 0 < X + Y + C) :
    PlusSt x y (i + 1) (S / D30) (X / D30) (Y / D30) (ys ++ [S % D30]) := by
  obtain ⟨h1, h2, h3, h4, h5⟩ := h
  rw [dig_at, ← h1] at ha
  rw [dig_at, ← h2] at hb
  have e := of_step h4 (Nat.ne_of_gt hpos)
  have hx := Nat.mod_add_div X D30
  have hy := Nat.mod_add_div Y D30
  have e1 : X + Y + C = S + D30 * (X / D30 + Y / D30) := by rw [Nat.mul_add]; omega
  have e2 : (X + Y + C) % D30 = S % D30 := by rw [e1, Nat.add_mul_mod_self_left]
  have e3 : (X + Y + C) / D30 = X / D30 + Y / D30 + S / D30 := by rw [e1, Nat.add_mul_div_left _ _ (by decide : 0 < D30)]; omega
  rw [e2, e3] at e
  refine ⟨by rw [pow_succ_div, h1], by rw [pow_succ_div, h2], by rw [List.length_append, h3]; rfl, e, ?_⟩
  have l1 : X % D30 < D30 := Nat.mod_lt _ (by decide)
  have l2 : Y % D30 < D30 := Nat.mod_lt _ (by decide)
  unfold D30 at *
  omega
theorem PlusRel.next {x y i C X Y a b S : Nat} {w wr w3 : World} {v v' : Value} {ys : List Nat} {cs : Array Value} {t : TypeId} (h : PlusSt x y i C X Y ys) (hl : (bigL (x + y)).length ≤ 4000000) (ha : a = (bigL x).getD i 0) (hb : b = (bigL y).getD i 0) (hS : S = C + a + b) (hpos : 0 < X + Y + C)
    (hO : Dig wr w.heap.size v ys) (hbl : Below w.heap.size w wr)
    (hown : w3.ownsRow w.heap.size 2 1 v' (ys.length + 1) (ints (zs ys) ++ [.int .i64 ((S % D30 : Nat) : Int)])) (hg : (wr.alloc (.cells cs t)).grownBy w3 v.ownBlock) : PlusRel x y w (.int .i64 ((i : Int) + 1)) (.int .i64 ((S / D30 : Nat) : Int)) v' w3 := by
  obtain ⟨h1, h2⟩ := hO.push hbl hown hg
  have h3 := h.next ha hb hS hpos
  have h4 := h3.2.2.2.1
  have h5 := congrArg List.length h4
  have h6 := h3.2.2.1
  rw [List.length_append] at h5
  exact ⟨i + 1, S / D30, X / D30, Y / D30, ys ++ [S % D30], by simp, rfl, by omega, Lib.hid h3, Lib.hid h1, Lib.hid h2⟩
theorem PlusRel.done {x y i C X Y : Nat} {w wr : World} {v : Value} {ys : List Nat} (h : PlusSt x y i C X Y ys) (h0 : X + Y + C = 0) (hO : Dig wr w.heap.size v ys) (hbl : Below w.heap.size w wr) : BRet (x + y) w (.returned v) wr := by
  obtain ⟨h1, h2, h3, h4, h5⟩ := h
  rw [h0, bigL_zero, List.append_nil] at h4
  exact BRet.of hO h4.symm hbl
set_option maxHeartbeats 4000000 in
set_option maxRecDepth 100000 in
theorem bigPlus_any {x y : Nat} {u v : Value} (w : World) (hx : IsB w x u) (hy : IsB w y v) (hl : (bigL x).length ≤ 1000000) (hl' : (bigL y).length ≤ 1000000) : Calls Try.prog 64 #[u, v] w (BRet (x + y) w) := by
  obtain ⟨i0, hi, hz0, hz1, hz2⟩ := info_parts infoI
  have HL : Hid ((bigL (x + y)).length ≤ 4000000) := Lib.hid (by have := len_add x y; omega)
  have HLX : Hid (∀ i, i < (bigL x).length ↔ 0 < x / D30 ^ i) := Lib.hid (fun i => lt_iff x i)
  have HLY : Hid (∀ i, i < (bigL y).length ↔ 0 < y / D30 ^ i) := Lib.hid (fun i => lt_iff y i)
  have HDX := Lib.hid (fun i => okN_at (bigL_ok x) i)
  have HDY := Lib.hid (fun i => okN_at (bigL_ok y) i)
  have H0 : Hid (PlusRel x y w (.int .i64 0) (.int .i64 0) (.slice (some ⟨w.heap.size, 0, none⟩) 0 0) (w.alloc (.cells #[] 2))) := Lib.hid
    ⟨0, 0, x, y, [], rfl, rfl, Nat.zero_le _, Lib.hid ⟨by simp, by simp, rfl, rfl, Nat.zero_le _⟩, Lib.hid (World.ownsRow_made w #[] 0 (Nat.le_refl _) (Nat.zero_le _) (by simp)), Lib.hid ((Below.refl _ _).alloc (Nat.le_refl _) _)⟩
  obtain ⟨A, c, rfl, _⟩ := Dig.form hx
  obtain ⟨A', c', rfl, _⟩ := Dig.form hy
  have HX := Lib.hid hx
  have HY := Lib.hid hy
  clear hx hy
  go_enter Try.func64, Try.ntmps64
  go_wp2
  go_loopw [7, 6, 5] (fun iv cv ov wr => PlusRel x y w iv cv ov wr) (fun iv _ _ _ => 4000001 - (intOf iv).toNat)
  case atStart => exact H0.out
  case round =>
    obtain ⟨i, C, X, Y, ys, rfl, rfl, hil, hst, hO, hb⟩ := hrel
    clear H0
    have hC := hst.out.2.2.2.2
    have hyl : ys.length ≤ 4000000 := by have := hst.out.2.2.1; omega
    have hX := (HLX.out i)
    have hY := (HLY.out i)
    rw [← hst.out.1] at hX
    rw [← hst.out.2.1] at hY
    have HPX := Lib.hid hX
    have HPY := Lib.hid hY
    have hsz := hb.out.size
    clear hX hY
    have hax := HDX.out i
    have hay := HDY.out i
    unfold D30 at hax hay
    obtain ⟨a, ha⟩ : ∃ a, a = (bigL x).getD i 0 := ⟨_, rfl⟩
    obtain ⟨b, hbd⟩ : ∃ b, b = (bigL y).getD i 0 := ⟨_, rfl⟩
    rw [← ha] at hax
    rw [← hbd] at hay
    have HN := Lib.hid (fun (hpos : 0 < X + Y + C) S (hS : S = C + a + b) w3 v' cs t hown hg => PlusRel.next (w3 := w3) (v' := v') (cs := cs) (t := t) hst.out HL.out ha hbd hS hpos hO.out hb.out hown hg)
    by_cases h1 : i < (bigL x).length
    · obtain ⟨g, rfl, _, hgl, hca⟩ := Dig.cell (HX.out.below hb.out) h1
      rw [← ha] at hca
      have hpos : 0 < X + Y + C := by have := HPX.out.1 h1; omega
      by_cases h2 : i < (bigL y).length
      · obtain ⟨g', rfl, _, hgl', hcb⟩ := Dig.cell (HY.out.below hb.out) h2
        rw [← hbd] at hcb
        obtain ⟨S, hS⟩ : ∃ S, S = C + a + b := ⟨_, rfl⟩
        replace HN := Lib.hid (HN.out hpos S hS)
        clear hpos ha hbd
        have hand := and30 S (by omega)
        have hcS : (S : Int) = (C : Int) + (a : Int) + (b : Int) := by omega
        rw [hcS] at hand
        have hdiv : ((C : Int) + (a : Int) + (b : Int)) / 1073741824 = ((S / D30 : Nat) : Int) := by rw [← hcS]; simp [D30]
        have hown := World.ownsRow.alloc hO.out (.cells #[.int .i64 ((S % 1073741824 : Nat) : Int)] 2)
        have HW := Lib.hid hown
        clear hown hO hb hst hcS
        unfold D30 at HN hdiv
        generalize S % 1073741824 = d at *
        generalize S / 1073741824 = q at *
        go_wp2_with (at_builtin; refine wpList_append_own_at _ rfl (.tmp 45) (.tmp 48) 55 rfl w.heap.size 2 i0 (.int .i64 0) 1 8 Try.underlying55 hi hz0 hz1 hz2 rfl (by decide) _ _ _ rfl HW.out ⟨wr.heap.size, 0, none⟩ 1 1 [.int .i64 (d : Int)] rfl rfl ?p1a ?p2a ?p3a ?p4a ?p5a ?_)
        try case p1a => exact news_one _ _ _ (by simp)
        try case p2a => first | exact one_int | rfl | simp
        try case p3a => first | (simp only [maxLen]; omega) | omega
        try case p4a => omega
        try case p5a => first | (simp only [World.size_alloc]; omega) | omega
        intro v' w3 hown' hg' _ he
        have HN3 := Lib.hid (HN.out w3 v' _ _ hown' hg')
        clear hown' hg' he HN HW
        go_wp2
        go_roundw
        case rel => exact HN3.out
        case measure => simp [intOf]; omega
      · have hb0 : b = 0 := by rw [hbd]; exact getD_none (by omega)
        subst hb0
        obtain ⟨S, hS⟩ : ∃ S, S = C + a := ⟨_, rfl⟩
        replace HN := Lib.hid (HN.out hpos S (by omega))
        clear hpos ha hbd
        have hand := and30 S (by omega)
        have hcS : (S : Int) = (C : Int) + (a : Int) := by omega
        rw [hcS] at hand
        have hdiv : ((C : Int) + (a : Int)) / 1073741824 = ((S / D30 : Nat) : Int) := by rw [← hcS]; simp [D30]
        have hown := World.ownsRow.alloc hO.out (.cells #[.int .i64 ((S % 1073741824 : Nat) : Int)] 2)
        have HW := Lib.hid hown
        clear hown hO hb hst hcS
        unfold D30 at HN hdiv
        generalize S % 1073741824 = d at *
        generalize S / 1073741824 = q at *
        go_wp2_with (at_builtin; refine wpList_append_own_at _ rfl (.tmp 45) (.tmp 48) 55 rfl w.heap.size 2 i0 (.int .i64 0) 1 8 Try.underlying55 hi hz0 hz1 hz2 rfl (by decide) _ _ _ rfl HW.out ⟨wr.heap.size, 0, none⟩ 1 1 [.int .i64 (d : Int)] rfl rfl ?p1a ?p2a ?p3a ?p4a ?p5a ?_)
        try case p1a => exact news_one _ _ _ (by simp)
        try case p2a => first | exact one_int | rfl | simp
        try case p3a => first | (simp only [maxLen]; omega) | omega
        try case p4a => omega
        try case p5a => first | (simp only [World.size_alloc]; omega) | omega
        intro v' w3 hown' hg' _ he
        have HN3 := Lib.hid (HN.out w3 v' _ _ hown' hg')
        clear hown' hg' he HN HW
        go_wp2
        go_roundw
        case rel => exact HN3.out
        case measure => simp [intOf]; omega
    · have ha0 : a = 0 := by rw [ha]; exact getD_none (by omega)
      subst ha0
      by_cases h2 : i < (bigL y).length
      · obtain ⟨g', rfl, _, hgl', hcb⟩ := Dig.cell (HY.out.below hb.out) h2
        rw [← hbd] at hcb
        have hpos : 0 < X + Y + C := by have := HPY.out.1 h2; omega
        obtain ⟨S, hS⟩ : ∃ S, S = C + b := ⟨_, rfl⟩
        replace HN := Lib.hid (HN.out hpos S (by omega))
        clear hpos ha hbd
        have hand := and30 S (by omega)
        have hcS : (S : Int) = (C : Int) + (b : Int) := by omega
        rw [hcS] at hand
        have hdiv : ((C : Int) + (b : Int)) / 1073741824 = ((S / D30 : Nat) : Int) := by rw [← hcS]; simp [D30]
        have hown := World.ownsRow.alloc hO.out (.cells #[.int .i64 ((S % 1073741824 : Nat) : Int)] 2)
        have HW := Lib.hid hown
        clear hown hO hb hst hcS
        unfold D30 at HN hdiv
        generalize S % 1073741824 = d at *
        generalize S / 1073741824 = q at *
        go_wp2_with (at_builtin; refine wpList_append_own_at _ rfl (.tmp 45) (.tmp 48) 55 rfl w.heap.size 2 i0 (.int .i64 0) 1 8 Try.underlying55 hi hz0 hz1 hz2 rfl (by decide) _ _ _ rfl HW.out ⟨wr.heap.size, 0, none⟩ 1 1 [.int .i64 (d : Int)] rfl rfl ?p1a ?p2a ?p3a ?p4a ?p5a ?_)
        try case p1a => exact news_one _ _ _ (by simp)
        try case p2a => first | exact one_int | rfl | simp
        try case p3a => first | (simp only [maxLen]; omega) | omega
        try case p4a => omega
        try case p5a => first | (simp only [World.size_alloc]; omega) | omega
        intro v' w3 hown' hg' _ he
        have HN3 := Lib.hid (HN.out w3 v' _ _ hown' hg')
        clear hown' hg' he HN HW
        go_wp2
        go_roundw
        case rel => exact HN3.out
        case measure => simp [intOf]; omega
      · have hb0 : b = 0 := by rw [hbd]; exact getD_none (by omega)
        subst hb0
        by_cases h3 : 0 < C
        · have hpos : 0 < X + Y + C := by omega
          obtain ⟨S, hS⟩ : ∃ S, S = C := ⟨_, rfl⟩
          replace HN := Lib.hid (HN.out hpos S (by omega))
          clear hpos ha hbd
          have hand := and30 S (by omega)
          have hcS : (S : Int) = (C : Int) := by omega
          rw [hcS] at hand
          have hdiv : ((C : Int)) / 1073741824 = ((S / D30 : Nat) : Int) := by rw [← hcS]; simp [D30]
          have hown := World.ownsRow.alloc hO.out (.cells #[.int .i64 ((S % 1073741824 : Nat) : Int)] 2)
          have HW := Lib.hid hown
          clear hown hO hb hst hcS
          unfold D30 at HN hdiv
          generalize S % 1073741824 = d at *
          generalize S / 1073741824 = q at *
          go_wp2_with (at_builtin; refine wpList_append_own_at _ rfl (.tmp 45) (.tmp 48) 55 rfl w.heap.size 2 i0 (.int .i64 0) 1 8 Try.underlying55 hi hz0 hz1 hz2 rfl (by decide) _ _ _ rfl HW.out ⟨wr.heap.size, 0, none⟩ 1 1 [.int .i64 (d : Int)] rfl rfl ?p1a ?p2a ?p3a ?p4a ?p5a ?_)
          try case p1a => exact news_one _ _ _ (by simp)
          try case p2a => first | exact one_int | rfl | simp
          try case p3a => first | (simp only [maxLen]; omega) | omega
          try case p4a => omega
          try case p5a => first | (simp only [World.size_alloc]; omega) | omega
          intro v' w3 hown' hg' _ he
          have HN3 := Lib.hid (HN.out w3 v' _ _ hown' hg')
          clear hown' hg' he HN HW
          go_wp2
          go_roundw
          case rel => exact HN3.out
          case measure => simp [intOf]; omega
        · have h0 : X + Y + C = 0 := by
            have := HPX.out
            have := HPY.out
            omega
          have HR := Lib.hid (PlusRel.done hst.out h0 hO.out hb.out)
          clear hO hb hst HN h0 ha hbd
          go_wp2
          go_ret
          exact HR.out
end Go.Proofs.Ytionognmgcabbaa.Big
/- The reference's naturals: comparison, differences. -/
namespace Go.Proofs.Ytionognmgcabbaa.Big
open Go.RowKit Go.Proofs.Ytionognmgcabbaa Go.Proofs.Ytionognmgcabbaa.Base Go.Proofs.Ytionognmgcabbaa.Mem Go.Proofs.Ytionognmgcabbaa.BigM
set_option linter.unusedVariables false
/-- which of two naturals is less -/
def cmpN (x y : Nat) : Int := if x < y then -1 else if y < x then 1 else 0
theorem cmpN_lt {x y : Nat} (h : x < y) : cmpN x y = -1 := by simp [cmpN, h]
theorem cmpN_gt {x y : Nat} (h : y < x) : cmpN x y = 1 := by
  unfold cmpN; rw [if_neg (by omega), if_pos h]
theorem cmpN_eq {x y : Nat} (h : x = y) : cmpN x y = 0 := by
  unfold cmpN; rw [if_neg (by omega), if_neg (by omega)]
theorem IsB.cell {w : World} {x n c : Nat} {A : Option Addr} (h : IsB w x (.slice A n c)) {i : Nat} (hi : i < (bigL x).length) : ∃ g, A = some ⟨g, 0, none⟩ ∧ w.cell? ⟨g, i, none⟩ = some (.int .i64 (((bigL x).getD i 0 : Nat) : Int)) := by
  obtain ⟨g, e, _, _, h4⟩ := Dig.cell h hi
  exact ⟨g, e, h4⟩
set_option maxHeartbeats 2000000 in
set_option maxRecDepth 100000 in
theorem bigCmp_any {x y : Nat} {u v : Value} (w : World) (hx : IsB w x u) (hy : IsB w y v) (hl : (bigL x).length ≤ 4000000) (hl' : (bigL y).length ≤ 4000000) : Calls Try.prog 93 #[u, v] w fun e w' => e = .returned (.int .i64 (cmpN x y)) ∧ Drawn w w' := by
  obtain ⟨A, c, rfl, _⟩ := Dig.form hx
  obtain ⟨A', c', rfl, _⟩ := Dig.form hy
  have HX := Lib.hid (fun wr (hD : Drawn w wr) i (hi : i < (bigL x).length) => IsB.cell (hx.below hD.below) hi)
  have HY := Lib.hid (fun wr (hD : Drawn w wr) i (hi : i < (bigL y).length) => IsB.cell (hy.below hD.below) hi)
  have vx := bigL_val x
  have vy := bigL_val y
  have ox := bigL_ok x
  have oy := bigL_ok y
  have l1 := @bigL_len_lt x y
  have l2 := @bigL_len_lt y x
  clear hx hy
  generalize hxs : bigL x = xs at *
  generalize hys : bigL y = ys at *
  have HV := Lib.hid (And.intro vx vy)
  have HO := Lib.hid (And.intro ox oy)
  by_cases hlen : xs.length = ys.length
  · have heq : ((xs.length : Int) != (ys.length : Int)) = false := by simp [hlen]
    have HL := Lib.hid hlen
    clear vx vy ox oy l1 l2 hlen hxs hys
    go_enter Try.func93, Try.ntmps93
    go_wp2
    go_loopw [5] (fun iv wr => ∃ n : Nat, n ≤ xs.length ∧ iv = .int .i64 ((n : Int) - 1) ∧ Hid (∀ j, n ≤ j → j < xs.length → xs.getD j 0 = ys.getD j 0) ∧ Drawn w wr) (fun iv _ => (intOf iv + 1).toNat)
    case atStart => exact ⟨xs.length, Nat.le_refl _, rfl, Lib.hid (fun j h1 h2 => absurd h2 (by omega)), Drawn.refl _⟩
    case round =>
      obtain ⟨n, hn, rfl, he, hD⟩ := hrel
      have HD := Lib.hid hD
      clear hD
      by_cases hpos : 0 < n
      · obtain ⟨m, rfl⟩ : ∃ m, n = m + 1 := ⟨n - 1, by omega⟩
        obtain ⟨b, rfl, g⟩ := HX.out wr HD.out m (by omega)
        obtain ⟨b', rfl, g'⟩ := HY.out wr HD.out m (by have := HL.out; omega)
        have hmy : m < ys.length := by have := HL.out; omega
        have e1 : (((m + 1 : Nat) : Int) - 1) = (m : Int) := by omega
        rw [e1]
        have i0 : (0 : Int) ≤ (m : Int) := Int.natCast_nonneg _
        have i1 : (m : Int) < (xs.length : Int) := by omega
        have i2 : (m : Int) < (ys.length : Int) := by omega
        clear e1
        by_cases hz : xs.getD m 0 = ys.getD m 0
        · have HN : Hid (∀ j, m ≤ j → j < xs.length → xs.getD j 0 = ys.getD j 0) := Lib.hid fun j h1 h2 => by
            rcases Nat.lt_or_ge m j with h | h
            · exact he.out j (by omega) h2
            · rw [show j = m by omega]; exact hz
          rw [hz] at g
          clear hz
          generalize ys.getD m 0 = y1 at *
          have hb3 : decide (y1 < y1) = false := decide_eq_false (by omega)
          go_wp2
          go_quiet (fail)
          go_wp2
          go_quiet (fail)
          go_wp2
          go_roundw
          case rel => exact ⟨m, by omega, by congr 1, HN, HD.out.next _⟩
          case measure => simp [intOf]
        · rcases Nat.lt_or_gt_of_ne hz with hlt | hgt
          · have HR := Lib.hid (cmp_lt (n := m) HL.out HO.out.1 HO.out.2 (by omega) (fun j h1 h2 => he.out j h1 h2) hlt)
            have hb2 : decide (((xs.getD m 0 : Nat) : Int) < ((ys.getD m 0 : Nat) : Int)) = true := decide_eq_true (by omega)
            have hb3 : decide (xs.getD m 0 < ys.getD m 0) = true := decide_eq_true hlt
            clear hz hlt
            generalize xs.getD m 0 = x1 at *
            generalize ys.getD m 0 = y1 at *
            go_wp2
            go_quiet (fail)
            go_wp2
            go_ret
            exact ⟨ret_int (by rw [HV.out.1, HV.out.2] at HR; exact (cmpN_lt HR.out).symm), HD.out.next _⟩
          · have HR := Lib.hid (cmp_lt (n := m) HL.out.symm HO.out.2 HO.out.1 (by omega) (fun j h1 h2 => (he.out j h1 (by have := HL.out; omega)).symm) hgt)
            have hb2 : decide (((xs.getD m 0 : Nat) : Int) < ((ys.getD m 0 : Nat) : Int)) = false := decide_eq_false (by omega)
            have hb3 : decide (xs.getD m 0 < ys.getD m 0) = false := decide_eq_false (by omega)
            have hb4 : decide (((ys.getD m 0 : Nat) : Int) < ((xs.getD m 0 : Nat) : Int)) = true := decide_eq_true (by omega)
            have hb5 : decide (ys.getD m 0 < xs.getD m 0) = true := decide_eq_true (by omega)
            clear hz hgt
            generalize xs.getD m 0 = x1 at *
            generalize ys.getD m 0 = y1 at *
            go_wp2
            go_quiet (fail)
            go_wp2
            go_quiet (fail)
            go_wp2
            go_ret
            exact ⟨ret_int (by rw [HV.out.1, HV.out.2] at HR; exact (cmpN_gt HR.out).symm), (HD.out.next _).next _⟩
      · obtain rfl : n = 0 := by omega
        have HE := Lib.hid ((val_cmp HL.out HO.out.1 HO.out.2 0 (Nat.zero_le _) he.out).2.2 (by simp))
        go_wp2
        go_ret
        exact ⟨ret_int (by rw [HV.out.1, HV.out.2] at HE; exact (cmpN_eq HE.out).symm), HD.out⟩
  · have heq : ((xs.length : Int) != (ys.length : Int)) = true := by simp; omega
    rcases Nat.lt_or_gt_of_ne hlen with h | h
    · have HR := Lib.hid (cmpN_lt (l1 h))
      clear vx vy ox oy l1 l2 hlen hxs hys
      go_enter Try.func93, Try.ntmps93
      go_wp2
      go_ret
      exact ⟨ret_int HR.out.symm, Drawn.refl _⟩
    · have HR := Lib.hid (cmpN_gt (l2 h))
      have hn : ¬ xs.length < ys.length := by omega
      clear vx vy ox oy l1 l2 hlen hxs hys
      go_enter Try.func93, Try.ntmps93
      go_wp2
      go_ret
      exact ⟨ret_int HR.out.symm, Drawn.refl _⟩
end Go.Proofs.Ytionognmgcabbaa.Big
/- The reference's naturals: differences. -/
namespace Go.Proofs.Ytionognmgcabbaa.Big
open Go.RowKit Go.Proofs.Ytionognmgcabbaa Go.Proofs.Ytionognmgcabbaa.Base Go.Proofs.Ytionognmgcabbaa.Mem Go.Proofs.Ytionognmgcabbaa.BigM
set_option linter.unusedVariables false
def sLen : Value → Nat
  | .slice _ n _ => n
  | _ => 0
/-- the digits 0 at the end go -/
def TrimRel (A : Option Addr) (c : Nat) (xs : List Nat) (ov : Value) : Prop := ∃ n : Nat, n ≤ xs.length ∧ ov = .slice A n c ∧ Hid (val (xs.take n) = val xs)
theorem Dig.cap {w : World} {B n c : Nat} {A : Option Addr} {xs : List Nat} (h : Dig w B (.slice A n c) xs) : n ≤ c ∧ c ≤ 9223372036854775807 := by
  rcases h.2 with ⟨e, _⟩ | ⟨g, cap, cur, e, h1, hh, h2, h3, h4⟩
  · injection e with e1 e2 e3
    omega
  · injection e with e1 e2 e3
    subst e3 e2
    unfold maxLen at h3
    exact ⟨h2, h3⟩
theorem trim_end {w wr : World} {B m n c : Nat} {A : Option Addr} {xs : List Nat} (hO : Dig wr B (.slice A m c) xs) (hok : okN xs) (hn : n ≤ xs.length) (hv : val (xs.take n) = val xs) (h : n = 0 ∨ xs.getD (n - 1) 0 ≠ 0) (hb : Below w.heap.size w wr) : BRet (val xs) w (.returned (.slice A n c)) wr := by
  have h1 := trim_done hok hn hv h
  have h2 := hO.take hn
  exact BRet.of h2 h1 hb
def MinusSt (xs ys : List Nat) (i C : Nat) (os : List Nat) : Prop := os.length = i ∧ okN os ∧ val os + val (ys.take i) = val (xs.take i) + D30 ^ i * C ∧ C ≤ 1
def MinusRel (xs ys : List Nat) (w : World) (iv cv ov : Value) (wr : World) : Prop :=
  ∃ (i C : Nat) (os : List Nat), iv = .int .i64 (i : Int) ∧ cv = .int .i64 (C : Int) ∧ i ≤ xs.length ∧ Hid (MinusSt xs ys i C os) ∧ Hid (Dig wr w.heap.size ov os) ∧ Hid (Below w.heap.size w wr)
theorem MinusRel.next {xs ys os : List Nat} {i C C' a b d : Nat} {w wr w3 : World} {v v' : Value} {cs : Array Value} {t : TypeId} (h : MinusSt xs ys i C os) (hi : i < xs.length) (ha : a = xs.getD i 0) (hb : b = ys.getD i 0) (hS : d + b + C = a + D30 * C') (hd : d < D30) (hC : C' ≤ 1)
    (hO : Dig wr w.heap.size v os) (hbl : Below w.heap.size w wr)
    (hown : w3.ownsRow w.heap.size 2 1 v' (os.length + 1) (ints (zs os) ++ [.int .i64 (d : Int)])) (hg : (wr.alloc (.cells cs t)).grownBy w3 v.ownBlock) : MinusRel xs ys w (.int .i64 ((i : Int) + 1)) (.int .i64 (C' : Int)) v' w3 := by
  obtain ⟨h1, h2⟩ := hO.push hbl hown hg
  obtain ⟨k1, k2, k3, k4⟩ := h
  refine ⟨i + 1, C', os ++ [d], by simp, rfl, hi, Lib.hid ⟨by rw [snoc_len, k1], snoc_ok k2 hd, ?_, hC⟩, Lib.hid h1, Lib.hid h2⟩
  rw [val_snoc, val_take_any ys i, val_take_any xs i, k1, ← ha, ← hb]
  exact sub_step k3 hS
theorem minus_done {x y C : Nat} {os : List Nat} (h : MinusSt (bigL x) (bigL y) (bigL x).length C os) (hle : y ≤ x) : val os = x - y := by
  obtain ⟨h1, h2, h3, h4⟩ := h
  have hl := len_mono hle
  rw [List.take_of_length_le hl, List.take_of_length_le (Nat.le_refl _), bigL_val, bigL_val] at h3
  have h5 := val_lt os h2
  rw [h1] at h5
  have h01 : C = 0 ∨ C = 1 := by omega
  rcases h01 with rfl | rfl
  · omega
  · omega
set_option maxHeartbeats 4000000 in
set_option maxRecDepth 100000 in
theorem bigMinus_any {x y : Nat} {u v : Value} (w : World) (hx : IsB w x u) (hy : IsB w y v) (hl : (bigL x).length ≤ 4000000) (hle : y ≤ x) : Calls Try.prog 94 #[u, v] w (BRet (x - y) w) := by
  obtain ⟨i0, hi, hz0, hz1, hz2⟩ := info_parts infoI
  have HV : Hid (∀ os C, MinusSt (bigL x) (bigL y) (bigL x).length C os → val os = x - y) := Lib.hid (fun os C h => minus_done h hle)
  have hlen2 := len_mono hle
  have HDX := Lib.hid (fun i => okN_at (bigL_ok x) i)
  have HDY := Lib.hid (fun i => okN_at (bigL_ok y) i)
  obtain ⟨A, c, rfl, _⟩ := Dig.form hx
  obtain ⟨A', c', rfl, _⟩ := Dig.form hy
  have HX := Lib.hid (fun wr (hD : Below w.heap.size w wr) i (hi : i < (bigL x).length) => IsB.cell (hx.below hD) hi)
  have HY := Lib.hid (fun wr (hD : Below w.heap.size w wr) i (hi : i < (bigL y).length) => IsB.cell (hy.below hD) hi)
  clear hx hy hle
  generalize bigL x = xs at *
  generalize bigL y = ys at *
  generalize x - y = z at *
  have H0 : Hid (MinusRel xs ys w (.int .i64 0) (.int .i64 0) (.slice (some ⟨w.heap.size, 0, none⟩) 0 0) (w.alloc (.cells #[] 2))) := Lib.hid
    ⟨0, 0, [], rfl, rfl, Nat.zero_le _, Lib.hid ⟨rfl, (fun y hy => by cases hy), by simp [val], Nat.zero_le _⟩, Lib.hid (World.ownsRow_made w #[] 0 (Nat.le_refl _) (Nat.zero_le _) (by simp)), Lib.hid ((Below.refl _ _).alloc (Nat.le_refl _) _)⟩
  go_enter Try.func94, Try.ntmps94
  go_wp2
  go_loopw [7, 6, 5] (fun iv cv ov wr => MinusRel xs ys w iv cv ov wr) (fun iv _ _ _ => xs.length - (intOf iv).toNat)
  case atStart => exact H0.out
  case round =>
    obtain ⟨i, C, os, rfl, rfl, hil, hst, hO, hb⟩ := hrel
    clear H0
    have hC := hst.out.2.2.2
    have hyl : os.length ≤ 4000000 := by have := hst.out.1; omega
    have hsz := hb.out.size
    by_cases hlt : i < xs.length
    · have hax := HDX.out i
      have hay := HDY.out i
      unfold D30 at hax hay
      obtain ⟨g, rfl, hca⟩ := HX.out _ hb.out i hlt
      obtain ⟨a, ha⟩ : ∃ a, a = xs.getD i 0 := ⟨_, rfl⟩
      obtain ⟨b, hbd⟩ : ∃ b, b = ys.getD i 0 := ⟨_, rfl⟩
      rw [← ha] at hax hca
      rw [← hbd] at hay
      have HN0 := Lib.hid (fun d C' (hS : d + b + C = a + 1073741824 * C') (hd : d < 1073741824) (hC' : C' ≤ 1) w3 v' cs t hown hg => MinusRel.next (w3 := w3) (v' := v') (cs := cs) (t := t) hst.out hlt ha hbd hS hd hC' hO.out hb.out hown hg)
      by_cases h2 : i < ys.length
      · obtain ⟨g', rfl, hcb⟩ := HY.out _ hb.out i h2
        rw [← hbd] at hcb
        clear ha hbd
        by_cases h3 : a < b + C
        · have hng : (a : Int) - (C : Int) - (b : Int) < 0 := by omega
          obtain ⟨d, hd⟩ : ∃ d, d + b + C = a + 1073741824 := ⟨a + 1073741824 - b - C, by omega⟩
          have hdd : (a : Int) - (C : Int) - (b : Int) + 1073741824 = (d : Int) := by omega
          have hdd2 : 1073741824 + ((a : Int) - (C : Int) - (b : Int)) = (d : Int) := by omega
          have HN := Lib.hid (HN0.out d 1 (by omega) (by omega) (by omega))
          clear HN0
          have hown := World.ownsRow.alloc hO.out (.cells #[.int .i64 (d : Int)] 2)
          have HW := Lib.hid hown
          clear hown hO hb hst
          go_wp2_with (at_builtin; refine wpList_append_own_at _ rfl (.tmp 36) (.tmp 38) 55 rfl w.heap.size 2 i0 (.int .i64 0) 1 8 Try.underlying55 hi hz0 hz1 hz2 rfl (by decide) _ _ _ rfl HW.out ⟨wr.heap.size, 0, none⟩ 1 1 [.int .i64 (d : Int)] rfl rfl ?p1a ?p2a ?p3a ?p4a ?p5a ?_)
          try case p1a => exact news_one _ _ _ (by simp)
          try case p2a => first | exact one_int | rfl | simp
          try case p3a => first | (simp only [maxLen]; omega) | omega
          try case p4a => omega
          try case p5a => first | (simp only [World.size_alloc]; omega) | omega
          intro v' w3 hown' hg' _ he
          have HN3 := Lib.hid (HN.out w3 v' _ _ hown' hg')
          clear hown' hg' he HN HW
          go_wp2
          go_roundw
          case rel => exact HN3.out
          case measure => simp [intOf]; omega
        · have hng : ¬ (a : Int) - (C : Int) - (b : Int) < 0 := by omega
          obtain ⟨d, hd⟩ : ∃ d, d + b + C = a := ⟨a - b - C, by omega⟩
          have hdd : (a : Int) - (C : Int) - (b : Int) = (d : Int) := by omega
          have HN := Lib.hid (HN0.out d 0 (by omega) (by omega) (by omega))
          clear HN0 hng
          have hown := World.ownsRow.alloc hO.out (.cells #[.int .i64 (d : Int)] 2)
          have HW := Lib.hid hown
          clear hown hO hb hst
          go_wp2_with (at_builtin; refine wpList_append_own_at _ rfl (.tmp 36) (.tmp 38) 55 rfl w.heap.size 2 i0 (.int .i64 0) 1 8 Try.underlying55 hi hz0 hz1 hz2 rfl (by decide) _ _ _ rfl HW.out ⟨wr.heap.size, 0, none⟩ 1 1 [.int .i64 (d : Int)] rfl rfl ?p1a ?p2a ?p3a ?p4a ?p5a ?_)
          try case p1a => exact news_one _ _ _ (by simp)
          try case p2a => first | exact one_int | rfl | simp
          try case p3a => first | (simp only [maxLen]; omega) | omega
          try case p4a => omega
          try case p5a => first | (simp only [World.size_alloc]; omega) | omega
          intro v' w3 hown' hg' _ he
          have HN3 := Lib.hid (HN.out w3 v' _ _ hown' hg')
          clear hown' hg' he HN HW
          go_wp2
          go_roundw
          case rel => exact HN3.out
          case measure => simp [intOf]; omega
      · have hb0 : b = 0 := by rw [hbd]; exact getD_none (by omega)
        subst hb0
        clear ha hbd
        by_cases h3 : a < C
        · have hng : (a : Int) - (C : Int) < 0 := by omega
          obtain ⟨d, hd⟩ : ∃ d, d + C = a + 1073741824 := ⟨a + 1073741824 - C, by omega⟩
          have hdd : (a : Int) - (C : Int) + 1073741824 = (d : Int) := by omega
          have HN := Lib.hid (HN0.out d 1 (by omega) (by omega) (by omega))
          clear HN0
          have hown := World.ownsRow.alloc hO.out (.cells #[.int .i64 (d : Int)] 2)
          have HW := Lib.hid hown
          clear hown hO hb hst
          go_wp2_with (at_builtin; refine wpList_append_own_at _ rfl (.tmp 36) (.tmp 38) 55 rfl w.heap.size 2 i0 (.int .i64 0) 1 8 Try.underlying55 hi hz0 hz1 hz2 rfl (by decide) _ _ _ rfl HW.out ⟨wr.heap.size, 0, none⟩ 1 1 [.int .i64 (d : Int)] rfl rfl ?p1a ?p2a ?p3a ?p4a ?p5a ?_)
          try case p1a => exact news_one _ _ _ (by simp)
          try case p2a => first | exact one_int | rfl | simp
          try case p3a => first | (simp only [maxLen]; omega) | omega
          try case p4a => omega
          try case p5a => first | (simp only [World.size_alloc]; omega) | omega
          intro v' w3 hown' hg' _ he
          have HN3 := Lib.hid (HN.out w3 v' _ _ hown' hg')
          clear hown' hg' he HN HW
          go_wp2
          go_roundw
          case rel => exact HN3.out
          case measure => simp [intOf]; omega
        · have hng : ¬ (a : Int) - (C : Int) < 0 := by omega
          obtain ⟨d, hd⟩ : ∃ d, d + C = a := ⟨a - C, by omega⟩
          have hdd : (a : Int) - (C : Int) = (d : Int) := by omega
          have HN := Lib.hid (HN0.out d 0 (by omega) (by omega) (by omega))
          clear HN0 hng
          have hown := World.ownsRow.alloc hO.out (.cells #[.int .i64 (d : Int)] 2)
          have HW := Lib.hid hown
          clear hown hO hb hst
          go_wp2_with (at_builtin; refine wpList_append_own_at _ rfl (.tmp 36) (.tmp 38) 55 rfl w.heap.size 2 i0 (.int .i64 0) 1 8 Try.underlying55 hi hz0 hz1 hz2 rfl (by decide) _ _ _ rfl HW.out ⟨wr.heap.size, 0, none⟩ 1 1 [.int .i64 (d : Int)] rfl rfl ?p1a ?p2a ?p3a ?p4a ?p5a ?_)
          try case p1a => exact news_one _ _ _ (by simp)
          try case p2a => first | exact one_int | rfl | simp
          try case p3a => first | (simp only [maxLen]; omega) | omega
          try case p4a => omega
          try case p5a => first | (simp only [World.size_alloc]; omega) | omega
          intro v' w3 hown' hg' _ he
          have HN3 := Lib.hid (HN.out w3 v' _ _ hown' hg')
          clear hown' hg' he HN HW
          go_wp2
          go_roundw
          case rel => exact HN3.out
          case measure => simp [intOf]; omega
    · obtain rfl : i = xs.length := by omega
      have hlen := Lib.hid hst.out.1
      have Hok := Lib.hid hst.out.2.1
      replace HV := Lib.hid (HV.out os C hst.out)
      obtain ⟨AA, cc, rfl, _⟩ := Dig.form hO.out
      have hcap := Dig.cap hO.out
      have HO := Lib.hid hO.out
      have HB := Lib.hid hb.out
      clear HX HY HDX HDY hst hO hb
      go_wp2
      go_loop [5] (fun ov => TrimRel AA cc os ov) (fun ov => sLen ov)
      case atStart => exact ⟨os.length, Nat.le_refl _, by first | rfl | rw [hlen.out], Lib.hid (by rw [List.take_of_length_le (Nat.le_refl _)])⟩
      case round =>
        obtain ⟨n, hn, rfl, hv⟩ := hrel
        by_cases hpos : 0 < n
        · obtain ⟨m, rfl⟩ : ∃ m, n = m + 1 := ⟨n - 1, by omega⟩
          obtain ⟨g, hg0, _, _, hcell⟩ := Dig.cell HO.out (show m < os.length by omega)
          first | subst hg0 | (injection hg0 with hg0; injection hg0 with hg0 _ _; subst hg0)
          have hmc : ((m : Int) ≤ ((cc : Nat) : Int)) := by have := hcap; omega
          by_cases hz : os.getD m 0 = 0
          · have HN := Lib.hid (trim_step hn hv.out hz)
            rw [hz] at hcell
            clear hz
            go_wp2
            go_round
            case rel => exact ⟨m, by omega, by first | rfl | simp, HN⟩
            case measure => simp [sLen]
          · have HR := Lib.hid (trim_end HO.out Hok.out hn hv.out (.inr (by simpa using hz)) HB.out)
            have hzb : (((os.getD m 0 : Nat) : Int) == 0) = false := by simp only [beq_eq_false_iff_ne]; omega
            clear hz
            generalize os.getD m 0 = y at *
            go_wp2
            go_ret
            rw [← HV.out]
            exact HR.out
        · obtain rfl : n = 0 := by omega
          have HR := Lib.hid (trim_end HO.out Hok.out hn hv.out (.inl rfl) HB.out)
          go_wp2
          go_ret
          rw [← HV.out]
          exact HR.out
end Go.Proofs.Ytionognmgcabbaa.Big
/- The reference's naturals: products. -/
namespace Go.Proofs.Ytionognmgcabbaa.Big
open Go.RowKit Go.Proofs.Ytionognmgcabbaa Go.Proofs.Ytionognmgcabbaa.Base Go.Proofs.Ytionognmgcabbaa.Mem Go.Proofs.Ytionognmgcabbaa.BigM
set_option linter.unusedVariables false
def zeros (n : Nat) : List Nat := List.replicate n 0
theorem made_own (w : World) (n : Nat) (hn : n ≤ 10000000) : Dig (w.alloc (.cells (madeCells #[.int .i64 0] n) 2)) w.heap.size (.slice (some ⟨w.heap.size, 0, none⟩) n n) (zeros n) := by
  have := World.ownsRow_lit (e := 2) (size := 1) (base := w.heap.size) w (madeCells #[.int .i64 0] n) n (Nat.le_refl _) (by simp [maxLen]; omega) (by simp [size_madeCells])
  rw [toList_madeCells_one] at this
  unfold Dig zeros
  rw [List.length_replicate, show ints (zs (List.replicate n 0)) = List.replicate n (.int .i64 0) by simp [zs, ints]]
  exact this
theorem Dig.set {w : World} {B g n c : Nat} {xs : List Nat} (h : Dig w B (.slice (some ⟨g, 0, none⟩) n c) xs) (hn : xs.length = n) (i x : Nat) :
    Dig (w.setCell ⟨g, i, none⟩ (.int .i64 (x : Int))) B (.slice (some ⟨g, 0, none⟩) n c) (xs.set i x) := by
  subst hn
  obtain ⟨h1, h2⟩ := World.ownsRow.stored h i (.int .i64 (x : Int))
  unfold Dig
  rw [List.length_set]
  have e : ints (zs (xs.set i x)) = (ints (zs xs)).set i (.int .i64 (x : Int)) := by simp [zs, ints, List.map_set]
  rw [e]
  exact h1
theorem Dig.at {w : World} {B g n c : Nat} {xs : List Nat} (h : Dig w B (.slice (some ⟨g, 0, none⟩) n c) xs) (hn : xs.length = n) (i : Nat) (hi : i < n) : w.cell? ⟨g, i, none⟩ = some (.int .i64 ((xs.getD i 0 : Nat) : Int)) ∧ w.frozen? ⟨g, i, none⟩ = false := by
  subst hn
  obtain ⟨g', e, _, _, h4⟩ := Dig.cell h hi
  injection e with e
  injection e with e1 _ _
  subst e1
  exact ⟨h4, World.ownsRow.frozenAt h i⟩
/-- the state of a product, and of a row of it -/
def MulSt (xs ys : List Nat) (i : Nat) (os : List Nat) : Prop := os.length = xs.length + ys.length ∧ okN os ∧ val os = val (xs.take i) * val ys
def MulRel (xs ys : List Nat) (w : World) (iv : Value) (wr : World) : Prop :=
  ∃ (i : Nat) (os : List Nat), iv = .int .i64 (i : Int) ∧ i ≤ xs.length ∧ Hid (MulSt xs ys i os) ∧ Hid (Dig wr w.heap.size (.slice (some ⟨w.heap.size, 0, none⟩) (xs.length + ys.length) (xs.length + ys.length)) os) ∧ Hid (Below w.heap.size w wr)
def RowSt (xs ys : List Nat) (i x V0 k C : Nat) (os : List Nat) : Prop := os.length = xs.length + ys.length ∧ okN os ∧ val os + D30 ^ (i + k) * C = V0 + x * D30 ^ i * val (ys.take k) ∧ C < D30
def RowRel (xs ys : List Nat) (i x V0 : Nat) (w : World) (kv cv : Value) (wr : World) : Prop :=
  ∃ (k C : Nat) (os : List Nat), kv = .int .i64 (k : Int) ∧ cv = .int .i64 (C : Int) ∧ i + k ≤ xs.length + ys.length ∧ Hid (RowSt xs ys i x V0 k C os) ∧ Hid (Dig wr w.heap.size (.slice (some ⟨w.heap.size, 0, none⟩) (xs.length + ys.length) (xs.length + ys.length)) os) ∧ Hid (Below w.heap.size w wr)
theorem RowSt.room {xs ys os : List Nat} {i x V0 k C : Nat} (hok : okN xs) (hok' : okN ys) (hi : i < xs.length) (hx : x = xs.getD i 0) (hV : V0 = val (xs.take i) * val ys) (h : RowSt xs ys i x V0 k C os) (hk : k < ys.length ∨ 0 < C) : i + k < xs.length + ys.length := by
  rcases hk with hk | hC
  · omega
  · rcases Nat.lt_or_ge k ys.length with hk | hk
    · omega
    · obtain ⟨_, _, h3, _⟩ := h
      rw [List.take_of_length_le hk, hV] at h3
      have e : val (xs.take (i + 1)) = val (xs.take i) + D30 ^ i * x := by rw [val_take_any, hx]
      have e2 : val (xs.take i) * val ys + x * D30 ^ i * val ys = val (xs.take (i + 1)) * val ys := by rw [e, Nat.add_mul, Nat.mul_comm x]
      rw [e2] at h3
      have l1 := val_lt _ (okN_take hok (i + 1))
      rw [List.length_take, Nat.min_eq_left (by omega)] at l1
      have l2 := val_lt _ hok'
      have l3 : val (xs.take (i + 1)) * val ys < D30 ^ (i + 1 + ys.length) := by
        rw [Nat.pow_add]
        rcases Nat.eq_zero_or_pos (val ys) with h0 | h0
        · rw [h0, Nat.mul_zero]; exact Nat.mul_pos (by omega) (by omega)
        · exact Nat.lt_of_lt_of_le ((Nat.mul_lt_mul_right h0).2 l1) (Nat.mul_le_mul_left _ (by omega))
      have l4 : D30 ^ (i + k) ≤ D30 ^ (i + k) * C := Nat.le_mul_of_pos_right _ hC
      have l5 : D30 ^ (i + k) < D30 ^ (i + 1 + ys.length) := by omega
      have := (Nat.pow_lt_pow_iff_right (show 1 < D30 by decide)).1 l5
      omega
theorem RowRel.next {xs ys os : List Nat} {i x V0 k C S M : Nat} {w wr : World} (hx : x < D30) (hok' : okN ys) (hr : i + k < xs.length + ys.length) (h : RowSt xs ys i x V0 k C os) (hO : Dig wr w.heap.size (.slice (some ⟨w.heap.size, 0, none⟩) (xs.length + ys.length) (xs.length + ys.length)) os) (hb : Below w.heap.size w wr) (hM : M = x * ys.getD k 0) (hS : S = C + (os.getD (i + k) 0 + M)) :
    RowRel xs ys i x V0 w (.int .i64 ((k : Int) + 1)) (.int .i64 ((S / D30 : Nat) : Int)) (wr.setCell ⟨w.heap.size, i + k, none⟩ (.int .i64 ((S % D30 : Nat) : Int))) := by
  obtain ⟨k1, k2, k3, k4⟩ := h
  have o1 := hO.set k1 (i + k) (S % D30)
  have hyk := okN_at hok' k
  have hz1 := okN_at k2 (i + k)
  have hMle : M ≤ (D30 - 1) * (D30 - 1) := by rw [hM]; exact Nat.mul_le_mul (by omega) (by omega)
  have hSlt : S / D30 < D30 := by
    rw [Nat.div_lt_iff_lt_mul (by decide)]
    unfold D30 at *
    omega
  refine ⟨k + 1, S / D30, os.set (i + k) (S % D30), by simp, rfl, by omega, Lib.hid ⟨by rw [List.length_set]; exact k1, okN_setw k2 (Nat.mod_lt _ (by decide)), ?_, hSlt⟩, Lib.hid o1, Lib.hid (hb.setCell (Nat.le_refl _) _)⟩
  rw [val_take_any ys k]
  exact mul_step k3 (by rw [hS, hM]) (val_setw os (i + k) _ (by omega))
theorem MulRel.next {xs ys os : List Nat} {i x V0 k : Nat} {w wr : World} (hi : i < xs.length) (hx : x = xs.getD i 0) (hV : V0 = val (xs.take i) * val ys) (hk : ys.length ≤ k) (h : RowSt xs ys i x V0 k 0 os) (hO : Dig wr w.heap.size (.slice (some ⟨w.heap.size, 0, none⟩) (xs.length + ys.length) (xs.length + ys.length)) os) (hb : Below w.heap.size w wr) :
    MulRel xs ys w (.int .i64 ((i : Int) + 1)) wr := by
  obtain ⟨k1, k2, k3, k4⟩ := h
  refine ⟨i + 1, os, by simp, hi, Lib.hid ⟨k1, k2, ?_⟩, Lib.hid hO, Lib.hid hb⟩
  rw [List.take_of_length_le hk, Nat.mul_zero, Nat.add_zero, hV] at k3
  rw [k3, val_take_any xs i, ← hx, Nat.add_mul, Nat.mul_comm x]
set_option maxHeartbeats 4000000 in
set_option maxRecDepth 100000 in
theorem bigTimes_any {x y : Nat} {u v : Value} (w : World) (hx : IsB w x u) (hy : IsB w y v) (hl : (bigL x).length ≤ 1000000) (hl' : (bigL y).length ≤ 1000000) : Calls Try.prog 31 #[u, v] w (BRet (x * y) w) := by
  have HVX := Lib.hid (bigL_val x)
  have HVY := Lib.hid (bigL_val y)
  have HOX := Lib.hid (bigL_ok x)
  have HOY := Lib.hid (bigL_ok y)
  obtain ⟨A, c, rfl, _⟩ := Dig.form hx
  obtain ⟨A', c', rfl, _⟩ := Dig.form hy
  have HX := Lib.hid (fun wr (hD : Below w.heap.size w wr) i (hi : i < (bigL x).length) => IsB.cell (hx.below hD) hi)
  have HY := Lib.hid (fun wr (hD : Below w.heap.size w wr) i (hi : i < (bigL y).length) => IsB.cell (hy.below hD) hi)
  clear hx hy
  generalize bigL x = xs at *
  generalize bigL y = ys at *
  have hmk := run_make_row' (P := Try.prog) 55 2 (.int .i64 0) 8 Try.underlying55 infoI rfl .i64 .i64 (xs.length + ys.length) (by omega) (by omega)
  have hcast : ((xs.length + ys.length : Nat) : Int) = (xs.length : Int) + (ys.length : Int) := by omega
  rw [hcast] at hmk
  have H0 : Hid (MulRel xs ys w (.int .i64 0) (w.alloc (.cells (madeCells #[.int .i64 0] (xs.length + ys.length)) 2))) :=
    Lib.hid ⟨0, zeros (xs.length + ys.length), rfl, Nat.zero_le _, Lib.hid ⟨by simp [zeros], okN_zeros _, by rw [zeros, val_zeros]; simp [val]⟩, Lib.hid (made_own w _ (by omega)), Lib.hid ((Below.refl _ _).alloc (Nat.le_refl _) _)⟩
  clear hcast
  go_enter Try.func31, Try.ntmps31
  go_wp2
  clear hmk
  go_loopw [6] (fun iv wr => MulRel xs ys w iv wr) (fun iv _ => xs.length - (intOf iv).toNat)
  case atStart => exact H0.out
  case round =>
    obtain ⟨i, os, rfl, hi, hst, HO, HB⟩ := hrel
    clear H0
    by_cases hlt : i < xs.length
    · have hx1 := okN_at HOX.out i
      obtain ⟨gx, rfl, hcx⟩ := HX.out _ HB.out i hlt
      obtain ⟨x1, hx1e⟩ : ∃ x1, x1 = xs.getD i 0 := ⟨_, rfl⟩
      rw [← hx1e] at hx1
      obtain ⟨V0, hV0⟩ : ∃ V0, V0 = val (xs.take i) * val ys := ⟨_, rfl⟩
      have HR0 : Hid (RowRel xs ys i x1 V0 w (.int .i64 0) (.int .i64 0) wr) := Lib.hid
        ⟨0, 0, os, rfl, rfl, by omega, Lib.hid ⟨hst.out.1, hst.out.2.1, by rw [hst.out.2.2, ← hV0]; simp [val], by decide⟩, HO, HB⟩
      have HX1 := Lib.hid hx1
      have HXE := Lib.hid hx1e
      have HV0 := Lib.hid hV0
      clear hV0 hx1e hx1 hcx hst HO HB
      go_wp2
      go_loopw [8, 7] (fun kv cv wr => RowRel xs ys i x1 V0 w kv cv wr) (fun kv _ _ => xs.length + ys.length + 1 - (intOf kv).toNat)
      case atStart => exact HR0.out
      case round =>
        obtain ⟨k, C, os, rfl, rfl, hkl, hst, HO, HB⟩ := hrel
        clear HR0
        by_cases hgo : k < ys.length ∨ 0 < C
        · have hroom := RowSt.room HOX.out HOY.out hlt HXE.out HV0.out hst.out hgo
          obtain ⟨gc, gf⟩ := HO.out.at hst.out.1 (i + k) hroom
          have hz1 := okN_at hst.out.2.1 (i + k)
          have hC := hst.out.2.2.2
          have hx1 := HX1.out
          have hy1 := okN_at HOY.out k
          obtain ⟨gx', e, hcx⟩ := HX.out _ HB.out i hlt
          injection e with e
          injection e with e1 _ _
          subst e1
          rw [← HXE.out] at hcx
          obtain ⟨M, hM⟩ : ∃ M, M = x1 * ys.getD k 0 := ⟨_, rfl⟩
          have hMle : M ≤ 1073741823 * 1073741823 := by rw [hM]; exact Nat.mul_le_mul (by unfold D30 at hx1; omega) (by unfold D30 at hy1; omega)
          obtain ⟨S, hS⟩ : ∃ S, S = C + (os.getD (i + k) 0 + M) := ⟨_, rfl⟩
          have HN := Lib.hid (fun nq => RowRel.next (wr := wr.drewN nq) HX1.out HOY.out hroom hst.out (HO.out.below (below_drewN (Below.refl _ _) nq)) (below_drewN HB.out nq) hM hS)
          unfold D30 at hz1 hC hx1 hy1
          by_cases hk : k < ys.length
          · obtain ⟨gy, rfl, hcy⟩ := HY.out _ HB.out k hk
            have hmul : (x1 : Int) * ((ys.getD k 0 : Nat) : Int) = (M : Int) := by rw [hM]; simp
            clear hM hst HO HB hgo
            generalize ys.getD k 0 = y1 at *
            generalize os.getD (i + k) 0 = z at *
            have hand := and30 S (by omega)
            have hcS : (S : Int) = (C : Int) + (z : Int) + (M : Int) := by omega
            rw [hcS] at hand
            have hdiv : ((C : Int) + (z : Int) + (M : Int)) / 1073741824 = ((S / D30 : Nat) : Int) := by rw [← hcS]; simp [D30]
            unfold D30 at HN hdiv
            generalize S % 1073741824 = d at *
            generalize S / 1073741824 = q at *
            clear hS
            go_wp2
            go_quiet (fail)
            go_wp2
            go_roundw
            case rel => exact HN.out _
            case measure => simp [intOf]; omega
          · have hy0 : ys.getD k 0 = 0 := getD_none (by omega)
            rw [hy0, Nat.mul_zero] at hM
            subst hM
            have hC0 : 0 < C := by omega
            clear hy0 hst HO HB hgo hy1
            generalize os.getD (i + k) 0 = z at *
            have hand := and30 S (by omega)
            have hcS : (S : Int) = (C : Int) + (z : Int) := by omega
            rw [hcS] at hand
            have hdiv : ((C : Int) + (z : Int)) / 1073741824 = ((S / D30 : Nat) : Int) := by rw [← hcS]; simp [D30]
            unfold D30 at HN hdiv
            generalize S % 1073741824 = d at *
            generalize S / 1073741824 = q at *
            clear hS
            go_wp2
            go_roundw
            case rel => exact HN.out 0
            case measure => simp [intOf]; omega
        · have hk : ¬ k < ys.length := by omega
          obtain rfl : C = 0 := by omega
          have HN := Lib.hid (MulRel.next hlt HXE.out HV0.out (by omega) hst.out HO.out HB.out)
          clear hgo hst HO HB
          go_wp2
          go_roundw
          case rel => exact HN.out
          case measure => simp [intOf]; omega
    · obtain rfl : i = xs.length := by omega
      have hlen := Lib.hid hst.out.1
      have Hok := Lib.hid hst.out.2.1
      have HV : Hid (val os = x * y) := Lib.hid (by rw [hst.out.2.2, List.take_of_length_le (Nat.le_refl _), HVX.out, HVY.out])
      have hcap := Dig.cap HO.out
      have HOL1 : os.length ≤ xs.length + ys.length := by rw [hlen.out]; exact Nat.le_refl _
      have HOL2 : xs.length + ys.length ≤ os.length := by rw [hlen.out]; exact Nat.le_refl _
      clear hst HX HY
      go_wp2
      go_loop [5] (fun ov => TrimRel (some ⟨w.heap.size, 0, none⟩) (xs.length + ys.length) os ov) (fun ov => sLen ov)
      case atStart => exact ⟨os.length, Nat.le_refl _, by first | rfl | rw [hlen.out], Lib.hid (by rw [List.take_of_length_le (Nat.le_refl _)])⟩
      case round =>
        obtain ⟨n, hn, rfl, hv⟩ := hrel
        by_cases hpos : 0 < n
        · obtain ⟨m, rfl⟩ : ∃ m, n = m + 1 := ⟨n - 1, by omega⟩
          obtain ⟨g, hg0, _, _, hcell⟩ := Dig.cell HO.out (show m < os.length by omega)
          first | subst hg0 | (injection hg0 with hg0; injection hg0 with hg0 _ _; subst hg0)
          have hmc : ((m : Int) ≤ (((xs.length + ys.length) : Nat) : Int)) := by have := hcap; omega
          by_cases hz : os.getD m 0 = 0
          · have HN := Lib.hid (trim_step hn hv.out hz)
            rw [hz] at hcell
            clear hz
            go_wp2
            go_round
            case rel => exact ⟨m, by omega, by first | rfl | simp, HN⟩
            case measure => simp [sLen]
          · have HR := Lib.hid (trim_end HO.out Hok.out hn hv.out (.inr (by simpa using hz)) HB.out)
            have hzb : (((os.getD m 0 : Nat) : Int) == 0) = false := by simp only [beq_eq_false_iff_ne]; omega
            clear hz
            generalize os.getD m 0 = y at *
            go_wp2
            go_ret
            rw [← HV.out]
            exact HR.out
        · obtain rfl : n = 0 := by omega
          have HR := Lib.hid (trim_end HO.out Hok.out hn hv.out (.inl rfl) HB.out)
          go_wp2
          go_ret
          rw [← HV.out]
          exact HR.out
end Go.Proofs.Ytionognmgcabbaa.Big
/- Whole lists are appended to own ones, of any element. -/
namespace Go.Proofs.Ytionognmgcabbaa.AppG
open Go.RowKit Go.Proofs.Ytionognmgcabbaa Go.Proofs.Ytionognmgcabbaa.Base Go.Proofs.Ytionognmgcabbaa.Mem
set_option linter.unusedVariables false
theorem run_append_none_gen (w : World) (base : Nat) (v : Value) (n : Nat) (xs : List Value) (ts e : TypeId) (size : Nat) (i0 : TypeInfo) (ht : Try.prog.underlying ts = some (.slice e)) (hi : Try.prog.info? e = some i0) (hown : w.ownsRow base e size v n xs) (ty : TypeId) (c : Nat) :
    (Builtin.append_ #[ts, ts] ty #[v, .slice none 0 c]).run Try.prog w = .ok v w := by
  rcases hown.2 with ⟨rfl, rfl⟩ | ⟨g, cap, cur, rfl, hbg, hg, hnc, hcm, hcs, htake⟩
  · simp [Builtin.append_, run_underlying ht, sizeOf, typeInfo, hi, Builtin.lenOf, Builtin.firstCells]
  · have := run_append_room_src (P := Try.prog) w ts ts ty e i0 ht hi g 0 n cap (.slice none 0 c) 0 [] (Src.ofNil w ht c) (by omega) (fun j hj => absurd hj (Nat.not_lt_zero j)) (fun j hj => absurd hj (Nat.not_lt_zero j))
    simpa [World.setCells] using this
/-- what lies behind A: these cells (nothing, if there are none) -/
def Behind (w : World) (A : Option Addr) (news : List Value) : Prop := (news = [] ∧ A = none) ∨ ∃ ad, A = some ad ∧ ∀ j u, news[j]? = some u → w.cell? (ad.add j) = some u
theorem add_off (b off j : Nat) : (⟨b, off, none⟩ : Addr).add j = ⟨b, off + j, none⟩ := by
  unfold Addr.add; split <;> simp_all
theorem wpList_append_gen {ops : Array Oper} {rest : List Oper} {o : Oper} {a : Act} {w : World} {Q : Exit → Act → World → Prop} (hgd : o.guard = none) (s x : Operand) (ts e : TypeId)
    (ho : o.op = .call { callee := .builtin .append, args := #[s, x], argTypes := #[ts, ts] })
    (base : Nat) (i0 : TypeInfo) (z : Value) (size bytes : Nat) (ht : Try.prog.underlying ts = some (.slice e)) (hi : Try.prog.info? e = some i0) (hz : i0.zero = some z) (hsize : i0.size = size) (hby : i0.bytes = bytes) (hzs : z.cells.size = size) (hsz : 0 < size)
    (v : Value) (n : Nat) (xs : List Value) (hs : a.eval s = v) (hown : w.ownsRow base e size v n xs)
    (A : Option Addr) (m c : Nat) (news : List Value) (hx : a.eval x = .slice A m c) (hm : news.length = m * size) (hb : Behind w A news) (h1 : ∀ u ∈ news, u.oneCell' = true) (h63 : n + m ≤ maxLen) (hbytes : (n + m) * bytes ≤ 140737488355328) (hbase : base ≤ w.heap.size)
    (h : ∀ v' w', w'.ownsRow base e size v' (n + m) (xs ++ news) → w.grownBy w' v.ownBlock → wpList Try.prog ops Q rest (a.put o.dst v') w') :
    wpList Try.prog ops Q (o :: rest) a w := by
  rcases hb with ⟨rfl, rfl⟩ | ⟨ad, rfl, hnews⟩
  · obtain rfl : m = 0 := by
      rcases Nat.eq_zero_or_pos m with h | h
      · exact h
      · have := Nat.mul_pos h hsz
        simp at hm
        omega
    refine wpList_plain hgd fun K hK => ?_
    have hr := run_append_none_gen w base v n xs ts e size i0 ht hi hown o.type c
    unfold Oper.wp execOp
    simp only [ho, resolve, invoke, builtin, Sem.run_bind, Sem.run_pure, Result.andThen_ok, List.map_toArray, List.map_cons, List.map_nil, hs, hx, hr]
    refine hK _ _ (h v w (by simpa using hown) ⟨rfl, rfl, rfl, Nat.le_refl _, fun _ _ _ => rfl⟩)
  · exact wpList_append_own_at w hgd s x ts ho base e i0 z size bytes ht hi hz hsize hby hzs hsz v n xs hs hown ad m c news hx hm hnews h1 h63 hbytes hbase fun v' w' h1 h2 _ _ => h v' w' h1 h2
end Go.Proofs.Ytionognmgcabbaa.AppG

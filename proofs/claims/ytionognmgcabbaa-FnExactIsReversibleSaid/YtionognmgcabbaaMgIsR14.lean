/- The reference's naturals: long division, bit by bit. -/
import Derived.Test.YtionognmgcabbaaMgIsR13
import Derived.Test.YtionognmgcabbaaMgIsR12
import Derived.Test.YtionognmgcabbaaMgIsR08
import Derived.Deep.Cut
namespace Go.Proofs.Ytionognmgcabbaa.Big
open Go.RowKit Go.Proofs.Ytionognmgcabbaa Go.Proofs.Ytionognmgcabbaa.Base Go.Proofs.Ytionognmgcabbaa.Mem Go.Proofs.Ytionognmgcabbaa.BigM Go.Proofs.Ytionognmgcabbaa.AppG
set_option linter.unusedVariables false
theorem IsB.behind {w : World} {x n c : Nat} {A : Option Addr} (h : IsB w x (.slice A n c)) {k : Nat} (hk : k ≤ (bigL x).length) (hA : A = none ∨ ∃ g, A = some ⟨g, 0, none⟩) (w' : World) (hb : Below w.heap.size w w') :
    Behind w' (A.map fun a => (⟨a.block, a.off + k, none⟩ : Addr)) (ints (zs ((bigL x).drop k))) := by
  rcases hA with rfl | ⟨g, rfl⟩
  · rcases Nat.eq_zero_or_pos (bigL x).length with h0 | h0
    · exact .inl ⟨by rw [List.length_eq_zero_iff.1 h0, List.drop_nil]; rfl, rfl⟩
    · obtain ⟨_, e, _⟩ := IsB.cell h h0
      cases e
  · refine .inr ⟨_, rfl, fun j u hj => ?_⟩
    have hl : j < ((bigL x).drop k).length := by
      have := (List.getElem?_eq_some_iff.1 hj).1
      rwa [ints_len, zs_len] at this
    rw [List.length_drop] at hl
    obtain ⟨g', e, hc⟩ := IsB.cell (h.below hb) (show k + j < (bigL x).length by omega)
    injection e with e
    injection e with e1 _ _
    subst e1
    rw [add_off, Nat.zero_add, hc]
    rw [ints_get _ j (by rw [zs_len, List.length_drop]; omega), zs_get] at hj
    have : ((bigL x).drop k).getD j 0 = (bigL x).getD (k + j) 0 := by simp only [List.getD_eq_getElem?_getD, List.getElem?_drop]
    rw [this] at hj
    exact hj
theorem cmpN_ge {x y : Nat} (h : y ≤ x) : 0 ≤ cmpN x y := by
  unfold cmpN
  rw [if_neg (by omega)]
  split <;> decide
theorem IsB.behind_end {w : World} {x k : Nat} (hk : (bigL x).length ≤ k) (ad : Addr) : Behind w (some ad) (ints (zs ((bigL x).drop k))) := by
  rw [List.drop_of_length_le hk]
  exact .inr ⟨ad, rfl, fun j u hj => by simp [zs, ints] at hj⟩
def TwoRet (x y : Nat) (w : World) (e : Ending) (w' : World) : Prop := ∃ v u, e = .returned (.tuple #[v, u]) ∧ IsB w' x v ∧ IsB w' y u ∧ Below w.heap.size w w'
theorem Dig.lit0 (w : World) : Dig (w.alloc (.cells #[] 2)) w.heap.size (.slice (some ⟨w.heap.size, 0, none⟩) 0 0) [] := World.ownsRow_made w #[] 0 (Nat.le_refl _) (Nat.zero_le _) (by simp)
theorem Dig.isB {w : World} {B x : Nat} {v : Value} {xs : List Nat} (h : Dig w B v xs) (e : xs = bigL x) : IsB w x v := by subst e; exact h.base (Nat.zero_le _)
/-- the state of a division -/
def SplitSt (x y n q r : Nat) : Prop := q = x / 2 ^ n / y ∧ r = x / 2 ^ n % y
def SplitRel (x y : Nat) (w : World) (iv qv rv : Value) (wr : World) : Prop :=
  ∃ n q r : Nat, iv = .int .i64 ((n : Int) - 1) ∧ n ≤ 30 * (bigL x).length + 30 ∧ n ≤ 30 * (bigL x).length ∧ Hid (SplitSt x y n q r) ∧ Hid (IsB wr q qv) ∧ Hid (IsB wr r rv) ∧ Hid (Below w.heap.size w wr)
theorem split_start {x y left : Nat} (hy : 0 < y) (hl : (bigL x).length + 1 = left + (bigL y).length) : SplitSt x y (30 * left) 0 (x / D30 ^ left) ∧ bigL (x / D30 ^ left) = (bigL x).drop left := by
  have e1 : x / 2 ^ (30 * left) = x / D30 ^ left := by rw [show D30 = 2 ^ 30 by decide, ← Nat.pow_mul]
  have hlt : x / D30 ^ left < y := by
    have h1 := big_lt_pow x
    have h2 := len_pos hy
    have h3 : x / D30 ^ left < D30 ^ ((bigL y).length - 1) := by
      rw [Nat.div_lt_iff_lt_mul (Nat.pow_pos (by decide)), ← Nat.pow_add]
      rw [show (bigL y).length - 1 + left = (bigL x).length by omega]
      exact h1
    refine Nat.lt_of_lt_of_le h3 ?_
    refine Nat.le_of_not_lt fun h4 => ?_
    have := bigL_len_le h4
    omega
  refine ⟨⟨?_, ?_⟩, (drop_big x left).symm⟩
  · rw [e1, Nat.div_eq_of_lt hlt]
  · rw [e1, Nat.mod_eq_of_lt hlt]
theorem Dig.addr {w : World} {B n c : Nat} {A : Option Addr} {xs : List Nat} (h : Dig w B (.slice A n c) xs) : A = none ∨ ∃ g, A = some ⟨g, 0, none⟩ := by
  rcases h.2 with ⟨e, _⟩ | ⟨g, cap, cur, e, _⟩
  · injection e with e1 _ _; exact .inl e1
  · injection e with e1 _ _; exact .inr ⟨g, e1⟩
theorem drop_len (x k : Nat) : (ints (zs ((bigL x).drop k))).length = ((bigL x).length - k) * 1 := by rw [ints_len, zs_len, List.length_drop, Nat.mul_one]
set_option maxHeartbeats 4000000 in
set_option maxRecDepth 100000 in
theorem split_small {x y : Nat} {u v : Value} (w : World) (hx : IsB w x u) (hy : IsB w y v) (hlt : (bigL x).length < (bigL y).length) (hl : (bigL x).length ≤ 900000) : Calls Try.prog 63 #[u, v] w (TwoRet (x / y) (x % y) w) := by
  obtain ⟨i0, hi, hz0, hz1, hz2⟩ := info_parts infoI
  have hxy : x < y := bigL_len_lt hlt
  rw [Nat.div_eq_of_lt hxy, Nat.mod_eq_of_lt hxy]
  obtain ⟨A, c, rfl, _⟩ := Dig.form hx
  obtain ⟨A', c', rfl, _⟩ := Dig.form hy
  have hA0 : A = none ∨ ∃ g, A = some ⟨g, 0, none⟩ := Dig.addr hx
  have hW2 : Below w.heap.size w ((w.alloc (.cells #[] 2)).alloc (.cells #[] 2)) := ((Below.refl _ _).alloc (Nat.le_refl _) _).alloc (by simp) _
  have HBh : Hid (Behind ((w.alloc (.cells #[] 2)).alloc (.cells #[] 2)) A (ints (zs (bigL x)))) := Lib.hid (by
    have := IsB.behind hx (k := 0) (Nat.zero_le _) hA0 _ hW2
    rw [List.drop_zero] at this
    rcases hA0 with rfl | ⟨g, rfl⟩
    · exact this
    · exact this)
  have HW : Hid (((w.alloc (.cells #[] 2)).alloc (.cells #[] 2)).ownsRow (w.heap.size + 1) 2 1 (.slice (some ⟨w.heap.size + 1, 0, none⟩) 0 0) 0 []) := Lib.hid (by
    have := Dig.lit0 (w.alloc (.cells #[] 2))
    simpa [Dig, zs, ints] using this)
  have HF : Hid (∀ v' w3, w3.ownsRow (w.heap.size + 1) 2 1 v' (bigL x).length (ints (zs (bigL x))) → ((w.alloc (.cells #[] 2)).alloc (.cells #[] 2)).grownBy w3 (Value.slice (some ⟨w.heap.size + 1, 0, none⟩) 0 0).ownBlock → TwoRet 0 x w (.returned (.tuple #[.slice (some ⟨w.heap.size, 0, none⟩) 0 0, v'])) w3) := Lib.hid fun v' w3 ho hg => by
    have h0 : Dig ((w.alloc (.cells #[] 2)).alloc (.cells #[] 2)) w.heap.size (.slice (some ⟨w.heap.size, 0, none⟩) 0 0) [] := World.ownsRow.alloc (Dig.lit0 w) _
    have h1 : Dig w3 w.heap.size (.slice (some ⟨w.heap.size, 0, none⟩) 0 0) [] := World.ownsRow.kept h0 hg (.inr (by simp [Value.ownBlock]))
    refine ⟨_, _, rfl, h1.isB bigL_zero.symm, Dig.isB (B := w.heap.size + 1) ho rfl, ?_⟩
    exact hW2.trans (grown_below hg (fun g e => by simp [Value.ownBlock] at e; omega) (by simp; omega))
  clear hx hy hxy hA0 hW2
  go_enter Try.func63, Try.ntmps63
  go_wp2_with (at_builtin; refine wpList_append_gen rfl (.tmp 18) (.tmp 19) 55 2 rfl (w.heap.size + 1) i0 (.int .i64 0) 1 8 Try.underlying55 hi hz0 hz1 hz2 rfl (by decide) _ _ _ rfl HW.out A (bigL x).length c (ints (zs (bigL x))) rfl ?p1 HBh.out ?p3 ?p4 ?p5 ?p6 ?_)
  try case p1 => rw [ints_len, zs_len, Nat.mul_one]
  try case p3 => exact ints_one _
  try case p4 => first | (simp only [maxLen]; omega) | omega
  try case p5 => omega
  try case p6 => first | (simp only [World.size_alloc]; omega) | omega
  intro v' w3 hown' hg'
  have HF2 := Lib.hid (HF.out v' w3 hown' hg')
  clear hown' hg'
  go_wp2
  go_ret2
  exact HF2.out
theorem SplitSt.next {x y n m q r b : Nat} (hy : 0 < y) (h : SplitSt x y n q r) (hn : n = m + 1) (hb : b = x / 2 ^ m % 2) : (y ≤ 2 * r + b → SplitSt x y m (2 * q + 1) (2 * r + b - y)) ∧ (2 * r + b < y → SplitSt x y m (2 * q) (2 * r + b)) := by
  subst hn
  obtain ⟨h1, h2⟩ := h
  have h3 := shr_step x m
  have h4 := Nat.div_add_mod (x / 2 ^ (m + 1)) y
  rw [← h1, ← h2] at h4
  have h5 : r < y := by rw [h2]; exact Nat.mod_lt _ hy
  have h6 : b ≤ 1 := by omega
  obtain ⟨k1, k2⟩ := split_step (q := q) (r := r) (y := y) (h := x / 2 ^ (m + 1)) (b := b) (by rw [Nat.mul_comm q y]; omega) h5 h6
  rw [← hb] at h3
  constructor
  · intro hle
    obtain ⟨g1, g2⟩ := k1 hle
    have := div_of (x := x / 2 ^ m) (q := 2 * q + 1) (y := y) (r := 2 * r + b - y) (by rw [h3, g1]) g2
    exact ⟨this.1.symm, this.2.symm⟩
  · intro hlt
    have g1 := k2 hlt
    have := div_of (x := x / 2 ^ m) (q := 2 * q) (y := y) (r := 2 * r + b) (by rw [h3, g1]) hlt
    exact ⟨this.1.symm, this.2.symm⟩
theorem SplitSt.lens {x y n q r : Nat} (hy : 0 < y) (h : SplitSt x y n q r) : (bigL q).length ≤ (bigL x).length ∧ (bigL r).length ≤ (bigL y).length := by
  obtain ⟨h1, h2⟩ := h
  refine ⟨len_mono ?_, len_mono ?_⟩
  · rw [h1]; exact Nat.le_trans (Nat.div_le_self _ _) (Nat.div_le_self _ _)
  · rw [h2]; exact Nat.le_of_lt (Nat.mod_lt _ hy)
theorem len_two : (bigL 2).length = 1 := by rw [bigL_pos (by decide), show 2 / D30 = 0 from rfl, bigL_zero]; rfl
theorem len_one : (bigL 1).length = 1 := by rw [bigL_pos (by decide), show 1 / D30 = 0 from rfl, bigL_zero]; rfl
set_option maxHeartbeats 4000000 in
set_option maxRecDepth 100000 in
theorem split_big {x y : Nat} {u v : Value} (w : World) (hx : IsB w x u) (hy : IsB w y v) (hle : (bigL y).length ≤ (bigL x).length) (hl : (bigL x).length ≤ 900000) (hy0 : 0 < y) : Calls Try.prog 63 #[u, v] w (TwoRet (x / y) (x % y) w) := by
  obtain ⟨i0, hi, hz0, hz1, hz2⟩ := info_parts infoI
  have hyl := len_pos hy0
  obtain ⟨left, hleft⟩ : ∃ left, (bigL x).length + 1 = left + (bigL y).length := ⟨(bigL x).length + 1 - (bigL y).length, by omega⟩
  obtain ⟨hS0, hD0⟩ := split_start hy0 hleft
  obtain ⟨A, c, rfl, hAf⟩ := Dig.form hx
  have hA0 := Dig.addr hx
  have hcap := Dig.cap hx
  obtain ⟨g, rfl, _⟩ := hAf (by omega)
  obtain ⟨A', c', rfl, _⟩ := Dig.form hy
  have hW2 : Below w.heap.size w ((w.alloc (.cells #[] 2)).alloc (.cells #[] 2)) := ((Below.refl _ _).alloc (Nat.le_refl _) _).alloc (by simp) _
  have hBh := IsB.behind hx (k := left) (by omega) hA0 _ hW2
  have hdl := drop_len x left
  have HXY := Lib.hid (And.intro hx hy)
  have HBh := Lib.hid hBh
  have HDL := Lib.hid hdl
  have HS0 := Lib.hid hS0
  have HD0 := Lib.hid hD0
  have HL := Lib.hid hleft
  have hll : left ≤ (bigL x).length := by omega
  have hcast : ((bigL x).length : Int) - ((bigL y).length : Int) + 1 = (left : Int) := by omega
  clear hx hy hA0 hAf hW2 hBh hdl hS0 hD0 hleft
  have HV := Lib.hid hy0
  clear hy0
  go_enter Try.func63, Try.ntmps63
  have HW : Hid (((w.alloc (.cells #[] 2)).alloc (.cells #[] 2)).ownsRow (w.heap.size + 1) 2 1 (.slice (some ⟨w.heap.size + 1, 0, none⟩) 0 0) 0 []) := Lib.hid (by
    have := Dig.lit0 (w.alloc (.cells #[] 2))
    simpa [Dig, zs, ints] using this)
  have HF : Hid (∀ v' w3, w3.ownsRow (w.heap.size + 1) 2 1 v' ((bigL x).length - left) (ints (zs ((bigL x).drop left))) → ((w.alloc (.cells #[] 2)).alloc (.cells #[] 2)).grownBy w3 (Value.slice (some ⟨w.heap.size + 1, 0, none⟩) 0 0).ownBlock → IsB w3 0 (.slice (some ⟨w.heap.size, 0, none⟩) 0 0) ∧ IsB w3 (x / D30 ^ left) v' ∧ Below w.heap.size w w3) := Lib.hid fun v' w3 ho hg => by
    have h0 : Dig ((w.alloc (.cells #[] 2)).alloc (.cells #[] 2)) w.heap.size (.slice (some ⟨w.heap.size, 0, none⟩) 0 0) [] := World.ownsRow.alloc (Dig.lit0 w) _
    have h1 : Dig w3 w.heap.size (.slice (some ⟨w.heap.size, 0, none⟩) 0 0) [] := World.ownsRow.kept h0 hg (.inr (by simp [Value.ownBlock]))
    refine ⟨h1.isB bigL_zero.symm, Dig.isB (B := w.heap.size + 1) (xs := (bigL x).drop left) (by unfold Dig; rw [List.length_drop]; exact ho) HD0.out.symm, ?_⟩
    exact (((Below.refl _ _).alloc (Nat.le_refl _) _).alloc (by simp) _).trans (grown_below hg (fun g e => by simp [Value.ownBlock] at e; omega) (by simp; omega))
  by_cases hlc : left = c
  · have HBe := Lib.hid (IsB.behind_end (w := (w.alloc (.cells #[] 2)).alloc (.cells #[] 2)) (x := x) (k := left) (by omega) ⟨g, 0, none⟩)
    clear HBh
    have HBh := HBe
    clear HBe
    have hlc2 : ¬ (left : Int) < (c : Int) := by omega
    have HLC := Lib.hid hlc
    clear hlc
    go_wp2_with (at_builtin; refine wpList_append_gen rfl (.tmp 28) (.tmp 31) 55 2 rfl (w.heap.size + 1) i0 (.int .i64 0) 1 8 Try.underlying55 hi hz0 hz1 hz2 rfl (by decide) _ _ _ rfl HW.out (some (⟨g, 0, none⟩ : Addr)) ((bigL x).length - left) (c - left) (ints (zs ((bigL x).drop left))) rfl ?p1 ?p2 ?p3 ?p4 ?p5 ?p6 ?_)
    try case p1 => first | exact HDL.out | rw [HDL.out, Nat.mul_one]
    try case p2 => exact (by simpa using HBh.out)
    try case p3 => exact ints_one _
    try case p4 => first | (simp only [maxLen]; omega) | omega
    try case p5 => omega
    try case p6 => first | (simp only [World.size_alloc]; omega) | omega
    intro v' w3 hown' hg'
    have HF2 := Lib.hid (HF.out v' w3 (by simpa using hown') (by simpa using hg'))
    clear hown' hg'
    go_wp2_with fail
    refine (bigOf_any 2 (by decide) w3).mono ?_
    rintro e w4 ⟨v2, rfl, h2, hb4⟩
    have HB4 := Lib.hid hb4
    have H2 := Lib.hid h2
    clear h2 hb4
    go_wp2_with fail
    refine (bigOf_any 1 (by decide) w4).mono ?_
    rintro e w5 ⟨v1, rfl, h1, hb5⟩
    have hcast2 : wrap64 ((left : Int) * 30) = (left : Int) * 30 := by simp only [wrap64]; omega
    have HA : Hid (IsB w5 x (.slice (some ⟨g, 0, none⟩) (bigL x).length c) ∧ IsB w5 y (.slice A' (bigL y).length c') ∧ IsB w5 2 v2 ∧ IsB w5 1 v1 ∧ Below w.heap.size w w5) := Lib.hid (by
      have b1 := Base.Below.nextA HF2.out.2.2 HB4.out
      have b2 := Base.Below.nextA b1 hb5
      exact ⟨HXY.out.1.below b2, HXY.out.2.below b2, H2.out.below hb5, h1, b2⟩)
    have H0 : Hid (SplitRel x y w5 (.int .i64 ((left : Int) * 30 - 1)) (.slice (some ⟨w.heap.size, 0, none⟩) 0 0) v' w5) := Lib.hid
      ⟨30 * left, 0, x / D30 ^ left, by simp; omega, by omega, by omega, HS0, Lib.hid (IsB.below (HF2.out.1.below HB4.out) hb5), Lib.hid (IsB.below (HF2.out.2.1.below HB4.out) hb5), Lib.hid (Below.refl _ _)⟩
    clear HF2 H2 HB4 h1 hb5 HS0 HD0 HDL HBh HXY HW HF
    go_wp2
    go_loopw [11, 6, 8] (fun iv qv rv wr => SplitRel x y w5 iv qv rv wr) (fun iv _ _ _ => (intOf iv + 1).toNat)
    case atStart => exact H0.out
    case round =>
      obtain ⟨n, q, r, rfl, hn1, hn2, hst, HQ, HR, HB⟩ := hrel
      clear H0
      by_cases hpos : 0 < n
      · obtain ⟨m, rfl⟩ : ∃ m, n = m + 1 := ⟨n - 1, by omega⟩
        have e1 : (((m + 1 : Nat) : Int) - 1) = (m : Int) := by omega
        rw [e1]
        clear e1
        obtain ⟨hq1, hr1⟩ := SplitSt.lens HV.out hst.out
        have HQL : Hid ((bigL q).length ≤ 900000) := Lib.hid (by omega)
        have HRL : Hid ((bigL r).length ≤ 900000) := Lib.hid (by omega)
        clear hq1 hr1
        go_wp2_with fail
        refine (bigTimes_any wr HQ.out (HA.out.2.2.1.below HB.out) (Nat.le_trans HQL.out (by decide)) (by rw [len_two]; decide)).mono ?_
        rintro e wa ⟨qa, rfl, hqa, hba⟩
        have HQA := Lib.hid hqa
        have HBA := Lib.hid hba
        clear hqa hba
        go_wp2_with fail
        refine (bigTimes_any wa (HR.out.below HBA.out) ((HA.out.2.2.1.below HB.out).below HBA.out) (Nat.le_trans HRL.out (by decide)) (by rw [len_two]; decide)).mono ?_
        rintro e wb ⟨ra, rfl, hra, hbb⟩
        have HRA := Lib.hid hra
        have HBB := Lib.hid (Base.Below.nextA HBA.out hbb)
        have HQB := Lib.hid (HQA.out.below hbb)
        clear hra hbb
        clear HQ HR HQA HBA
        obtain ⟨gx, hgx, hcx⟩ := IsB.cell ((HA.out.1.below HB.out).below HBB.out) (show m / 30 < (bigL x).length by omega)
        injection hgx with hgx
        injection hgx with hgx _ _
        subst hgx
        have HDB := Lib.hid (digit_bit x m)
        have hd1 := okN_at (bigL_ok x) (m / 30)
        unfold D30 at hd1
        generalize (bigL x).getD (m / 30) 0 = dg at *
        have hrl : m % 30 < 30 := Nat.mod_lt _ (by decide)
        have hval : bits .and .i64 ((dg : Int) / 2 ^ (m % 30)) 1 = ((x / 2 ^ m % 2 : Nat) : Int) := by
          have h := Bits.and1 (dg / 2 ^ (m % 30)) (Nat.lt_of_le_of_lt (Nat.div_le_self _ _) (by omega))
          rw [HDB.out] at h
          have e : ((dg / 2 ^ (m % 30) : Nat) : Int) = (dg : Int) / 2 ^ (m % 30) := by simp
          rw [e] at h
          exact h
        have HSN := Lib.hid (fun b hb => SplitSt.next (b := b) HV.out hst.out rfl hb)
        obtain ⟨b, hb⟩ : ∃ b, b = x / 2 ^ m % 2 := ⟨_, rfl⟩
        have hb1 : b ≤ 1 := by omega
        rw [← hb] at hval
        replace HSN := Lib.hid (HSN.out b hb)
        clear hb HDB hst
        have hlr : (bigL (r * 2)).length ≤ 900001 := Nat.le_trans (len_mul r 2) (by have := HRL.out; have := len_two; omega)
        have HLR := Lib.hid hlr
        have HLQ : Hid ((bigL (q * 2)).length ≤ 900001) := Lib.hid (Nat.le_trans (len_mul q 2) (by have := HQL.out; have := len_two; omega))
        have HNX : Hid (∀ q2 r2 iv qv rv wn, q2 = q * 2 + (if y ≤ 2 * r + b then 1 else 0) → r2 = (if y ≤ 2 * r + b then 2 * r + b - y else 2 * r + b) → iv = .int .i64 ((m : Int) - 1) → IsB wn q2 qv → IsB wn r2 rv → Below w5.heap.size w5 wn → SplitRel x y w5 iv qv rv wn) := Lib.hid fun q2 r2 iv qv rv wn e1 e2 e3 e4 e5 e6 => by
          refine ⟨m, q2, r2, e3, by omega, by omega, Lib.hid ?_, Lib.hid e4, Lib.hid e5, Lib.hid e6⟩
          by_cases h : y ≤ 2 * r + b
          · rw [if_pos h] at e1 e2
            have := HSN.out.1 h
            rw [e1, e2, Nat.mul_comm q 2]; exact this
          · rw [if_neg h] at e1 e2
            have := HSN.out.2 (by omega)
            rw [e1, e2, Nat.mul_comm q 2, Nat.add_zero]; exact this
        clear HSN hlr HQL HRL
        have HBW := Lib.hid (HB.out.trans (HBB.out.mono HB.out.size))
        have HYB := Lib.hid (HA.out.2.1.below HBW.out)
        have H1B := Lib.hid (HA.out.2.2.2.1.below HBW.out)
        clear HB HBB
        have hb01 : b = 1 ∨ b = 0 := by omega
        rcases hb01 with rfl | rfl
        · have hbit : (bits .and .i64 ((dg : Int) / 2 ^ (m % 30)) 1 == 1) = true := by rw [hval]; rfl
          clear hval
          go_wp2_with fail
          refine (bigPlus_any wb HRA.out H1B.out (Nat.le_trans HLR.out (by decide)) (by rw [len_one]; decide)).mono ?_
          rintro e wc ⟨rb, rfl, hrb, hbc⟩
          have HRB := Lib.hid hrb
          have HBC := Lib.hid hbc
          clear hrb hbc
          have hlrb : (bigL (r * 2 + 1)).length ≤ 900003 := Nat.le_trans (len_add _ 1) (by have := HLR.out; have := len_one; omega)
          have hlrc := Lib.hid hlrb
          clear hlrb
          by_cases hc : y ≤ (r * 2 + 1)
          · have hcmp : 0 ≤ cmpN (r * 2 + 1) y := cmpN_ge hc
            go_wp2_with fail
            refine (bigCmp_any wc HRB.out (HYB.out.below HBC.out) (Nat.le_trans hlrc.out (by decide)) (by omega)).mono ?_
            rintro e wd ⟨rfl, hD⟩
            have HD := Lib.hid hD
            clear hD
            generalize cmpN (r * 2 + 1) y = cm at *
            go_wp2_with fail
            refine (bigMinus_any wd (IsB.below HRB.out HD.out.below) (IsB.below (HYB.out.below HBC.out) HD.out.below) (Nat.le_trans hlrc.out (by decide)) hc).mono ?_
            rintro e we ⟨rc, rfl, hrc, hbe⟩
            have HRC := Lib.hid hrc
            have HBE := Lib.hid hbe
            clear hrc hbe
            go_wp2_with fail
            refine (bigPlus_any we (IsB.below (IsB.below (HQB.out.below HBC.out) HD.out.below) HBE.out) (IsB.below (IsB.below (H1B.out.below HBC.out) HD.out.below) HBE.out) (Nat.le_trans HLQ.out (by decide)) (by rw [len_one]; decide)).mono ?_
            rintro e wf ⟨qc, rfl, hqc, hbf⟩
            have HN := Lib.hid (HNX.out (q * 2 + 1) ((r * 2 + 1) - y) (.int .i64 ((m : Int) - 1)) qc rc wf (by rw [if_pos (by omega)]) (by rw [if_pos (by omega)]; omega) rfl hqc (HRC.out.below hbf) (Base.Below.nextA (Base.Below.nextA (Base.Below.nextA (HBW.out.trans (HBC.out.mono HBW.out.size)) HD.out.below) HBE.out) hbf))
            clear hqc hbf
            go_wp2
            go_roundw
            case rel => exact HN.out
            case measure => simp [intOf]
          · have hcm1 := cmpN_lt (show (r * 2 + 1) < y by omega)
            go_wp2_with fail
            refine (bigCmp_any wc HRB.out (HYB.out.below HBC.out) (Nat.le_trans hlrc.out (by decide)) (by omega)).mono ?_
            rintro e wd ⟨rfl, hD⟩
            have HD := Lib.hid hD
            clear hD
            have HN := Lib.hid (HNX.out (q * 2) (r * 2 + 1) (.int .i64 ((m : Int) - 1)) qa rb wd (by rw [if_neg (by omega), Nat.add_zero]) (by rw [if_neg (by omega)]; omega) rfl (IsB.below (HQB.out.below HBC.out) HD.out.below) (IsB.below HRB.out HD.out.below) (Base.Below.nextA (HBW.out.trans (HBC.out.mono HBW.out.size)) HD.out.below))
            generalize cmpN (r * 2 + 1) y = cm at *
            subst hcm1
            go_wp2
            go_roundw
            case rel => exact HN.out
            case measure => simp [intOf]
        · have hbit : (bits .and .i64 ((dg : Int) / 2 ^ (m % 30)) 1 == 1) = false := by rw [hval]; rfl
          clear hval
          have hlrb : (bigL (r * 2)).length ≤ 900003 := by have := HLR.out; omega
          have hlrc := Lib.hid hlrb
          clear hlrb
          by_cases hc : y ≤ (r * 2)
          · have hcmp : 0 ≤ cmpN (r * 2) y := cmpN_ge hc
            go_wp2_with fail
            refine (bigCmp_any wb HRA.out HYB.out (Nat.le_trans hlrc.out (by decide)) (by omega)).mono ?_
            rintro e wd ⟨rfl, hD⟩
            have HD := Lib.hid hD
            clear hD
            generalize cmpN (r * 2) y = cm at *
            go_wp2_with fail
            refine (bigMinus_any wd (IsB.below HRA.out HD.out.below) (IsB.below HYB.out HD.out.below) (Nat.le_trans hlrc.out (by decide)) hc).mono ?_
            rintro e we ⟨rc, rfl, hrc, hbe⟩
            have HRC := Lib.hid hrc
            have HBE := Lib.hid hbe
            clear hrc hbe
            go_wp2_with fail
            refine (bigPlus_any we (IsB.below (IsB.below HQB.out HD.out.below) HBE.out) (IsB.below (IsB.below H1B.out HD.out.below) HBE.out) (Nat.le_trans HLQ.out (by decide)) (by rw [len_one]; decide)).mono ?_
            rintro e wf ⟨qc, rfl, hqc, hbf⟩
            have HN := Lib.hid (HNX.out (q * 2 + 1) ((r * 2) - y) (.int .i64 ((m : Int) - 1)) qc rc wf (by rw [if_pos (by omega)]) (by rw [if_pos (by omega)]; omega) rfl hqc (HRC.out.below hbf) (Base.Below.nextA (Base.Below.nextA (Base.Below.nextA HBW.out HD.out.below) HBE.out) hbf))
            clear hqc hbf
            go_wp2
            go_roundw
            case rel => exact HN.out
            case measure => simp [intOf]
          · have hcm1 := cmpN_lt (show (r * 2) < y by omega)
            go_wp2_with fail
            refine (bigCmp_any wb HRA.out HYB.out (Nat.le_trans hlrc.out (by decide)) (by omega)).mono ?_
            rintro e wd ⟨rfl, hD⟩
            have HD := Lib.hid hD
            clear hD
            have HN := Lib.hid (HNX.out (q * 2) (r * 2) (.int .i64 ((m : Int) - 1)) qa ra wd (by rw [if_neg (by omega), Nat.add_zero]) (by rw [if_neg (by omega)]; omega) rfl (IsB.below HQB.out HD.out.below) (IsB.below HRA.out HD.out.below) (Base.Below.nextA HBW.out HD.out.below))
            generalize cmpN (r * 2) y = cm at *
            subst hcm1
            go_wp2
            go_roundw
            case rel => exact HN.out
            case measure => simp [intOf]
      · obtain rfl : n = 0 := by omega
        have hq0 : q = x / y := by have := hst.out.1; rwa [Nat.pow_zero, Nat.div_one] at this
        have hr0 : r = x % y := by have := hst.out.2; rwa [Nat.pow_zero, Nat.div_one] at this
        have HQ2 := HQ.out
        have HR2 := HR.out
        rw [hq0] at HQ2
        rw [hr0] at HR2
        have HF := Lib.hid (And.intro HQ2 (And.intro HR2 (Base.Below.nextA HA.out.2.2.2.2 HB.out)))
        clear HQ HR HB hst hq0 hr0 HQ2 HR2
        go_wp2
        go_ret2
        exact ⟨_, _, rfl, HF.out.1, HF.out.2.1, HF.out.2.2⟩
  have hlc2 : (left : Int) < (c : Int) := by omega
  go_wp2_with (at_builtin; refine wpList_append_gen rfl (.tmp 28) (.tmp 31) 55 2 rfl (w.heap.size + 1) i0 (.int .i64 0) 1 8 Try.underlying55 hi hz0 hz1 hz2 rfl (by decide) _ _ _ rfl HW.out (some (⟨g, left, none⟩ : Addr)) ((bigL x).length - left) (c - left) (ints (zs ((bigL x).drop left))) rfl ?p1 ?p2 ?p3 ?p4 ?p5 ?p6 ?_)
  try case p1 => first | exact HDL.out | rw [HDL.out, Nat.mul_one]
  try case p2 => exact (by simpa using HBh.out)
  try case p3 => exact ints_one _
  try case p4 => first | (simp only [maxLen]; omega) | omega
  try case p5 => omega
  try case p6 => first | (simp only [World.size_alloc]; omega) | omega
  intro v' w3 hown' hg'
  have HF2 := Lib.hid (HF.out v' w3 (by simpa using hown') (by simpa using hg'))
  clear hown' hg'
  go_wp2_with fail
  refine (bigOf_any 2 (by decide) w3).mono ?_
  rintro e w4 ⟨v2, rfl, h2, hb4⟩
  have HB4 := Lib.hid hb4
  have H2 := Lib.hid h2
  clear h2 hb4
  go_wp2_with fail
  refine (bigOf_any 1 (by decide) w4).mono ?_
  rintro e w5 ⟨v1, rfl, h1, hb5⟩
  have hcast2 : wrap64 ((left : Int) * 30) = (left : Int) * 30 := by simp only [wrap64]; omega
  have HA : Hid (IsB w5 x (.slice (some ⟨g, 0, none⟩) (bigL x).length c) ∧ IsB w5 y (.slice A' (bigL y).length c') ∧ IsB w5 2 v2 ∧ IsB w5 1 v1 ∧ Below w.heap.size w w5) := Lib.hid (by
    have b1 := Base.Below.nextA HF2.out.2.2 HB4.out
    have b2 := Base.Below.nextA b1 hb5
    exact ⟨HXY.out.1.below b2, HXY.out.2.below b2, H2.out.below hb5, h1, b2⟩)
  have H0 : Hid (SplitRel x y w5 (.int .i64 ((left : Int) * 30 - 1)) (.slice (some ⟨w.heap.size, 0, none⟩) 0 0) v' w5) := Lib.hid
    ⟨30 * left, 0, x / D30 ^ left, by simp; omega, by omega, by omega, HS0, Lib.hid (IsB.below (HF2.out.1.below HB4.out) hb5), Lib.hid (IsB.below (HF2.out.2.1.below HB4.out) hb5), Lib.hid (Below.refl _ _)⟩
  clear HF2 H2 HB4 h1 hb5 HS0 HD0 HDL HBh HXY HW HF
  go_wp2
  go_loopw [11, 6, 8] (fun iv qv rv wr => SplitRel x y w5 iv qv rv wr) (fun iv _ _ _ => (intOf iv + 1).toNat)
  case atStart => exact H0.out
  case round =>
    obtain ⟨n, q, r, rfl, hn1, hn2, hst, HQ, HR, HB⟩ := hrel
    clear H0
    by_cases hpos : 0 < n
    · obtain ⟨m, rfl⟩ : ∃ m, n = m + 1 := ⟨n - 1, by omega⟩
      have e1 : (((m + 1 : Nat) : Int) - 1) = (m : Int) := by omega
      rw [e1]
      clear e1
      obtain ⟨hq1, hr1⟩ := SplitSt.lens HV.out hst.out
      have HQL : Hid ((bigL q).length ≤ 900000) := Lib.hid (by omega)
      have HRL : Hid ((bigL r).length ≤ 900000) := Lib.hid (by omega)
      clear hq1 hr1
      go_wp2_with fail
      refine (bigTimes_any wr HQ.out (HA.out.2.2.1.below HB.out) (Nat.le_trans HQL.out (by decide)) (by rw [len_two]; decide)).mono ?_
      rintro e wa ⟨qa, rfl, hqa, hba⟩
      have HQA := Lib.hid hqa
      have HBA := Lib.hid hba
      clear hqa hba
      go_wp2_with fail
      refine (bigTimes_any wa (HR.out.below HBA.out) ((HA.out.2.2.1.below HB.out).below HBA.out) (Nat.le_trans HRL.out (by decide)) (by rw [len_two]; decide)).mono ?_
      rintro e wb ⟨ra, rfl, hra, hbb⟩
      have HRA := Lib.hid hra
      have HBB := Lib.hid (Base.Below.nextA HBA.out hbb)
      have HQB := Lib.hid (HQA.out.below hbb)
      clear hra hbb
      clear HQ HR HQA HBA
      obtain ⟨gx, hgx, hcx⟩ := IsB.cell ((HA.out.1.below HB.out).below HBB.out) (show m / 30 < (bigL x).length by omega)
      injection hgx with hgx
      injection hgx with hgx _ _
      subst hgx
      have HDB := Lib.hid (digit_bit x m)
      have hd1 := okN_at (bigL_ok x) (m / 30)
      unfold D30 at hd1
      generalize (bigL x).getD (m / 30) 0 = dg at *
      have hrl : m % 30 < 30 := Nat.mod_lt _ (by decide)
      have hval : bits .and .i64 ((dg : Int) / 2 ^ (m % 30)) 1 = ((x / 2 ^ m % 2 : Nat) : Int) := by
        have h := Bits.and1 (dg / 2 ^ (m % 30)) (Nat.lt_of_le_of_lt (Nat.div_le_self _ _) (by omega))
        rw [HDB.out] at h
        have e : ((dg / 2 ^ (m % 30) : Nat) : Int) = (dg : Int) / 2 ^ (m % 30) := by simp
        rw [e] at h
        exact h
      have HSN := Lib.hid (fun b hb => SplitSt.next (b := b) HV.out hst.out rfl hb)
      obtain ⟨b, hb⟩ : ∃ b, b = x / 2 ^ m % 2 := ⟨_, rfl⟩
      have hb1 : b ≤ 1 := by omega
      rw [← hb] at hval
      replace HSN := Lib.hid (HSN.out b hb)
      clear hb HDB hst
      have hlr : (bigL (r * 2)).length ≤ 900001 := Nat.le_trans (len_mul r 2) (by have := HRL.out; have := len_two; omega)
      have HLR := Lib.hid hlr
      have HLQ : Hid ((bigL (q * 2)).length ≤ 900001) := Lib.hid (Nat.le_trans (len_mul q 2) (by have := HQL.out; have := len_two; omega))
      have HNX : Hid (∀ q2 r2 iv qv rv wn, q2 = q * 2 + (if y ≤ 2 * r + b then 1 else 0) → r2 = (if y ≤ 2 * r + b then 2 * r + b - y else 2 * r + b) → iv = .int .i64 ((m : Int) - 1) → IsB wn q2 qv → IsB wn r2 rv → Below w5.heap.size w5 wn → SplitRel x y w5 iv qv rv wn) := Lib.hid fun q2 r2 iv qv rv wn e1 e2 e3 e4 e5 e6 => by
        refine ⟨m, q2, r2, e3, by omega, by omega, Lib.hid ?_, Lib.hid e4, Lib.hid e5, Lib.hid e6⟩
        by_cases h : y ≤ 2 * r + b
        · rw [if_pos h] at e1 e2
          have := HSN.out.1 h
          rw [e1, e2, Nat.mul_comm q 2]; exact this
        · rw [if_neg h] at e1 e2
          have := HSN.out.2 (by omega)
          rw [e1, e2, Nat.mul_comm q 2, Nat.add_zero]; exact this
      clear HSN hlr HQL HRL
      have HBW := Lib.hid (HB.out.trans (HBB.out.mono HB.out.size))
      have HYB := Lib.hid (HA.out.2.1.below HBW.out)
      have H1B := Lib.hid (HA.out.2.2.2.1.below HBW.out)
      clear HB HBB
      have hb01 : b = 1 ∨ b = 0 := by omega
      rcases hb01 with rfl | rfl
      · have hbit : (bits .and .i64 ((dg : Int) / 2 ^ (m % 30)) 1 == 1) = true := by rw [hval]; rfl
        clear hval
        go_wp2_with fail
        refine (bigPlus_any wb HRA.out H1B.out (Nat.le_trans HLR.out (by decide)) (by rw [len_one]; decide)).mono ?_
        rintro e wc ⟨rb, rfl, hrb, hbc⟩
        have HRB := Lib.hid hrb
        have HBC := Lib.hid hbc
        clear hrb hbc
        have hlrb : (bigL (r * 2 + 1)).length ≤ 900003 := Nat.le_trans (len_add _ 1) (by have := HLR.out; have := len_one; omega)
        have hlrc := Lib.hid hlrb
        clear hlrb
        by_cases hc : y ≤ (r * 2 + 1)
        · have hcmp : 0 ≤ cmpN (r * 2 + 1) y := cmpN_ge hc
          go_wp2_with fail
          refine (bigCmp_any wc HRB.out (HYB.out.below HBC.out) (Nat.le_trans hlrc.out (by decide)) (by omega)).mono ?_
          rintro e wd ⟨rfl, hD⟩
          have HD := Lib.hid hD
          clear hD
          generalize cmpN (r * 2 + 1) y = cm at *
          go_wp2_with fail
          refine (bigMinus_any wd (IsB.below HRB.out HD.out.below) (IsB.below (HYB.out.below HBC.out) HD.out.below) (Nat.le_trans hlrc.out (by decide)) hc).mono ?_
          rintro e we ⟨rc, rfl, hrc, hbe⟩
          have HRC := Lib.hid hrc
          have HBE := Lib.hid hbe
          clear hrc hbe
          go_wp2_with fail
          refine (bigPlus_any we (IsB.below (IsB.below (HQB.out.below HBC.out) HD.out.below) HBE.out) (IsB.below (IsB.below (H1B.out.below HBC.out) HD.out.below) HBE.out) (Nat.le_trans HLQ.out (by decide)) (by rw [len_one]; decide)).mono ?_
          rintro e wf ⟨qc, rfl, hqc, hbf⟩
          have HN := Lib.hid (HNX.out (q * 2 + 1) ((r * 2 + 1) - y) (.int .i64 ((m : Int) - 1)) qc rc wf (by rw [if_pos (by omega)]) (by rw [if_pos (by omega)]; omega) rfl hqc (HRC.out.below hbf) (Base.Below.nextA (Base.Below.nextA (Base.Below.nextA (HBW.out.trans (HBC.out.mono HBW.out.size)) HD.out.below) HBE.out) hbf))
          clear hqc hbf
          go_wp2
          go_roundw
          case rel => exact HN.out
          case measure => simp [intOf]
        · have hcm1 := cmpN_lt (show (r * 2 + 1) < y by omega)
          go_wp2_with fail
          refine (bigCmp_any wc HRB.out (HYB.out.below HBC.out) (Nat.le_trans hlrc.out (by decide)) (by omega)).mono ?_
          rintro e wd ⟨rfl, hD⟩
          have HD := Lib.hid hD
          clear hD
          have HN := Lib.hid (HNX.out (q * 2) (r * 2 + 1) (.int .i64 ((m : Int) - 1)) qa rb wd (by rw [if_neg (by omega), Nat.add_zero]) (by rw [if_neg (by omega)]; omega) rfl (IsB.below (HQB.out.below HBC.out) HD.out.below) (IsB.below HRB.out HD.out.below) (Base.Below.nextA (HBW.out.trans (HBC.out.mono HBW.out.size)) HD.out.below))
          generalize cmpN (r * 2 + 1) y = cm at *
          subst hcm1
          go_wp2
          go_roundw
          case rel => exact HN.out
          case measure => simp [intOf]
      · have hbit : (bits .and .i64 ((dg : Int) / 2 ^ (m % 30)) 1 == 1) = false := by rw [hval]; rfl
        clear hval
        have hlrb : (bigL (r * 2)).length ≤ 900003 := by have := HLR.out; omega
        have hlrc := Lib.hid hlrb
        clear hlrb
        by_cases hc : y ≤ (r * 2)
        · have hcmp : 0 ≤ cmpN (r * 2) y := cmpN_ge hc
          go_wp2_with fail
          refine (bigCmp_any wb HRA.out HYB.out (Nat.le_trans hlrc.out (by decide)) (by omega)).mono ?_
          rintro e wd ⟨rfl, hD⟩
          have HD := Lib.hid hD
          clear hD
          generalize cmpN (r * 2) y = cm at *
          go_wp2_with fail
          refine (bigMinus_any wd (IsB.below HRA.out HD.out.below) (IsB.below HYB.out HD.out.below) (Nat.le_trans hlrc.out (by decide)) hc).mono ?_
          rintro e we ⟨rc, rfl, hrc, hbe⟩
          have HRC := Lib.hid hrc
          have HBE := Lib.hid hbe
          clear hrc hbe
          go_wp2_with fail
          refine (bigPlus_any we (IsB.below (IsB.below HQB.out HD.out.below) HBE.out) (IsB.below (IsB.below H1B.out HD.out.below) HBE.out) (Nat.le_trans HLQ.out (by decide)) (by rw [len_one]; decide)).mono ?_
          rintro e wf ⟨qc, rfl, hqc, hbf⟩
          have HN := Lib.hid (HNX.out (q * 2 + 1) ((r * 2) - y) (.int .i64 ((m : Int) - 1)) qc rc wf (by rw [if_pos (by omega)]) (by rw [if_pos (by omega)]; omega) rfl hqc (HRC.out.below hbf) (Base.Below.nextA (Base.Below.nextA (Base.Below.nextA HBW.out HD.out.below) HBE.out) hbf))
          clear hqc hbf
          go_wp2
          go_roundw
          case rel => exact HN.out
          case measure => simp [intOf]
        · have hcm1 := cmpN_lt (show (r * 2) < y by omega)
          go_wp2_with fail
          refine (bigCmp_any wb HRA.out HYB.out (Nat.le_trans hlrc.out (by decide)) (by omega)).mono ?_
          rintro e wd ⟨rfl, hD⟩
          have HD := Lib.hid hD
          clear hD
          have HN := Lib.hid (HNX.out (q * 2) (r * 2) (.int .i64 ((m : Int) - 1)) qa ra wd (by rw [if_neg (by omega), Nat.add_zero]) (by rw [if_neg (by omega)]; omega) rfl (IsB.below HQB.out HD.out.below) (IsB.below HRA.out HD.out.below) (Base.Below.nextA HBW.out HD.out.below))
          generalize cmpN (r * 2) y = cm at *
          subst hcm1
          go_wp2
          go_roundw
          case rel => exact HN.out
          case measure => simp [intOf]
    · obtain rfl : n = 0 := by omega
      have hq0 : q = x / y := by have := hst.out.1; rwa [Nat.pow_zero, Nat.div_one] at this
      have hr0 : r = x % y := by have := hst.out.2; rwa [Nat.pow_zero, Nat.div_one] at this
      have HQ2 := HQ.out
      have HR2 := HR.out
      rw [hq0] at HQ2
      rw [hr0] at HR2
      have HF := Lib.hid (And.intro HQ2 (And.intro HR2 (Base.Below.nextA HA.out.2.2.2.2 HB.out)))
      clear HQ HR HB hst hq0 hr0 HQ2 HR2
      go_wp2
      go_ret2
      exact ⟨_, _, rfl, HF.out.1, HF.out.2.1, HF.out.2.2⟩
theorem bigSplit_any {x y : Nat} {u v : Value} (w : World) (hx : IsB w x u) (hy : IsB w y v) (hl : (bigL x).length ≤ 900000) (hy0 : 0 < y) : Calls Try.prog 63 #[u, v] w (TwoRet (x / y) (x % y) w) := by
  rcases Nat.lt_or_ge (bigL x).length (bigL y).length with h | h
  · exact split_small w hx hy h hl
  · exact split_big w hx hy h hl hy0
end Go.Proofs.Ytionognmgcabbaa.Big
/- The reference's fractions of any size: what they are in memory. -/
namespace Go.Proofs.Ytionognmgcabbaa.Wide
open Go.RowKit Go.Proofs.Ytionognmgcabbaa Go.Proofs.Ytionognmgcabbaa.Base Go.Proofs.Ytionognmgcabbaa.Mem Go.Proofs.Ytionognmgcabbaa.RatM Go.Proofs.Ytionognmgcabbaa.BigM Go.Proofs.Ytionognmgcabbaa.Big Go.Proofs.Ytionognmgcabbaa.Fine Go.Proofs.Ytionognmgcabbaa.Blk
set_option linter.unusedVariables false
/-- the parts of a wide fraction: a sign, two numbers, and whether it is small, with its fraction -/
structure Parts (w : World) (q : Rat) (m : Nat) (s : Bool) (vn vd : Value) (fine : Bool) (fn fd : Int) (n d : Nat) : Prop where
  num : IsB w n vn
  den : IsB w d vd
  pos : 0 < d
  val : qv s n d = q
  ln : (bigL n).length ≤ m
  ld : (bigL d).length ≤ m
  small : fine = true → VF fn fd ∧ qf fn fd = q ∧ n = fn.natAbs ∧ d = fd.toNat
/-- a wide fraction that is the rational q, of at most m digits -/
def IsW (w : World) (q : Rat) (m : Nat) (v : Value) : Prop :=
  ∃ s A1 k1 c1 A2 k2 c2 fine fn fd n d, v = .agg #[.bool s, .slice A1 k1 c1, .slice A2 k2 c2, .bool fine, .int .i64 fn, .int .i64 fd] ∧ Parts w q m s (.slice A1 k1 c1) (.slice A2 k2 c2) fine fn fd n d
theorem Parts.below {w w' : World} {q : Rat} {m : Nat} {s : Bool} {vn vd : Value} {fine : Bool} {fn fd : Int} {n d : Nat} (h : Parts w q m s vn vd fine fn fd n d) (hb : Below w.heap.size w w') : Parts w' q m s vn vd fine fn fd n d :=
  ⟨h.num.below hb, h.den.below hb, h.pos, h.val, h.ln, h.ld, h.small⟩
theorem Parts.more {w : World} {q : Rat} {m m' : Nat} {s : Bool} {vn vd : Value} {fine : Bool} {fn fd : Int} {n d : Nat} (h : Parts w q m s vn vd fine fn fd n d) (hm : m ≤ m') : Parts w q m' s vn vd fine fn fd n d :=
  ⟨h.num, h.den, h.pos, h.val, Nat.le_trans h.ln hm, Nat.le_trans h.ld hm, h.small⟩
theorem IsW.below {w w' : World} {q : Rat} {m : Nat} {v : Value} (h : IsW w q m v) (hb : Below w.heap.size w w') : IsW w' q m v := by
  obtain ⟨s, A1, k1, c1, A2, k2, c2, fine, fn, fd, n, d, e, hp⟩ := h
  exact ⟨s, A1, k1, c1, A2, k2, c2, fine, fn, fd, n, d, e, hp.below hb⟩
theorem IsW.more {w : World} {q : Rat} {m m' : Nat} {v : Value} (h : IsW w q m v) (hm : m ≤ m') : IsW w q m' v := by
  obtain ⟨s, A1, k1, c1, A2, k2, c2, fine, fn, fd, n, d, e, hp⟩ := h
  exact ⟨s, A1, k1, c1, A2, k2, c2, fine, fn, fd, n, d, e, hp.more hm⟩
/-- a wide fraction that is returned -/
def WRet (q : Rat) (m : Nat) (w : World) (e : Ending) (w' : World) : Prop := ∃ v, e = .returned v ∧ IsW w' q m v ∧ Below w.heap.size w w'
theorem isB_mono (x : Nat) : Rel.Mono (fun v w => IsB w x v) := fun v w w' h hb => h.below hb
theorem isW_mono (q : Rat) (m : Nat) : Rel.Mono (fun v w => IsW w q m v) := fun v w w' h hb => h.below hb
/-- numbers of at most two digits -/
theorem small_len {n : Nat} (h : n ≤ 1000000000000000000) : (bigL n).length ≤ 2 := bigL_len_le (Nat.lt_of_le_of_lt h (by decide))
theorem IsB.store {w : World} {x b i : Nat} {t : TypeId} {cs : Array Value} {v u : Value} (h : IsB w x v) (K : Blk w b t cs) (ht : t ≠ 2) : IsB (w.setCell ⟨b, i, none⟩ u) x v := by
  refine World.ownsRow.kept h (Src.grown_setCell w ⟨b, i, none⟩ u) ?_
  cases hb : v.ownBlock with
  | none => exact .inl rfl
  | some g =>
    refine .inr fun e => ?_
    have e : g = b := Option.some.inj e
    subst e
    obtain ⟨cur, h1, _⟩ := ownsRow_block h hb
    unfold Blk at K
    rw [K] at h1
    injection h1 with h1
    injection h1 with _ h3
    exact ht h3
theorem Parts.store {w : World} {q : Rat} {m b i : Nat} {s : Bool} {vn vd u : Value} {fine : Bool} {fn fd : Int} {n d : Nat} {t : TypeId} {cs : Array Value} (h : Parts w q m s vn vd fine fn fd n d) (K : Blk w b t cs) (ht : t ≠ 2) : Parts (w.setCell ⟨b, i, none⟩ u) q m s vn vd fine fn fd n d :=
  ⟨IsB.store h.num K ht, IsB.store h.den K ht, h.pos, h.val, h.ln, h.ld, h.small⟩
/-- the six cells of a wide fraction are written -/
def put6 (w : World) (b : Nat) (v0 v1 v2 v3 v4 v5 : Value) : World := (((((w.setCell ⟨b, 0, none⟩ v0).setCell ⟨b, 1, none⟩ v1).setCell ⟨b, 2, none⟩ v2).setCell ⟨b, 3, none⟩ v3).setCell ⟨b, 4, none⟩ v4).setCell ⟨b, 5, none⟩ v5
theorem put6_blk {w : World} {b : Nat} {t : TypeId} {u0 u1 u2 u3 u4 u5 : Value} (K : Blk w b t #[u0, u1, u2, u3, u4, u5]) (v0 v1 v2 v3 v4 v5 : Value) : Blk (put6 w b v0 v1 v2 v3 v4 v5) b t #[v0, v1, v2, v3, v4, v5] :=
  (((((K.setTo 0 v0 rfl).setTo 1 v1 rfl).setTo 2 v2 rfl).setTo 3 v3 rfl).setTo 4 v4 rfl).setTo 5 v5 rfl
theorem put6_other {w : World} {b b' : Nat} {t : TypeId} {cs : Array Value} (K : Blk w b' t cs) (hne : b ≠ b') (v0 v1 v2 v3 v4 v5 : Value) : Blk (put6 w b v0 v1 v2 v3 v4 v5) b' t cs :=
  (((((K.other v0 hne).other v1 hne).other v2 hne).other v3 hne).other v4 hne).other v5 hne
theorem put6_below {w0 w : World} {b B : Nat} (h : Below B w0 w) (hb : B ≤ b) (v0 v1 v2 v3 v4 v5 : Value) : Below B w0 (put6 w b v0 v1 v2 v3 v4 v5) :=
  (((((h.setCell (p := ⟨b, 0, none⟩) hb v0).setCell (p := ⟨b, 1, none⟩) hb v1).setCell (p := ⟨b, 2, none⟩) hb v2).setCell (p := ⟨b, 3, none⟩) hb v3).setCell (p := ⟨b, 4, none⟩) hb v4).setCell (p := ⟨b, 5, none⟩) hb v5
theorem Parts.put6 {w : World} {q : Rat} {m b : Nat} {s : Bool} {vn vd : Value} {fine : Bool} {fn fd : Int} {n d : Nat} {t : TypeId} {u0 u1 u2 u3 u4 u5 : Value} (h : Parts w q m s vn vd fine fn fd n d) (K : Blk w b t #[u0, u1, u2, u3, u4, u5]) (ht : t ≠ 2) (v0 v1 v2 v3 v4 v5 : Value) : Parts (Wide.put6 w b v0 v1 v2 v3 v4 v5) q m s vn vd fine fn fd n d := by
  have K0 := K.setTo 0 v0 rfl
  have K1 := K0.setTo 1 v1 rfl
  have K2 := K1.setTo 2 v2 rfl
  have K3 := K2.setTo 3 v3 rfl
  have K4 := K3.setTo 4 v4 rfl
  exact (((((h.store K ht).store K0 ht).store K1 ht).store K2 ht).store K3 ht).store K4 ht
theorem WRet.put {w wq : World} {q : Rat} {m b : Nat} {s : Bool} {A1 A2 : Option Addr} {k1 k2 c1 c2 : Nat} {fine : Bool} {fn fd : Int} {n d : Nat} {u0 u1 u2 u3 u4 u5 : Value} (h : Parts wq q m s (.slice A1 k1 c1) (.slice A2 k2 c2) fine fn fd n d) (K : Blk wq b 65 #[u0, u1, u2, u3, u4, u5]) (hb : Below w.heap.size w wq) (hB : w.heap.size ≤ b) :
    WRet q m w (.returned (.agg #[.bool s, .slice A1 k1 c1, .slice A2 k2 c2, .bool fine, .int .i64 fn, .int .i64 fd])) (put6 wq b (.bool s) (.slice A1 k1 c1) (.slice A2 k2 c2) (.bool fine) (.int .i64 fn) (.int .i64 fd)) :=
  ⟨_, rfl, ⟨s, A1, k1, c1, A2, k2, c2, fine, fn, fd, n, d, rfl, h.put6 K (by decide) _ _ _ _ _ _⟩, put6_below hb hB _ _ _ _ _ _⟩
end Go.Proofs.Ytionognmgcabbaa.Wide
/- The reference's fractions of any size: a small one made wide. -/
namespace Go.Proofs.Ytionognmgcabbaa.Wide
open Go.RowKit Go.Proofs.Ytionognmgcabbaa Go.Proofs.Ytionognmgcabbaa.Base Go.Proofs.Ytionognmgcabbaa.Mem Go.Proofs.Ytionognmgcabbaa.RatM Go.Proofs.Ytionognmgcabbaa.BigM Go.Proofs.Ytionognmgcabbaa.Big Go.Proofs.Ytionognmgcabbaa.Fine Go.Proofs.Ytionognmgcabbaa.Blk
set_option linter.unusedVariables false
set_option maxHeartbeats 4000000 in
set_option maxRecDepth 100000 in
theorem wideOf_any {n d : Int} (h : VF n d) (w : World) : Calls Try.prog 48 #[.agg #[.int .i64 n, .int .i64 d]] w (WRet (qf n d) 2 w) := by
  have HX := Lib.hid (fun W => maxG n h.2.2.1 h.2.2.2.1 W)
  have HBn := Lib.hid (fun W => bigOf_any n.natAbs (by have := h.2.2.1; have := h.2.2.2.1; omega) W)
  have HBd := Lib.hid (fun W => bigOf_any d.toNat (by have := h.2.1; omega) W)
  rw [show ((d.toNat : Nat) : Int) = d by have := h.1; omega] at HBd
  have HP : Hid (∀ W A1 A2 k1 k2 c1 c2, IsB W n.natAbs (.slice A1 k1 c1) → IsB W d.toNat (.slice A2 k2 c2) → IsW W (qf n d) 2 (.agg #[.bool (decide (n < 0)), .slice A1 k1 c1, .slice A2 k2 c2, .bool true, .int .i64 n, .int .i64 d])) := Lib.hid fun W A1 A2 k1 k2 c1 c2 g1 g2 =>
    ⟨_, _, _, _, _, _, _, _, _, _, _, _, rfl, ⟨g1, g2, by have := h.1; omega, rfl, small_len (by have := h.2.2.1; have := h.2.2.2.1; omega), small_len (by have := h.2.1; omega), fun _ => ⟨h, rfl, rfl, rfl⟩⟩⟩
  have r1 := h.2.2.1
  have r2 := h.2.2.2.1
  have hwn : IntKind.i64.wrap (-n) = -n := by rw [IntKind.wrap_i64]; omega
  clear h
  obtain ⟨W2, hW2⟩ : ∃ W2, W2 = (w.alloc (.cells #[.int .i64 n, .int .i64 d] 63)).alloc (.cells #[.bool false, .slice none 0 0, .slice none 0 0, .bool false, .int .i64 0, .int .i64 0] 65) := ⟨_, rfl⟩
  have K0 : Hid (Blk W2 w.heap.size 63 #[.int .i64 n, .int .i64 d]) := Lib.hid (by rw [hW2]; exact (Blk.new w _ _).alloc _)
  have KR : Hid (Blk W2 (w.heap.size + 1) 65 #[.bool false, .slice none 0 0, .slice none 0 0, .bool false, .int .i64 0, .int .i64 0]) := Lib.hid (by rw [hW2]; exact Blk.newAt _ _ (by simp))
  have HB : Hid (Below w.heap.size w W2) := Lib.hid (by rw [hW2]; exact ((Below.refl _ _).alloc (Nat.le_refl _) _).alloc (by simp) _)
  have HW := Lib.hid hW2
  clear hW2
  go_enter Try.func48, Try.ntmps48
  go_wp2_with fail
  rw [← HW.out]
  refine Rel.wp_region_rel 15 (by kernel_rfl) (by kernel_rfl) (fun F hF => ?_)
  simp only [List.take_succ_cons, List.take_zero, List.drop_succ_cons, List.drop_zero, Rel.putL] at hF ⊢
  have HF := Lib.hid hF
  clear hF
  have uv := @Rel.upon_value Try.prog
  have ue := @Rel.upon_enter Try.prog
  apply Rel.rel_pure
  apply Exists.intro
  refine ⟨fun vs wq hq hdp R hR => ?_, ?_⟩
  · (rw [HF.out, Rel.stepAt_eq]; clear hdp; skip; go_simp; exact hR)
  apply Rel.rel_pure
  apply Exists.intro
  refine ⟨fun vs wq hq hdp R hR => ?_, ?_⟩
  · (rw [HF.out, Rel.stepAt_eq]; have qd0 : vs 0 = _ := Rel.dep hdp 0 (by kernel_rfl); clear hdp; have x0 := (K0.out.belowS hq).at 0 (v := .int .i64 n) rfl; have x1 := (K0.out.belowS hq).at 1 (v := .int .i64 d) rfl; go_simp; exact hR)
  apply Rel.rel_pure
  apply Exists.intro
  refine ⟨fun vs wq hq hdp R hR => ?_, ?_⟩
  · (rw [HF.out, Rel.stepAt_eq]; have qd1 : vs 1 = _ := Rel.dep hdp 1 (by kernel_rfl); clear hdp; skip; go_simp; exact hR)
  apply Rel.rel_pure
  apply Exists.intro
  refine ⟨fun vs wq hq hdp R hR => ?_, ?_⟩
  · (rw [HF.out, Rel.stepAt_eq]; clear hdp; skip; go_simp; exact hR)
  apply Rel.rel_pure
  apply Exists.intro
  refine ⟨fun vs wq hq hdp R hR => ?_, ?_⟩
  · (rw [HF.out, Rel.stepAt_eq]; have qd3 : vs 3 = _ := Rel.dep hdp 3 (by kernel_rfl); clear hdp; have x0 := (K0.out.belowS hq).at 0 (v := .int .i64 n) rfl; have x1 := (K0.out.belowS hq).at 1 (v := .int .i64 d) rfl; go_simp; exact hR)
  apply Rel.rel_pure
  apply Exists.intro
  refine ⟨fun vs wq hq hdp R hR => ?_, ?_⟩
  · (rw [HF.out, Rel.stepAt_eq]; clear hdp; skip; go_simp; exact hR)
  apply Rel.rel_pure
  apply Exists.intro
  refine ⟨fun vs wq hq hdp R hR => ?_, ?_⟩
  · (rw [HF.out, Rel.stepAt_eq]; have qd5 : vs 5 = _ := Rel.dep hdp 5 (by kernel_rfl); clear hdp; have x0 := (K0.out.belowS hq).at 0 (v := .int .i64 n) rfl; have x1 := (K0.out.belowS hq).at 1 (v := .int .i64 d) rfl; go_simp; exact hR)
  apply Rel.rel_pure
  apply Exists.intro
  refine ⟨fun vs wq hq hdp R hR => ?_, ?_⟩
  · (rw [HF.out, Rel.stepAt_eq]; have qd6 : vs 6 = _ := Rel.dep hdp 6 (by kernel_rfl); clear hdp; skip; go_simp; exact hR)
  apply Rel.rel_same
  apply Exists.intro
  refine ⟨fun vs wq hq hdp => ?_, ?_⟩
  · (rw [HF.out, Rel.stepAt_eq]; have qd4 : vs 4 = _ := Rel.dep hdp 4 (by kernel_rfl); have qd7 : vs 7 = _ := Rel.dep hdp 7 (by kernel_rfl); clear hdp; skip; go_simp; refine (HX.out _).mono ?_; rintro e w7 ⟨rfl, rfl⟩; exact ⟨_, rfl, rfl, Below.refl _ _⟩)
  refine Rel.rel_law (S := fun v w' => IsB w' n.natAbs v) (isB_mono _) (fun vs wq hq hdp => ?_) ?_
  · (rw [HF.out, Rel.stepAt_eq]; have qd8 : vs 8 = _ := Rel.dep hdp 8 (by kernel_rfl); clear hdp; skip; go_simp; refine (HBn.out _).mono ?_; rintro e w7 ⟨v, rfl, hv, hb⟩; exact ⟨_, rfl, hv, hb⟩)
  apply Rel.rel_pure
  apply Exists.intro
  refine ⟨fun vs wq hq hdp R hR => ?_, ?_⟩
  · (rw [HF.out, Rel.stepAt_eq]; clear hdp; skip; go_simp; exact hR)
  apply Rel.rel_pure
  apply Exists.intro
  refine ⟨fun vs wq hq hdp R hR => ?_, ?_⟩
  · (rw [HF.out, Rel.stepAt_eq]; have qd10 : vs 10 = _ := Rel.dep hdp 10 (by kernel_rfl); clear hdp; have x0 := (K0.out.belowS hq).at 0 (v := .int .i64 n) rfl; have x1 := (K0.out.belowS hq).at 1 (v := .int .i64 d) rfl; go_simp; exact hR)
  refine Rel.rel_law (S := fun v w' => IsB w' d.toNat v) (isB_mono _) (fun vs wq hq hdp => ?_) ?_
  · (rw [HF.out, Rel.stepAt_eq]; have qd11 : vs 11 = _ := Rel.dep hdp 11 (by kernel_rfl); clear hdp; skip; go_simp; refine (HBd.out _).mono ?_; rintro e w7 ⟨v, rfl, hv, hb⟩; exact ⟨_, rfl, hv, hb⟩)
  apply Rel.rel_pure
  apply Exists.intro
  refine ⟨fun vs wq hq hdp R hR => ?_, ?_⟩
  · (rw [HF.out, Rel.stepAt_eq]; clear hdp; have x0 := (K0.out.belowS hq).at 0 (v := .int .i64 n) rfl; have x1 := (K0.out.belowS hq).at 1 (v := .int .i64 d) rfl; go_simp; exact hR)
  refine Rel.rel_law (S := fun v w' => IsW w' (qf n d) 2 v) (isW_mono _ _) (fun vs wq hq hdp => ?_) ?_
  · (rw [HF.out, Rel.stepAt_eq]; have qd2 : vs 2 = _ := Rel.dep hdp 2 (by kernel_rfl); have qd9 : IsB wq _ (vs 9) := Rel.dep hdp 9 (by kernel_rfl); have qd12 : IsB wq _ (vs 12) := Rel.dep hdp 12 (by kernel_rfl); have qd13 : vs 13 = _ := Rel.dep hdp 13 (by kernel_rfl); clear hdp; obtain ⟨A1, c1, ev1, _⟩ := Dig.form qd9; obtain ⟨A2, c2, ev2, _⟩ := Dig.form qd12; have HPP := Lib.hid (And.intro (HP.out wq A1 A2 _ _ c1 c2 (by rw [← ev1]; exact qd9) (by rw [← ev2]; exact qd12)) (Below.refl wq.heap.size wq)); go_simp; exact HPP.out)
  refine Rel.rel_end (fun vs wq hq hall => ?_)
  rw [HF.out]
  have qe0 : vs 0 = _ := Rel.fin hall 0 (by decide)
  have qe1 : vs 1 = _ := Rel.fin hall 1 (by decide)
  have qe2 : vs 2 = _ := Rel.fin hall 2 (by decide)
  have qe3 : vs 3 = _ := Rel.fin hall 3 (by decide)
  have qe4 : vs 4 = _ := Rel.fin hall 4 (by decide)
  have qe5 : vs 5 = _ := Rel.fin hall 5 (by decide)
  have qe6 : vs 6 = _ := Rel.fin hall 6 (by decide)
  have qe7 : vs 7 = _ := Rel.fin hall 7 (by decide)
  have qe8 : vs 8 = _ := Rel.fin hall 8 (by decide)
  have qe9 : IsB wq _ (vs 9) := Rel.fin hall 9 (by decide)
  have qe10 : vs 10 = _ := Rel.fin hall 10 (by decide)
  have qe11 : vs 11 = _ := Rel.fin hall 11 (by decide)
  have qe12 : IsB wq _ (vs 12) := Rel.fin hall 12 (by decide)
  have qe13 : vs 13 = _ := Rel.fin hall 13 (by decide)
  have qe14 : IsW wq _ _ (vs 14) := Rel.fin hall 14 (by decide)
  clear hall HF uv ue
  obtain ⟨s, A1, k1, c1', A2, k2, c2', fine, fn, fd, nn, dd, ev, hp⟩ := qe14
  have KRq := KR.out.belowS hq
  have HBq := Base.Below.nextA HB.out hq
  have HP2 := Lib.hid hp
  clear hq hp
  have z0 := (KRq).frz 0
  have z1 := (KRq).frz 1
  have z2 := (KRq).frz 2
  have z3 := (KRq).frz 3
  have z4 := (KRq).frz 4
  have z5 := (KRq).frz 5
  have c0 := (KRq).at 0 (v := .bool false) rfl
  have c1 := (KRq).at 1 (v := .slice none 0 0) rfl
  have c2 := (KRq).at 2 (v := .slice none 0 0) rfl
  have c3 := (KRq).at 3 (v := .bool false) rfl
  have c4 := (KRq).at 4 (v := .int .i64 0) rfl
  have c5 := (KRq).at 5 (v := .int .i64 0) rfl
  have SS := put6_blk (KRq) (.bool s) (.slice A1 k1 c1') (.slice A2 k2 c2') (.bool fine) (.int .i64 fn) (.int .i64 fd)
  unfold put6 at SS
  have s0 := SS.at 0 rfl
  have s1 := SS.at 1 rfl
  have s2 := SS.at 2 rfl
  have s3 := SS.at 3 rfl
  have s4 := SS.at 4 rfl
  have s5 := SS.at 5 rfl
  have HFIN := Lib.hid (WRet.put (HP2.out) (KRq) (HBq) (by simp))
  clear SS
  go_wp2
  refine bodyPost_ret (v := .agg #[.bool s, .slice A1 k1 c1', .slice A2 k2 c2', .bool fine, .int .i64 fn, .int .i64 fd]) (by simp [results, Try.results48, go_sem, s0, s1, s2, s3, s4, s5]) rfl ?_
  exact HFIN.out
end Go.Proofs.Ytionognmgcabbaa.Wide
/- The reference's fractions of any size: lowest terms. -/
namespace Go.Proofs.Ytionognmgcabbaa.Wide
open Go.RowKit Go.Proofs.Ytionognmgcabbaa Go.Proofs.Ytionognmgcabbaa.Base Go.Proofs.Ytionognmgcabbaa.Mem Go.Proofs.Ytionognmgcabbaa.RatM Go.Proofs.Ytionognmgcabbaa.BigM Go.Proofs.Ytionognmgcabbaa.Big Go.Proofs.Ytionognmgcabbaa.Fine Go.Proofs.Ytionognmgcabbaa.Blk
set_option linter.unusedVariables false
/-- the number that digits in memory say -/
def bigOfV (w : World) : Value → Nat
  | .slice (some a) n _ => val ((List.range n).map fun i => match w.cell? ⟨a.block, a.off + i, none⟩ with
    | some (.int _ x) => x.toNat
    | _ => 0)
  | _ => 0
theorem bigOfV_eq {w : World} {x : Nat} {v : Value} (h : IsB w x v) : bigOfV w v = x := by
  obtain ⟨A, c, rfl, _⟩ := Dig.form h
  rcases Nat.eq_zero_or_pos (bigL x).length with h0 | h0
  · have e := List.length_eq_zero_iff.1 h0
    have hx : x = 0 := by have := bigL_val x; rw [e, val] at this; exact this.symm
    subst hx
    rw [h0]
    cases A <;> simp [bigOfV, val]
  · obtain ⟨b, rfl, _⟩ := IsB.cell h h0
    show val _ = x
    rw [← bigL_val x]
    congr 1
    refine List.ext_getElem (by simp [bigL_val]) fun i h1 h2 => ?_
    rw [bigL_val] at h1
    simp only [List.getElem_map, List.getElem_range]
    obtain ⟨b', e, hc⟩ := IsB.cell h h2
    injection e with e
    injection e with e1 _ _
    subst e1
    rw [Nat.zero_add, hc]
    simp [List.getD, h2]
attribute [irreducible] bigOfV
/-- lowest terms, or small -/
def IsL (w : World) (q : Rat) (m : Nat) (v : Value) : Prop :=
  ∃ s A1 k1 c1 A2 k2 c2 fine fn fd n d, v = .agg #[.bool s, .slice A1 k1 c1, .slice A2 k2 c2, .bool fine, .int .i64 fn, .int .i64 fd] ∧ Parts w q m s (.slice A1 k1 c1) (.slice A2 k2 c2) fine fn fd n d ∧ n = q.num.natAbs ∧ d = q.den
theorem IsL.wide {w : World} {q : Rat} {m : Nat} {v : Value} (h : IsL w q m v) : IsW w q m v := by
  obtain ⟨s, A1, k1, c1, A2, k2, c2, fine, fn, fd, n, d, e, hp, _⟩ := h
  exact ⟨s, A1, k1, c1, A2, k2, c2, fine, fn, fd, n, d, e, hp⟩
theorem IsL.below {w w' : World} {q : Rat} {m : Nat} {v : Value} (h : IsL w q m v) (hb : Below w.heap.size w w') : IsL w' q m v := by
  obtain ⟨s, A1, k1, c1, A2, k2, c2, fine, fn, fd, n, d, e, hp, hl⟩ := h
  exact ⟨s, A1, k1, c1, A2, k2, c2, fine, fn, fd, n, d, e, hp.below hb, hl⟩
def LRet (q : Rat) (m : Nat) (w : World) (e : Ending) (w' : World) : Prop := ∃ v, e = .returned v ∧ IsL w' q m v ∧ Below w.heap.size w w'
theorem LRet.put {w wq : World} {q : Rat} {m b : Nat} {s : Bool} {A1 A2 : Option Addr} {k1 k2 c1 c2 : Nat} {fine : Bool} {fn fd : Int} {n d : Nat} {u0 u1 u2 u3 u4 u5 : Value} (h : Parts wq q m s (.slice A1 k1 c1) (.slice A2 k2 c2) fine fn fd n d) (hl : n = q.num.natAbs ∧ d = q.den) (K : Blk wq b 65 #[u0, u1, u2, u3, u4, u5]) (hb : Below w.heap.size w wq) (hB : w.heap.size ≤ b) :
    LRet q m w (.returned (.agg #[.bool s, .slice A1 k1 c1, .slice A2 k2 c2, .bool fine, .int .i64 fn, .int .i64 fd])) (put6 wq b (.bool s) (.slice A1 k1 c1) (.slice A2 k2 c2) (.bool fine) (.int .i64 fn) (.int .i64 fd)) :=
  ⟨_, rfl, ⟨s, A1, k1, c1, A2, k2, c2, fine, fn, fd, n, d, rfl, h.put6 K (by decide) _ _ _ _ _ _, hl⟩, put6_below hb hB _ _ _ _ _ _⟩
def GcdRel (n d : Nat) (w : World) (xv yv : Value) (wr : World) : Prop :=
  ∃ p q : Nat, (bigL p).length ≤ 400000 ∧ (bigL q).length ≤ 400000 ∧ Hid (Nat.gcd p q = Nat.gcd n d) ∧ Hid (IsB wr p xv) ∧ Hid (IsB wr q yv) ∧ Hid (Below w.heap.size w wr)
set_option maxHeartbeats 4000000 in
set_option maxRecDepth 100000 in
theorem lowest_any {q : Rat} {m : Nat} {v : Value} (w : World) (hv : IsW w q m v) (hm : m ≤ 400000) : Calls Try.prog 46 #[v] w (LRet q m w) := by
  obtain ⟨s, A1, k1, c1, A2, k2, c2, fine, fn, fd, n, d, rfl, hp⟩ := hv
  have HP := Lib.hid hp
  obtain ⟨W2, hW2⟩ : ∃ W2, W2 = (w.alloc (.cells #[.bool s, .slice A1 k1 c1, .slice A2 k2 c2, .bool fine, .int .i64 fn, .int .i64 fd] 65)).alloc (.cells #[.bool false, .slice none 0 0, .slice none 0 0, .bool false, .int .i64 0, .int .i64 0] 65) := ⟨_, rfl⟩
  have K0 : Hid (Blk W2 w.heap.size 65 #[.bool s, .slice A1 k1 c1, .slice A2 k2 c2, .bool fine, .int .i64 fn, .int .i64 fd]) := Lib.hid (by rw [hW2]; exact (Blk.new w _ _).alloc _)
  have KR : Hid (Blk W2 (w.heap.size + 1) 65 #[.bool false, .slice none 0 0, .slice none 0 0, .bool false, .int .i64 0, .int .i64 0]) := Lib.hid (by rw [hW2]; exact Blk.newAt _ _ (by simp))
  have HB : Hid (Below w.heap.size w W2) := Lib.hid (by rw [hW2]; exact ((Below.refl _ _).alloc (Nat.le_refl _) _).alloc (by simp) _)
  have HW := Lib.hid hW2
  clear hW2 hp
  have x0 := K0.out.at 0 (v := .bool s) rfl
  have x1 := K0.out.at 1 (v := .slice A1 k1 c1) rfl
  have x2 := K0.out.at 2 (v := .slice A2 k2 c2) rfl
  have x3 := K0.out.at 3 (v := .bool fine) rfl
  have x4 := K0.out.at 4 (v := .int .i64 fn) rfl
  have x5 := K0.out.at 5 (v := .int .i64 fd) rfl
  go_enter Try.func46, Try.ntmps46
  go_upto_region 1 with (fail)
  rw [← HW.out]
  clear HW
  cases fine with
  | true =>
    obtain ⟨B1, hB1⟩ : ∃ B1, B1 = A1 := ⟨_, rfl⟩
    obtain ⟨B2, hB2⟩ : ∃ B2, B2 = A2 := ⟨_, rfl⟩
    subst hB1 hB2
    obtain ⟨j1, h1⟩ : ∃ j1, j1 = k1 := ⟨_, rfl⟩
    obtain ⟨j2, h2⟩ : ∃ j2, j2 = k2 := ⟨_, rfl⟩
    obtain ⟨e1, h3⟩ : ∃ e1, e1 = c1 := ⟨_, rfl⟩
    obtain ⟨e2, h4⟩ : ∃ e2, e2 = c2 := ⟨_, rfl⟩
    subst h1 h2 h3 h4
    have HPP := Lib.hid (HP.out.below HB.out)
    have HPL : Hid (n = q.num.natAbs ∧ d = q.den) := Lib.hid (by
      obtain ⟨h1, h2, h3, h4⟩ := HP.out.small rfl
      obtain ⟨g1, g2, _⟩ := h1.num
      rw [h2] at g1 g2
      rw [h3, h4, g1]
      exact ⟨rfl, by omega⟩)
    have z0 := KR.out.frz 0
    have z1 := KR.out.frz 1
    have z2 := KR.out.frz 2
    have z3 := KR.out.frz 3
    have z4 := KR.out.frz 4
    have z5 := KR.out.frz 5
    have y0 := KR.out.at 0 (v := .bool false) rfl
    have y1 := KR.out.at 1 (v := .slice none 0 0) rfl
    have y2 := KR.out.at 2 (v := .slice none 0 0) rfl
    have y3 := KR.out.at 3 (v := .bool false) rfl
    have y4 := KR.out.at 4 (v := .int .i64 0) rfl
    have y5 := KR.out.at 5 (v := .int .i64 0) rfl
    have SS := put6_blk KR.out (.bool s) (.slice B1 j1 e1) (.slice B2 j2 e2) (.bool true) (.int .i64 fn) (.int .i64 fd)
    unfold put6 at SS
    have s0 := SS.at 0 rfl
    have s1 := SS.at 1 rfl
    have s2 := SS.at 2 rfl
    have s3 := SS.at 3 rfl
    have s4 := SS.at 4 rfl
    have s5 := SS.at 5 rfl
    have HFIN := Lib.hid (LRet.put HPP.out HPL.out KR.out HB.out (by omega))
    clear SS
    go_wp2
    refine bodyPost_ret (v := .agg #[.bool s, .slice B1 j1 e1, .slice B2 j2 e2, .bool true, .int .i64 fn, .int .i64 fd]) (by simp [results, Try.results46, go_sem, s0, s1, s2, s3, s4, s5]) rfl ?_
    exact HFIN.out
  | false =>
    have HD := Lib.hid HP.out.pos
    have H0 : Hid (GcdRel n d W2 (.slice A1 k1 c1) (.slice A2 k2 c2) W2) := Lib.hid ⟨n, d, Nat.le_trans HP.out.ln hm, Nat.le_trans HP.out.ld hm, Lib.hid rfl, Lib.hid (HP.out.num.below HB.out), Lib.hid (HP.out.den.below HB.out), Lib.hid (Below.refl _ _)⟩
    go_wp2
    go_loopw [3, 4] (fun xv yv wr => GcdRel n d W2 xv yv wr) (fun _ yv wr => bigOfV wr yv)
    case atStart => exact H0.out
    case round =>
      obtain ⟨p, r, hp1, hr1, hg, hx, hy, hb⟩ := hrel
      clear H0 x0 x1 x2 x3 x4 x5
      obtain ⟨Ay, cy, e, _⟩ := Dig.form hy.out
      subst e
      by_cases hpos : 0 < r
      · have hlp := len_pos hpos
        go_wp2_with fail
        refine (bigSplit_any wr hx.out hy.out (by omega) hpos).mono ?_
        rintro e w1 ⟨vq, vr, rfl, hq, hr, hb1⟩
        have HN : Hid (GcdRel n d W2 (.slice Ay (bigL r).length cy) vr w1) := Lib.hid ⟨r, p % r, hr1, Nat.le_trans (len_mono (Nat.le_of_lt (Nat.mod_lt _ hpos))) hr1, Lib.hid (by rw [← hg.out, Nat.gcd_comm r, ← Nat.gcd_rec, Nat.gcd_comm]), Lib.hid (hy.out.below hb1), Lib.hid hr, Lib.hid (Base.Below.nextA hb.out hb1)⟩
        have HM : Hid (bigOfV w1 vr < bigOfV wr (.slice Ay (bigL r).length cy)) := Lib.hid (by rw [bigOfV_eq hr, bigOfV_eq hy.out]; exact Nat.mod_lt _ hpos)
        clear hq hr hb1 hx hy hb hg
        go_wp2
        go_roundw
        case rel => exact HN.out
        case measure => exact HM.out
      · obtain rfl : r = 0 := by omega
        have hgc := hg.out
        rw [Nat.gcd_zero_right] at hgc
        have HG : Hid (0 < p) := Lib.hid (by rw [hgc]; exact Nat.gcd_pos_of_pos_right _ HD.out)
        have HGC := Lib.hid hgc
        have hl0 : ¬ 0 < (bigL 0).length := by rw [bigL_zero]; simp
        replace K0 := Lib.hid (K0.out.belowS hb.out)
        replace KR := Lib.hid (KR.out.belowS hb.out)
        replace HB := Lib.hid (Base.Below.nextA HB.out hb.out)
        have HX := Lib.hid hx.out
        have x1 := K0.out.at 1 (v := .slice A1 k1 c1) rfl
        clear hg hx hy hb hgc
        go_wp2_with fail
        refine (bigSplit_any _ (HP.out.num.below HB.out) HX.out (Nat.le_trans HP.out.ln (by omega)) HG.out).mono ?_
        rintro e wa ⟨vn, vx, rfl, hvn, _, hba⟩
        replace K0 := Lib.hid (K0.out.belowS hba)
        replace KR := Lib.hid (KR.out.belowS hba)
        replace HB := Lib.hid (Base.Below.nextA HB.out hba)
        replace HX := Lib.hid (HX.out.below hba)
        have HN := Lib.hid hvn
        clear hvn hba x1
        have x2 := K0.out.at 2 (v := .slice A2 k2 c2) rfl
        go_wp2_with fail
        refine (bigSplit_any _ (HP.out.den.below HB.out) HX.out (Nat.le_trans HP.out.ld (by omega)) HG.out).mono ?_
        rintro e wb ⟨vd, vy, rfl, hvd, _, hbb⟩
        replace K0 := Lib.hid (K0.out.belowS hbb)
        replace KR := Lib.hid (KR.out.belowS hbb)
        replace HB := Lib.hid (Base.Below.nextA HB.out hbb)
        have HN2 := Lib.hid (HN.out.below hbb)
        have HD2 := Lib.hid hvd
        clear hvd hbb x2 HX HN
        obtain ⟨B1, e1, rfl, _⟩ := Dig.form HN2.out
        obtain ⟨B2, e2, rfl, _⟩ := Dig.form HD2.out
        have hqn := qv_num s (n := n) (d := d) (Nat.ne_of_gt HD.out)
        rw [HP.out.val, ← HGC.out] at hqn
        have hdp : 0 < d / p := by
          rw [HGC.out]
          exact Nat.div_pos (Nat.gcd_le_right _ HD.out) (by rw [← HGC.out]; exact HG.out)
        have HPP : Hid (Parts wb q m s (.slice B1 (bigL (n / p)).length e1) (.slice B2 (bigL (d / p)).length e2) false 0 0 (n / p) (d / p)) := Lib.hid ⟨HN2.out, HD2.out, hdp, by
            have h1 : p ∣ n := by rw [HGC.out]; exact Nat.gcd_dvd_left _ _
            have h2 : p ∣ d := by rw [HGC.out]; exact Nat.gcd_dvd_right _ _
            have := qv_scale s (n := n / p) (d := d / p) (k := p) (Nat.ne_of_gt hdp) (Nat.ne_of_gt HG.out)
            rw [Nat.div_mul_cancel h1, Nat.div_mul_cancel h2] at this
            rw [← this]; exact HP.out.val, Nat.le_trans (len_mono (Nat.div_le_self _ _)) HP.out.ln, Nat.le_trans (len_mono (Nat.div_le_self _ _)) HP.out.ld, fun h => by cases h⟩
        have HPL : Hid (n / p = q.num.natAbs ∧ d / p = q.den) := Lib.hid ⟨hqn.1.symm, hqn.2.symm⟩
        have x0 := K0.out.at 0 (v := .bool s) rfl
        clear hqn hdp
        generalize (bigL (n / p)).length = j1 at *
        generalize (bigL (d / p)).length = j2 at *
        have z0 := KR.out.frz 0
        have z1 := KR.out.frz 1
        have z2 := KR.out.frz 2
        have z3 := KR.out.frz 3
        have z4 := KR.out.frz 4
        have z5 := KR.out.frz 5
        have y0 := KR.out.at 0 (v := .bool false) rfl
        have y1 := KR.out.at 1 (v := .slice none 0 0) rfl
        have y2 := KR.out.at 2 (v := .slice none 0 0) rfl
        have y3 := KR.out.at 3 (v := .bool false) rfl
        have y4 := KR.out.at 4 (v := .int .i64 0) rfl
        have y5 := KR.out.at 5 (v := .int .i64 0) rfl
        have SS := put6_blk KR.out (.bool s) (.slice B1 j1 e1) (.slice B2 j2 e2) (.bool false) (.int .i64 0) (.int .i64 0)
        unfold put6 at SS
        have s0 := SS.at 0 rfl
        have s1 := SS.at 1 rfl
        have s2 := SS.at 2 rfl
        have s3 := SS.at 3 rfl
        have s4 := SS.at 4 rfl
        have s5 := SS.at 5 rfl
        have HFIN := Lib.hid (LRet.put HPP.out HPL.out KR.out HB.out (by omega))
        clear SS
        go_wp2
        refine bodyPost_ret (v := .agg #[.bool s, .slice B1 j1 e1, .slice B2 j2 e2, .bool false, .int .i64 0, .int .i64 0]) (by simp [results, Try.results46, go_sem, s0, s1, s2, s3, s4, s5]) rfl ?_
        exact HFIN.out
end Go.Proofs.Ytionognmgcabbaa.Wide

/- A list of ratios of a fixed length whose elements are set. -/
import Derived.Test.YtionognmgcabbaaGreatMgBes08
import Derived.Test.YtionognmgcabbaaGreatMgBes05
import Derived.Test.YtionognmgcabbaaGreatMgBes04
import Derived.Test.YtionognmgcabbaaGreatMgBes00
import Derived.Deep.Cut
import Derived.Shelf.Lay
import Derived.Shelf.Strconv.Itoa0
import Derived.Lib.ItoaNum
namespace Go.Proofs.YtionognmgcabbaaGreat.Ratio
open Go.RowKit Go.Proofs.YtionognmgcabbaaGreat Go.Proofs.YtionognmgcabbaaGreat.Base Go.Proofs.YtionognmgcabbaaGreat.Mem Go.Proofs.YtionognmgcabbaaGreat.NatM Go.Proofs.YtionognmgcabbaaGreat.Nat32 Go.Proofs.YtionognmgcabbaaGreat.RatM Go.Proofs.YtionognmgcabbaaGreat.Blk
open Go.Proofs.YtionognmgcabbaaGreat.Inv (natOf natOf_eq len_pos Rat3 not_slice not_bool frz)
set_option linter.unusedVariables false
/-- the block g holds n ratios -/
structure RowR (w : World) (g n : Nat) (f : Nat → Rat) (cs : Array Value) : Prop where
  blk : Blk w g 87 cs
  size : cs.size = n * 3
  els : ∀ i, i < n → ∃ s A1 k1 c1 A2 k2 c2, cs[i * 3]? = some (.bool s) ∧ cs[i * 3 + 1]? = some (.slice A1 k1 c1) ∧ cs[i * 3 + 2]? = some (.slice A2 k2 c2) ∧ IsRt w (f i) (.agg #[.bool s, .slice A1 k1 c1, .slice A2 k2 c2])
theorem RowR.below {w w' : World} {g n : Nat} {f : Nat → Rat} {cs : Array Value} (h : RowR w g n f cs) (hb : Below w.heap.size w w') : RowR w' g n f cs :=
  ⟨h.blk.belowS hb, h.size, fun i hi => by
    obtain ⟨s, A1, k1, c1, A2, k2, c2, x0, x1, x2, hr⟩ := h.els i hi
    exact ⟨s, A1, k1, c1, A2, k2, c2, x0, x1, x2, hr.below hb⟩⟩
theorem RowR.rd {w : World} {g n : Nat} {f : Nat → Rat} {cs : Array Value} (h : RowR w g n f cs) : RdR w (some ⟨g, 0, none⟩) n f := fun h0 => by
  refine ⟨g, rfl, h.blk.lt, fun i hi => ?_⟩
  obtain ⟨s, A1, k1, c1, A2, k2, c2, x0, x1, x2, hr⟩ := h.els i hi
  exact ⟨s, A1, k1, c1, A2, k2, c2, h.blk.at _ x0, h.blk.at _ x1, h.blk.at _ x2, hr⟩
/-- three cells from o on are written -/
def put3o (w : World) (b o : Nat) (v0 v1 v2 : Value) : World := ((w.setCell ⟨b, o, none⟩ v0).setCell ⟨b, o + 1, none⟩ v1).setCell ⟨b, o + 2, none⟩ v2
theorem isRt_put3o {w : World} {q : Rat} {v : Value} {b o : Nat} {s : Bool} {A1 A2 : Option Addr} {k1 c1 k2 c2 : Nat} (h : IsRt w q v) {t : TypeId} {cs : Array Value} (K : Blk w b t cs) (x0 : cs[o]? = some (.bool s)) (x1 : cs[o + 1]? = some (.slice A1 k1 c1)) (x2 : cs[o + 2]? = some (.slice A2 k2 c2)) (v0 v1 v2 : Value) : IsRt (put3o w b o v0 v1 v2) q v := by
  obtain ⟨A, c, A', c', e, h1, h2⟩ := h
  have e0 : (put3o w b o v0 v1 v2).heap.size = w.heap.size := by simp [put3o]
  have K0 := K.setTo o v0 rfl
  have K1 := K0.setTo (o + 1) v1 rfl
  have y1 : (cs.setIfInBounds o v0)[o + 1]? = some (.slice A1 k1 c1) := by rw [Array.getElem?_setIfInBounds_ne (by omega)]; exact x1
  have y2 : ((cs.setIfInBounds o v0).setIfInBounds (o + 1) v1)[o + 2]? = some (.slice A2 k2 c2) := by rw [Array.getElem?_setIfInBounds_ne (by omega), Array.getElem?_setIfInBounds_ne (by omega)]; exact x2
  have key : ∀ {A : Option Addr} {xs : List Nat}, RdU w w.heap.size A xs → RdU (put3o w b o v0 v1 v2) (put3o w b o v0 v1 v2).heap.size A xs := fun {A xs} hr => by
    rw [e0]
    exact ((hr.non (K.at o x0) (not_bool _) _).non (K0.at (o + 1) y1) (not_slice _ _ _) _).non (K1.at (o + 2) y2) (not_slice _ _ _) _
  exact ⟨A, c, A', c', e, key h1, key h2⟩
/-- an element is set -/
theorem RowR.put {w : World} {g n k : Nat} {f : Nat → Rat} {cs : Array Value} {q : Rat} {t : Bool} {C1 C2 : Option Addr} {m1 l1 m2 l2 : Nat} (h : RowR w g n f cs) (hk : k < n) (hq : IsRt w q (.agg #[.bool t, .slice C1 m1 l1, .slice C2 m2 l2])) :
    ∃ cs', RowR (put3o w g (k * 3) (.bool t) (.slice C1 m1 l1) (.slice C2 m2 l2)) g n (fun i => if i = k then q else f i) cs' := by
  obtain ⟨s, A1, k1, c1, A2, k2, c2, x0, x1, x2, _⟩ := h.els k hk
  have hz := h.size
  refine ⟨((cs.setIfInBounds (k * 3) (.bool t)).setIfInBounds (k * 3 + 1) (.slice C1 m1 l1)).setIfInBounds (k * 3 + 2) (.slice C2 m2 l2), ?_, by simp [hz], fun i hi => ?_⟩
  · exact ((h.blk.setTo (k * 3) _ rfl).setTo (k * 3 + 1) _ rfl).setTo (k * 3 + 2) _ rfl
  · by_cases e : i = k
    · subst e
      refine ⟨t, C1, m1, l1, C2, m2, l2, ?_, ?_, ?_, ?_⟩
      · rw [Array.getElem?_setIfInBounds_ne (by omega), Array.getElem?_setIfInBounds_ne (by omega), Array.getElem?_setIfInBounds_self_of_lt (by omega)]
      · rw [Array.getElem?_setIfInBounds_ne (by omega), Array.getElem?_setIfInBounds_self_of_lt (by simp; omega)]
      · rw [Array.getElem?_setIfInBounds_self_of_lt (by simp; omega)]
      · rw [if_pos rfl]
        exact isRt_put3o hq h.blk x0 x1 x2 _ _ _
    · obtain ⟨s', B1, j1, e1, B2, j2, e2, y0, y1, y2, hr⟩ := h.els i hi
      refine ⟨s', B1, j1, e1, B2, j2, e2, ?_, ?_, ?_, ?_⟩
      · rw [Array.getElem?_setIfInBounds_ne (by omega), Array.getElem?_setIfInBounds_ne (by omega), Array.getElem?_setIfInBounds_ne (by omega)]; exact y0
      · rw [Array.getElem?_setIfInBounds_ne (by omega), Array.getElem?_setIfInBounds_ne (by omega), Array.getElem?_setIfInBounds_ne (by omega)]; exact y1
      · rw [Array.getElem?_setIfInBounds_ne (by omega), Array.getElem?_setIfInBounds_ne (by omega), Array.getElem?_setIfInBounds_ne (by omega)]; exact y2
      · rw [if_neg e]
        exact isRt_put3o hr h.blk x0 x1 x2 _ _ _
theorem put3o_below {w0 w : World} {b B o : Nat} (h : Below B w0 w) (hb : B ≤ b) (v0 v1 v2 : Value) : Below B w0 (put3o w b o v0 v1 v2) := ((h.setCell (p := ⟨b, o, none⟩) hb v0).setCell (p := ⟨b, o + 1, none⟩) hb v1).setCell (p := ⟨b, o + 2, none⟩) hb v2
/-- a list of ratios is made -/
theorem run_make3 (n : Nat) (hn : n ≤ 1048576) (w : World) : (Instr.makeSlice 89 (.int .i64 (n : Int)) (.int .i64 (n : Int))).run Tryz.prog w = .ok (.slice (some ⟨w.heap.size, 0, none⟩) n n) (w.alloc (.cells (madeCells (Value.agg #[.bool false, .slice none 0 0, .slice none 0 0]).cells (n * 3)) 87)) := by
  obtain ⟨i, hi, hzz⟩ := Option.map_eq_some_iff.1 infoR
  simp only [Prod.mk.injEq] at hzz
  obtain ⟨hz, hs, hb⟩ := hzz
  have hr := run_make (P := Tryz.prog) w 89 87 i _ Tryz.underlying89 hi hz .i64 .i64 n n (by omega) (Int.le_refl _) (by rw [hb]; omega) (by omega)
  simp only [Int.toNat_natCast, hs] at hr
  exact hr
end Go.Proofs.YtionognmgcabbaaGreat.Ratio
/- The program's ratios: the absolute value. -/
namespace Go.Proofs.YtionognmgcabbaaGreat.Ratio
open Go.RowKit Go.Proofs.YtionognmgcabbaaGreat Go.Proofs.YtionognmgcabbaaGreat.Base Go.Proofs.YtionognmgcabbaaGreat.Mem Go.Proofs.YtionognmgcabbaaGreat.NatM Go.Proofs.YtionognmgcabbaaGreat.Nat32 Go.Proofs.YtionognmgcabbaaGreat.RatM
open Go.Proofs.YtionognmgcabbaaGreat.Inv (natOf natOf_eq len_pos Rat3 not_slice not_bool frz)
set_option linter.unusedVariables false
theorem rtAbs (s : Bool) (k1 k2 c1 c2 : Nat) (A1 A2 : Option Addr) (w : World) : Calls Tryz.prog 156 #[.agg #[.bool s, .slice A1 k1 c1, .slice A2 k2 c2]] w fun e w' => e = .returned (.agg #[.bool false, .slice A1 k1 c1, .slice A2 k2 c2]) ∧ Below w.heap.size w w' := by
  go_enter Tryz.func156, Tryz.ntmps156
  go_wp2
  refine bodyPost_ret (v := .agg #[.bool false, .slice A1 k1 c1, .slice A2 k2 c2]) (by simp [results, Tryz.results156, go_sem]) rfl ⟨rfl, ?_⟩
  exact ((Below.refl _ _).alloc (Nat.le_refl _) _).alloc (by simp) _
def absR (q : Rat) : Rat := if q < 0 then -q else q
theorem absR_parts (q : Rat) : decide (absR q < 0) = false ∧ (absR q).num.natAbs = q.num.natAbs ∧ (absR q).den = q.den := by
  unfold absR
  split
  · rename_i h
    exact ⟨by rw [decide_eq_false_iff_not]; grind, by rw [Rat.neg_num, Int.natAbs_neg], by rw [Rat.neg_den]⟩
  · rename_i h
    exact ⟨by rw [decide_eq_false_iff_not]; exact h, rfl, rfl⟩
theorem szR_abs (q : Rat) : szR (absR q) = szR q := by
  obtain ⟨_, h2, h3⟩ := absR_parts q
  unfold szR
  rw [h2, h3]
theorem ratAbs {q : Rat} {v : Value} (w : World) (hv : IsRt w q v) : Calls Tryz.prog 156 #[v] w (RV (absR q) w) := by
  obtain ⟨A1, c1, A2, c2, rfl, h1, h2⟩ := hv
  refine (rtAbs (decide (q < 0)) (natL q.num.natAbs).length (natL q.den).length c1 c2 A1 A2 w).mono ?_
  rintro e w' ⟨rfl, hb⟩
  obtain ⟨g1, g2, g3⟩ := absR_parts q
  refine ⟨A1, c1, A2, c2, ?_, ?_, ?_, hb⟩
  · rw [g1, g2, g3]
  · rw [g2]; exact (h1.below hb (Nat.le_refl _)).more hb.size
  · rw [g3]; exact (h2.below hb (Nat.le_refl _)).more hb.size
end Go.Proofs.YtionognmgcabbaaGreat.Ratio
/- Plain mathematics: rationals over a common denominator, and how great they are. No program in sight. -/
set_option linter.unusedVariables false
namespace Go.Proofs.YtionognmgcabbaaGreat.RatM
/-- q is a number over D, between -b and b -/
def Ov (D b : Nat) (q : Rat) : Prop := (∃ x : Int, q * (D : Rat) = (x : Rat)) ∧ -(b : Rat) ≤ q ∧ q ≤ (b : Rat)
theorem cast_le {a b : Nat} (h : a ≤ b) : (a : Rat) ≤ (b : Rat) := by
  obtain ⟨k, rfl⟩ := Nat.le.dest h
  rw [Rat.natCast_add]
  have : (0 : Rat) ≤ (k : Rat) := Rat.natCast_nonneg
  grind
theorem Ov.more {D b c : Nat} {q : Rat} (h : Ov D b q) (hb : b ≤ c) : Ov D c q := by
  have := cast_le hb
  refine ⟨h.1, ?_, ?_⟩
  · have := h.2.1; grind
  · have := h.2.2; grind
theorem Ov.scale {D b E : Nat} {q : Rat} (h : Ov D b q) : Ov (D * E) b q := by
  obtain ⟨⟨x, hx⟩, h2⟩ := h
  refine ⟨⟨x * E, ?_⟩, h2⟩
  rw [Rat.natCast_mul, ← Rat.mul_assoc, hx, Rat.intCast_mul]
  rfl
theorem Ov.zero (D : Nat) : Ov D 0 0 := by
  refine ⟨⟨0, by rw [Rat.zero_mul]; rfl⟩, ?_, ?_⟩ <;> decide
theorem Ov.add {D b c : Nat} {q r : Rat} (h : Ov D b q) (g : Ov D c r) : Ov D (b + c) (q + r) := by
  obtain ⟨⟨x, hx⟩, h2, h3⟩ := h
  obtain ⟨⟨y, hy⟩, g2, g3⟩ := g
  refine ⟨⟨x + y, ?_⟩, ?_, ?_⟩
  · rw [Rat.add_mul, hx, hy, Rat.intCast_add]
  · rw [Rat.natCast_add]; grind
  · rw [Rat.natCast_add]; grind
theorem Ov.neg {D b : Nat} {q : Rat} (h : Ov D b q) : Ov D b (-q) := by
  obtain ⟨⟨x, hx⟩, h2, h3⟩ := h
  refine ⟨⟨-x, ?_⟩, ?_, ?_⟩
  · rw [Rat.neg_mul, hx, Rat.intCast_neg]
  · grind
  · grind
theorem Ov.sub {D b c : Nat} {q r : Rat} (h : Ov D b q) (g : Ov D c r) : Ov D (b + c) (q - r) := by
  rw [Rat.sub_eq_add_neg]; exact h.add g.neg
theorem mul_bound {a b x y : Rat} (h1 : -a ≤ x) (h2 : x ≤ a) (g1 : -b ≤ y) (g2 : y ≤ b) (ha : 0 ≤ a) (hb : 0 ≤ b) : x * y ≤ a * b := by
  by_cases hx : 0 ≤ x
  · have e1 := Rat.mul_le_mul_of_nonneg_left (c := x) g2 hx
    have e2 := Rat.mul_le_mul_of_nonneg_right (c := b) h2 hb
    grind
  · have e1 := Rat.mul_le_mul_of_nonneg_left (c := -x) (show -y ≤ b by grind) (by grind)
    have e2 := Rat.mul_le_mul_of_nonneg_right (c := b) (show -x ≤ a by grind) hb
    grind
theorem Ov.mul {D E b c : Nat} {q r : Rat} (h : Ov D b q) (g : Ov E c r) : Ov (D * E) (b * c) (q * r) := by
  obtain ⟨⟨x, hx⟩, h2, h3⟩ := h
  obtain ⟨⟨y, hy⟩, g2, g3⟩ := g
  have hb : (0 : Rat) ≤ (b : Rat) := Rat.natCast_nonneg
  have hc : (0 : Rat) ≤ (c : Rat) := Rat.natCast_nonneg
  refine ⟨⟨x * y, ?_⟩, ?_, ?_⟩
  · rw [Rat.natCast_mul, Rat.intCast_mul, ← hx, ← hy]; grind
  · have := mul_bound (x := -q) (y := r) (a := b) (b := c) (by grind) (by grind) g2 g3 hb hc
    rw [Rat.natCast_mul]; grind
  · have := mul_bound h2 h3 g2 g3 hb hc
    rw [Rat.natCast_mul]; grind
theorem Ov.abs {D b : Nat} {q : Rat} (h : Ov D b q) : Ov D b (if q < 0 then -q else q) := by
  split
  · exact h.neg
  · exact h
theorem num_of (q : Rat) : q * (q.den : Rat) = (q.num : Rat) := by
  have h := Rat.mkRat_self q
  rw [Rat.mkRat_eq_div] at h
  have hd : (q.den : Rat) ≠ 0 := natCast_ne q.den_nz
  have e : q * (q.den : Rat) = ((q.num : Rat) / (q.den : Rat)) * (q.den : Rat) := by rw [h]
  rw [e]
  exact Rat.div_mul_cancel hd
/-- the denominator is a divisor, the numerator is not greater than that of the bound -/
theorem Ov.parts {D b : Nat} {q : Rat} (hD : 0 < D) (h : Ov D b q) : q.den ≤ D ∧ q.num.natAbs ≤ b * D := by
  obtain ⟨⟨x, hx⟩, h2, h3⟩ := h
  have hqd : (q.den : Rat) ≠ 0 := natCast_ne q.den_nz
  have e1 : q * (q.den : Rat) = (q.num : Rat) := num_of q
  have e2 : (q.num : Rat) * (D : Rat) = (x : Rat) * (q.den : Rat) := by rw [← e1, ← hx]; grind
  have e3 : q.num * (D : Int) = x * (q.den : Int) := by
    have : ((q.num * (D : Int) : Int) : Rat) = ((x * (q.den : Int) : Int) : Rat) := by
      rw [Rat.intCast_mul, Rat.intCast_mul]; exact e2
    exact Rat.intCast_inj.1 this
  have e4 : q.num.natAbs * D = x.natAbs * q.den := by
    have := congrArg Int.natAbs e3
    rw [Int.natAbs_mul, Int.natAbs_mul, Int.natAbs_natCast, Int.natAbs_natCast] at this
    exact this
  have hdvd : q.den ∣ D := by
    have h1 : q.den ∣ q.num.natAbs * D := by rw [e4]; exact Nat.dvd_mul_left _ _
    exact Nat.Coprime.dvd_of_dvd_mul_left (by rw [Nat.coprime_comm]; exact q.reduced) h1
  have hle := Nat.le_of_dvd hD hdvd
  refine ⟨hle, ?_⟩
  have hb : (q.num.natAbs : Rat) ≤ (b : Rat) * (q.den : Rat) := by
    have hd0 : (0 : Rat) ≤ (q.den : Rat) := Rat.natCast_nonneg
    have k1 := Rat.mul_le_mul_of_nonneg_right h3 hd0
    have k2 := Rat.mul_le_mul_of_nonneg_right h2 hd0
    rw [e1] at k1 k2
    rcases Int.natAbs_eq q.num with e | e
    · have : (q.num : Rat) = (q.num.natAbs : Rat) := by rw [e]; simp; rfl
      grind
    · have : (q.num : Rat) = -(q.num.natAbs : Rat) := by rw [e]; simp; rfl
      grind
  have hb2 : ((q.num.natAbs : Nat) : Rat) ≤ ((b * q.den : Nat) : Rat) := by rw [Rat.natCast_mul]; exact hb
  have := Rat.natCast_le_natCast.1 hb2
  exact Nat.le_trans this (Nat.mul_le_mul_left b hle)
end Go.Proofs.YtionognmgcabbaaGreat.RatM
/- The number that rows make of a state: both sides. -/
namespace Go.Proofs.YtionognmgcabbaaGreat.RowN
open Go.RowKit Go.Proofs.YtionognmgcabbaaGreat Go.Proofs.YtionognmgcabbaaGreat.Base Go.Proofs.YtionognmgcabbaaGreat.Mem Go.Proofs.YtionognmgcabbaaGreat.Bits
set_option linter.unusedVariables false
/-- what the first n rows make of x -/
def rowK (xs : List Int) (x : Nat) : Nat → Nat
  | 0 => 0
  | n + 1 => rowK xs x n ||| (PopM.par ((xs.getD n 0).toNat &&& x) <<< n)
theorem or_fin : ∀ (a : Fin 8) (p : Fin 2) (i : Fin 3), bits .or .i64 (a.val : Int) (wrap64 ((p.val : Int) * (2 : Int) ^ i.val)) = ((a.val ||| (p.val <<< i.val) : Nat) : Int) := by decide +kernel
theorem or_lt : ∀ (i : Fin 3) (a : Fin 8) (p : Fin 2), a.val < 2 ^ i.val → a.val ||| (p.val <<< i.val) < 2 ^ (i.val + 1) := by decide +kernel
theorem rowK_lt (xs : List Int) (x : Nat) : ∀ n, n ≤ 3 → rowK xs x n < 2 ^ n
  | 0, _ => Nat.lt_succ_self 0
  | n + 1, h => by
    have ih := rowK_lt xs x n (by omega)
    have hp : 2 ^ n ≤ 2 ^ 3 := Nat.pow_le_pow_right (by decide) (by omega)
    exact or_lt ⟨n, by omega⟩ ⟨rowK xs x n, by omega⟩ ⟨PopM.par ((xs.getD n 0).toNat &&& x), PopM.par_lt _⟩ ih
theorem par_step : ∀ m : Fin 16, 0 < m.val → m.val &&& (m.val - 1) < m.val ∧ PopM.par m.val = 1 - PopM.par (m.val &&& (m.val - 1)) := by decide +kernel
theorem and_fin : ∀ (a b : Fin 16), bits .and .i64 (a.val : Int) (b.val : Int) = ((a.val &&& b.val : Nat) : Int) := by decide +kernel
theorem and16 {a b : Nat} (ha : a < 16) (hb : b < 16) : bits .and .i64 (a : Int) (b : Int) = ((a &&& b : Nat) : Int) := and_fin ⟨a, ha⟩ ⟨b, hb⟩
theorem and_lt {a b : Nat} (ha : a < 16) : a &&& b < 16 := Nat.lt_of_le_of_lt Nat.and_le_left ha
set_option maxHeartbeats 1000000 in
theorem parS_any (x m : Nat) (hx : x < 16) (hm : m < 16) (w : World) : Calls Tryz.prog 165 #[.int .i64 (x : Int), .int .i64 (m : Int)] w fun e w' => e = .returned (.int .i64 (PopM.par (x &&& m) : Nat)) ∧ w = w' := by
  have hA := and16 hx hm
  have hAl := and_lt (b := m) hx
  obtain ⟨R, hR⟩ : ∃ R, R = x &&& m := ⟨_, rfl⟩
  rw [← hR] at hA hAl ⊢
  clear hR
  go_enter Tryz.func165, Tryz.ntmps165
  go_wp2
  go_loopw [5, 6] (fun p r wr => ∃ a b : Nat, p = .int .i64 (a : Int) ∧ r = .int .i64 (b : Int) ∧ a < 2 ∧ b < 16 ∧ Hid ((a + PopM.par b) % 2 = PopM.par R) ∧ wr = w) (fun _ r _ => (intOf r).toNat)
  case atStart => exact ⟨0, R, rfl, rfl, by omega, hAl, Lib.hid (by have := PopM.par_lt R; omega), rfl⟩
  case round =>
    obtain ⟨a, b, rfl, rfl, ha, hb, hpar, rfl⟩ := hrel
    by_cases h0 : 0 < b
    · obtain ⟨s1, s2⟩ := par_step ⟨b, hb⟩ h0
      have s1 : b &&& (b - 1) < b := s1
      have s2 : PopM.par b = 1 - PopM.par (b &&& (b - 1)) := s2
      have e1 : bits .and .i64 (b : Int) ((b : Int) - 1) = ((b &&& (b - 1) : Nat) : Int) := by
        have hb1 : ((b - 1 : Nat) : Int) = (b : Int) - 1 := by omega
        rw [← hb1]; exact and16 hb (by omega)
      have HP : Hid ((1 - a + PopM.par (b &&& (b - 1))) % 2 = PopM.par R) := Lib.hid (by
        have := hpar.out
        have := PopM.par_lt (b &&& (b - 1))
        omega)
      have ea : (1 : Int) - (a : Int) = ((1 - a : Nat) : Int) := by omega
      clear hpar s2
      generalize b &&& (b - 1) = b' at *
      go_wp2
      go_roundw
      case rel => exact ⟨1 - a, b', by first | rfl | exact congrArg _ ea | (rw [ea]), by first | rfl | rw [e1], by omega, by omega, HP, by first | trivial | rfl⟩
      case measure => first | (simp [intOf]; omega) | (rw [e1]; simp [intOf]; omega)
    · obtain rfl : b = 0 := by omega
      have HE : Hid (PopM.par R = a) := Lib.hid (by have := hpar.out; rw [show PopM.par 0 = 0 by decide] at this; omega)
      clear hpar
      go_wp2
      go_ret
      exact ⟨ret_int (by rw [HE.out]), rfl⟩
set_option maxHeartbeats 1000000 in
theorem apply_any {A : Option Addr} {c B x : Nat} {xs : List Int} (w : World) (hx : RdI w B A xs) (hl : xs.length ≤ 3) (hr : ∀ i, i < xs.length → 0 ≤ xs.getD i 0 ∧ xs.getD i 0 ≤ 15) (hx16 : x < 16) : Calls Tryz.prog 169 #[.slice A xs.length c, .int .i64 (x : Int)] w fun e w' => e = .returned (.int .i64 ((rowK xs x xs.length : Nat) : Int)) ∧ w = w' := by
  have HX := Lib.hid hx
  clear hx
  go_enter Tryz.func169, Tryz.ntmps169
  go_wp2
  go_loopw [5, 10] (fun p iv wr => ∃ i : Nat, iv = .int .i64 (i : Int) ∧ i ≤ xs.length ∧ p = .int .i64 ((rowK xs x i : Nat) : Int) ∧ wr = w) (fun _ iv _ => xs.length - (intOf iv).toNat)
  case atStart => exact ⟨0, rfl, Nat.zero_le _, rfl, rfl⟩
  case round =>
    obtain ⟨i, rfl, hi, rfl, rfl⟩ := hrel
    by_cases hlt : i < xs.length
    · obtain ⟨b, off, rfl, _, hc⟩ := HX.out (by omega)
      have g := hc i hlt
      obtain ⟨r1, r2⟩ := hr i hlt
      have HK : Hid (rowK xs x (i + 1) = rowK xs x i ||| (PopM.par ((xs.getD i 0).toNat &&& x) <<< i)) := Lib.hid rfl
      have hk := rowK_lt xs x i (by omega)
      have hp8 : 2 ^ i ≤ 2 ^ 3 := Nat.pow_le_pow_right (by decide) (by omega)
      clear hc hr
      obtain ⟨k', hk'⟩ : ∃ k', k' = rowK xs x (i + 1) := ⟨_, rfl⟩
      rw [← hk'] at HK
      have HK2 := Lib.hid hk'
      clear hk'
      generalize rowK xs x i = k at *
      generalize xs.getD i 0 = y at *
      obtain ⟨Y, rfl⟩ : ∃ Y : Nat, y = (Y : Int) := ⟨y.toNat, by omega⟩
      rw [Int.toNat_natCast] at HK
      have hA := and16 (show Y < 16 by omega) hx16
      have hal := and_lt (b := x) (show Y < 16 by omega)
      have hpl := PopM.par_lt (Y &&& x)
      have hor := or_fin ⟨k, by omega⟩ ⟨PopM.par (Y &&& x), hpl⟩ ⟨i, by omega⟩
      replace hor : bits .or .i64 (k : Int) (wrap64 ((PopM.par (Y &&& x) : Int) * (2 : Int) ^ i)) = ((k ||| (PopM.par (Y &&& x) <<< i) : Nat) : Int) := hor
      rw [← HK.out] at hor
      have HPA := Lib.hid (fun W => parity_any (Y &&& x) (by omega) W)
      go_wp2_with fail
      refine (HPA.out _).mono ?_
      rintro e w1 ⟨rfl, rfl⟩
      go_wp2
      go_roundw
      case rel => exact ⟨i + 1, by simp, hlt, by rw [← HK2.out], by first | trivial | rfl⟩
      case measure => simp [intOf]; omega
    · obtain rfl : i = xs.length := by omega
      go_wp2
      go_ret
      exact ⟨rfl, rfl⟩
end Go.Proofs.YtionognmgcabbaaGreat.RowN
/- Plain: what rows make of a source. -/
namespace Go.Proofs.YtionognmgcabbaaGreat.ExtM
open Go.RowKit Go.Proofs.YtionognmgcabbaaGreat Go.Proofs.YtionognmgcabbaaGreat.Base Go.Proofs.YtionognmgcabbaaGreat.RatM Go.Proofs.YtionognmgcabbaaGreat.GaussM Go.Proofs.YtionognmgcabbaaGreat.ChM Go.Proofs.YtionognmgcabbaaGreat.RowN
set_option linter.unusedVariables false
/-- the chances of the first n numbers of a source that rows make y of, one after another -/
def sel (xs fs : List Int) (y : Nat) : Nat → List Rat
  | 0 => []
  | n + 1 => if rowK xs n xs.length = y then sel xs fs y n ++ [fq fs n] else sel xs fs y n
/-- their sum -/
def exQ (xs fs : List Int) (n y : Nat) : Rat := sumR n (fun x => if rowK xs x xs.length = y then fq fs x else 0)
def lsum (l : List Rat) : Rat := sumR l.length (fun i => l.getD i 0)
theorem lsum_snoc (l : List Rat) (q : Rat) : lsum (l ++ [q]) = lsum l + q := by
  unfold lsum
  rw [List.length_append, List.length_singleton, sumR]
  have e1 : (l ++ [q]).getD l.length 0 = q := by simp [List.getD_eq_getElem?_getD]
  have e2 : sumR l.length (fun i => (l ++ [q]).getD i 0) = sumR l.length (fun i => l.getD i 0) := sumR_congr fun j hj => by
    simp only [List.getD_eq_getElem?_getD]
    rw [List.getElem?_append_left hj]
  rw [e2]
  show _ + (l ++ [q]).getD l.length 0 = _
  rw [e1]
theorem sel_sum (xs fs : List Int) (y : Nat) : ∀ n, lsum (sel xs fs y n) = exQ xs fs n y
  | 0 => rfl
  | n + 1 => by
    have ih := sel_sum xs fs y n
    show lsum (sel xs fs y (n + 1)) = sumR n _ + _
    unfold sel
    split
    · rename_i h
      rw [lsum_snoc, ih]
      simp only [h, if_true]
      rfl
    · rename_i h
      rw [ih]
      simp only [h, if_false]
      rw [exQ]; grind
theorem sel_len (xs fs : List Int) (y : Nat) : ∀ n, (sel xs fs y n).length ≤ n
  | 0 => Nat.le_refl _
  | n + 1 => by
    have ih := sel_len xs fs y n
    unfold sel
    split
    · rw [List.length_append, List.length_singleton]; omega
    · omega
theorem sel_hit {xs fs : List Int} {y n : Nat} (h : rowK xs n xs.length = y) : sel xs fs y (n + 1) = sel xs fs y n ++ [fq fs n] := by rw [sel, if_pos h]
theorem sel_miss {xs fs : List Int} {y n : Nat} (h : rowK xs n xs.length ≠ y) : sel xs fs y (n + 1) = sel xs fs y n := by rw [sel, if_neg h]
theorem exQ_hit {xs fs : List Int} {y n : Nat} (h : rowK xs n xs.length = y) : exQ xs fs (n + 1) y = exQ xs fs n y + fq fs n := by
  show sumR n _ + _ = _
  simp only [h, if_true]; rfl
theorem exQ_miss {xs fs : List Int} {y n : Nat} (h : rowK xs n xs.length ≠ y) : exQ xs fs (n + 1) y = exQ xs fs n y := by
  show sumR n _ + _ = _
  simp only [h, if_false]; rw [exQ]; grind
/-- sizes of the partial sums -/
theorem dgb_exQ {xs fs : List Int} {n y : Nat} (hv : AllVF fs n) (hn : n ≤ 16) : Dg (NatM.B32 ^ 49) (exQ xs fs n y) := by
  have h := Ratio.dgb_sum (n := n) (m := 2) (f := fun x => if rowK xs x xs.length = y then fq fs x else 0) (fun i hi => by
    show Dg _ (if _ then _ else _)
    split
    · exact Ratio.dgb_vf (hv i hi)
    · exact Ratio.dgb_zero (by omega))
  exact Ratio.dgb_more h (by omega)
theorem AllVF.less {fs : List Int} {n m : Nat} (h : AllVF fs n) (hm : m ≤ n) : AllVF fs m := fun i hi => h i (by omega)
end Go.Proofs.YtionognmgcabbaaGreat.ExtM
/- Plain: the distance of chances; sizes over a common denominator. -/
namespace Go.Proofs.YtionognmgcabbaaGreat.Ratio
open Go.RowKit Go.Proofs.YtionognmgcabbaaGreat Go.Proofs.YtionognmgcabbaaGreat.Base Go.Proofs.YtionognmgcabbaaGreat.Mem Go.Proofs.YtionognmgcabbaaGreat.NatM Go.Proofs.YtionognmgcabbaaGreat.Nat32 Go.Proofs.YtionognmgcabbaaGreat.RatM Go.Proofs.YtionognmgcabbaaGreat.GaussM Go.Proofs.YtionognmgcabbaaGreat.ChM
set_option linter.unusedVariables false
theorem qf_half : qf 1 2 = (2 : Rat)⁻¹ := by decide +kernel
/-- the distance of lists -/
def disR (n : Nat) (f g : Nat → Rat) : Rat := sumR n (fun i => absR (f i - g i)) * (2 : Rat)⁻¹
theorem disR_congr {n : Nat} {f f' g g' : Nat → Rat} (h1 : ∀ i, i < n → f i = f' i) (h2 : ∀ i, i < n → g i = g' i) : disR n f g = disR n f' g' := by
  unfold disR
  rw [sumR_congr fun j hj => by rw [h1 j hj, h2 j hj]]
theorem ov_abs {D b : Nat} {q : Rat} (h : Ov D b q) : Ov D b (absR q) := h.abs
theorem ov_sum {D b n : Nat} {f : Nat → Rat} (h : ∀ i, i < n → Ov D b (f i)) : Ov D (n * b) (sumR n f) := by
  induction n with
  | zero => rw [Nat.zero_mul]; exact Ov.zero D
  | succ n ih =>
    rw [Nat.add_mul, Nat.one_mul]
    exact (ih fun i hi => h i (by omega)).add (h n (by omega))
/-- how great such a number is -/
theorem ov_dg {D b m : Nat} {q : Rat} (hD : 0 < D) (h : Ov D b q) (hm : D < B32 ^ m) (hm2 : b * D < B32 ^ m) : Dg (B32 ^ m) q := by
  obtain ⟨h1, h2⟩ := h.parts hD
  exact ⟨by omega, by omega⟩
theorem ov_sz {D b m : Nat} {q : Rat} (hD : 0 < D) (hb : 0 < b) (h : Ov D b q) (hm : b * D < B32 ^ m) : szR q ≤ 2 * m := by
  refine dgb_sz (ov_dg hD h ?_ hm)
  exact Nat.lt_of_le_of_lt (Nat.le_mul_of_pos_left D hb) hm
/-- the product of the denominators -/
def denP (fs : List Int) : Nat → Nat
  | 0 => 1
  | n + 1 => denP fs n * (fs.getD (2 * n + 1) 0).toNat
theorem denP_pos {fs : List Int} : ∀ {n : Nat}, AllVF fs n → 0 < denP fs n
  | 0, _ => Nat.one_pos
  | n + 1, h => Nat.mul_pos (denP_pos fun i hi => h i (by omega)) (by have := (h n (by omega)).1; omega)
theorem denP_le {fs : List Int} : ∀ {n : Nat}, AllVF fs n → denP fs n ≤ 1000000000000000000 ^ n
  | 0, _ => Nat.le_refl _
  | n + 1, h => by
    rw [Nat.pow_succ]
    refine Nat.mul_le_mul (denP_le fun i hi => h i (by omega)) ?_
    have := (h n (by omega)).2.1
    omega
theorem denP_dvd {fs : List Int} : ∀ {n i : Nat}, i < n → (fs.getD (2 * i + 1) 0).toNat ∣ denP fs n
  | 0, _, h => absurd h (Nat.not_lt_zero _)
  | n + 1, i, h => by
    rcases Nat.lt_or_ge i n with h1 | h1
    · exact Nat.dvd_trans (denP_dvd h1) (Nat.dvd_mul_right _ _)
    · obtain rfl : i = n := by omega
      exact Nat.dvd_mul_left _ _
theorem ov_of {q : Rat} {D b : Nat} (hd : q.den ∣ D) (hn : q.num.natAbs ≤ b) : Ov D b q := by
  obtain ⟨k, rfl⟩ := hd
  have e1 : q * (q.den : Rat) = (q.num : Rat) := num_of q
  have h1 : (1 : Rat) ≤ (q.den : Rat) := by
    have := cast_le (show 1 ≤ q.den from q.den_pos)
    exact this
  have hb0 : (0 : Rat) ≤ (b : Rat) := Rat.natCast_nonneg
  have hb : -(b : Rat) ≤ (q.num : Rat) ∧ (q.num : Rat) ≤ (b : Rat) := by
    have h2 := cast_le hn
    have h0 : (0 : Rat) ≤ ((q.num.natAbs : Nat) : Rat) := Rat.natCast_nonneg
    rcases Int.natAbs_eq q.num with e | e
    · have : (q.num : Rat) = (q.num.natAbs : Rat) := by rw [e]; simp; rfl
      exact ⟨by grind, by grind⟩
    · have : (q.num : Rat) = -(q.num.natAbs : Rat) := by rw [e]; simp; rfl
      exact ⟨by grind, by grind⟩
  refine ⟨⟨q.num * (k : Int), ?_⟩, ?_, ?_⟩
  · rw [Rat.natCast_mul, ← Rat.mul_assoc, e1, Rat.intCast_mul]; rfl
  · by_cases h : 0 ≤ q
    · grind
    · have h2 := Rat.mul_le_mul_of_nonneg_left (c := -q) h1 (by grind)
      grind
  · by_cases h : 0 ≤ q
    · have h2 := Rat.mul_le_mul_of_nonneg_left (c := q) h1 h
      grind
    · grind
theorem ov_vf {n d : Int} {D : Nat} (h : VF n d) (hd : d.toNat ∣ D) : Ov D 1000000000000000000 (qf n d) := by
  obtain ⟨g1, g2, _⟩ := h.num
  refine ov_of ?_ ?_
  · rw [show (qf n d).den = d.toNat by omega]; exact hd
  · rw [g1]; have := h.2.2.1; have := h.2.2.2.1; omega
theorem ov_fq {fs : List Int} {n i : Nat} (h : AllVF fs n) (hi : i < n) : Ov (denP fs n) 1000000000000000000 (fq fs i) := ov_vf (h i hi) (denP_dvd hi)
end Go.Proofs.YtionognmgcabbaaGreat.Ratio
/- The program: the distance of lists. -/
namespace Go.Proofs.YtionognmgcabbaaGreat.Ratio
open Go.RowKit Go.Proofs.YtionognmgcabbaaGreat Go.Proofs.YtionognmgcabbaaGreat.Base Go.Proofs.YtionognmgcabbaaGreat.Mem Go.Proofs.YtionognmgcabbaaGreat.NatM Go.Proofs.YtionognmgcabbaaGreat.Nat32 Go.Proofs.YtionognmgcabbaaGreat.RatM Go.Proofs.YtionognmgcabbaaGreat.Blk Go.Proofs.YtionognmgcabbaaGreat.MemF Go.Proofs.YtionognmgcabbaaGreat.ChM Go.Proofs.YtionognmgcabbaaGreat.GaussM
open Go.Proofs.YtionognmgcabbaaGreat.Inv (natOf natOf_eq len_pos Rat3 not_slice not_bool frz)
set_option linter.unusedVariables false
theorem RV.put {w wq : World} {q : Rat} {b : Nat} {t : Bool} {C1 C2 : Option Addr} {m1 l1 m2 l2 : Nat} {s : Bool} {A1 A2 : Option Addr} {k1 c1 k2 c2 : Nat} (h : IsRt wq q (.agg #[.bool t, .slice C1 m1 l1, .slice C2 m2 l2])) (K : Blk wq b 87 #[.bool s, .slice A1 k1 c1, .slice A2 k2 c2]) (hb : Below w.heap.size w wq) (hB : w.heap.size ≤ b) :
    RV q w (.returned (.agg #[.bool t, .slice C1 m1 l1, .slice C2 m2 l2])) (put3 wq b (.bool t) (.slice C1 m1 l1) (.slice C2 m2 l2)) := (h.put3 K _ _ _).ret (put3_below hb hB _ _ _)
/-- the sum of the differences so far -/
def dsum (f g : Nat → Rat) (i : Nat) : Rat := sumR i (fun j => absR (f j - g j))
/-- the sizes of all that is reckoned -/
def DisOk (n : Nat) (f g : Nat → Rat) : Prop := (∀ i, i < n → szR (f i) ≤ 200000 ∧ szR (g i) ≤ 200000 ∧ szR (f i - g i) ≤ 200000) ∧ ∀ i, i ≤ n → szR (dsum f g i) ≤ 200000
def DisRel (f g : Nat → Rat) (n g3 : Nat) (w : World) (iv : Value) (wr : World) : Prop :=
  ∃ (i : Nat) (s : Bool) (A1 : Option Addr) (k1 c1 : Nat) (A2 : Option Addr) (k2 c2 : Nat), iv = .int .i64 (i : Int) ∧ i ≤ n ∧ Hid (Blk wr g3 87 #[.bool s, .slice A1 k1 c1, .slice A2 k2 c2]) ∧ Hid (IsRt wr (dsum f g i) (.agg #[.bool s, .slice A1 k1 c1, .slice A2 k2 c2])) ∧ Hid (Blk wr w.heap.size 87 #[.bool false, .slice none 0 0, .slice none 0 0]) ∧ Hid (Below w.heap.size w wr)
set_option maxHeartbeats 1000000 in
set_option maxRecDepth 100000 in
theorem disI_any {A A' : Option Addr} {c c' n : Nat} {f g : Nat → Rat} (w : World) (hx : RdR w A n f) (hy : RdR w A' n g) (hn : n ≤ 1000) (hz : DisOk n f g) : Calls Tryz.prog 106 #[.slice A n c, .slice A' n c'] w (RV (disR n f g) w) := by
  have HX := Lib.hid hx
  have HY := Lib.hid hy
  have HZ0 := Lib.hid hz
  have KR0 : Hid (Blk (w.alloc (.cells #[.bool false, .slice none 0 0, .slice none 0 0] 87)) w.heap.size 87 #[.bool false, .slice none 0 0, .slice none 0 0]) := Lib.hid (Blk.new w _ _)
  have HB0 : Hid (Below w.heap.size w (w.alloc (.cells #[.bool false, .slice none 0 0, .slice none 0 0] 87))) := Lib.hid ((Below.refl _ _).alloc (Nat.le_refl _) _)
  clear hx hy hz
  go_enter Tryz.func106, Tryz.ntmps106
  go_wp2_with fail
  refine (whole_rt 0 0 (by decide) ⟨rfl, rfl, by decide⟩ _).mono ?_
  rintro e w2 ⟨v, rfl, hv0, hb2⟩
  obtain ⟨s, A1, k1, c1, A2, k2, c2, rfl, hv⟩ := hv0.open
  have HB2 := Lib.hid (Base.Below.nextA HB0.out hb2)
  have KR2 := Lib.hid (KR0.out.belowS hb2)
  have HI0 := Lib.hid hv
  clear hb2 hv hv0 KR0 HB0
  go_upto_region 2 with (fail)
  obtain ⟨W3, hW3⟩ : ∃ W3, W3 = w2.alloc (.cells #[.bool s, .slice A1 k1 c1, .slice A2 k2 c2] 87) := ⟨_, rfl⟩
  rw [← hW3]
  obtain ⟨g3, hg3⟩ : ∃ g3, g3 = w2.heap.size := ⟨_, rfl⟩
  rw [← hg3]
  have hlt3 : w.heap.size < g3 := by rw [hg3]; exact KR2.out.lt
  have H0 : Hid (DisRel f g n g3 w (.int .i64 0) W3) := Lib.hid (by
    have hb3 : Below w2.heap.size w2 W3 := by rw [hW3]; exact (Below.refl _ _).alloc (Nat.le_refl _) _
    exact ⟨0, s, A1, k1, c1, A2, k2, c2, rfl, Nat.zero_le _, Lib.hid (by rw [hW3, hg3]; exact Blk.new w2 _ _), Lib.hid (HI0.out.below hb3), Lib.hid (KR2.out.belowS hb3), Lib.hid (Base.Below.nextA HB2.out hb3)⟩)
  clear hW3 hg3 HI0 HB2 KR2
  go_wp2
  go_loopw [11] (fun iv wr => DisRel f g n g3 w iv wr) (fun iv _ => n - (intOf iv).toNat)
  case atStart => exact H0.out
  case round =>
    obtain ⟨i, s, A1, k1, c1, A2, k2, c2, rfl, hi, K3r, HIr, KRr, HB⟩ := hrel
    clear H0
    by_cases hlt : i < n
    · obtain ⟨ga, s2, B1, j1, e1, B2, j2, e2, rfl, hgl, y0, y1, y2, hpj⟩ := (HX.out.below HB.out).at hlt
      obtain ⟨gb, s4, D1, i1, f1, D2, i2, f2, rfl, hgl2, u0, u1, u2, hpk⟩ := (HY.out.below HB.out).at hlt
      have HSM : Hid (dsum f g (i + 1) = dsum f g i + absR (f i - g i)) := Lib.hid rfl
      have HZ : Hid (szR (f i) ≤ 200000 ∧ szR (g i) ≤ 200000 ∧ szR (dsum f g i) ≤ 200000 ∧ szR (absR (f i - g i)) ≤ 200000) := Lib.hid (by
        obtain ⟨h1, h2, h3⟩ := HZ0.out.1 i hlt
        exact ⟨h1, h2, HZ0.out.2 i hi, by rw [szR_abs]; exact h3⟩)
      generalize f i = x at *
      generalize g i = y at *
      generalize hs0 : dsum f g i = s0 at *
      have HS0 := Lib.hid hs0
      clear hs0
      go_upto_region 5 with (fail)
      obtain ⟨W1, hW1⟩ : ∃ W1, W1 = wr.alloc (.cells #[.bool s2, .slice B1 j1 e1, .slice B2 j2 e2] 87) := ⟨_, rfl⟩
      rw [← hW1]
      obtain ⟨g5, hg5⟩ : ∃ g5, g5 = wr.heap.size := ⟨_, rfl⟩
      rw [← hg5]
      have KF : Hid (Blk W1 g5 87 #[.bool s2, .slice B1 j1 e1, .slice B2 j2 e2]) := Lib.hid (by rw [hW1, hg5]; exact Blk.new wr _ _)
      have hbw : Below wr.heap.size wr W1 := by rw [hW1]; exact (Below.refl _ _).alloc (Nat.le_refl _) _
      have K3 := Lib.hid (K3r.out.belowS hbw)
      have KR := Lib.hid (KRr.out.belowS hbw)
      have HS := Lib.hid (HIr.out.below hbw)
      have HJ := Lib.hid (hpj.below hbw)
      have HK := Lib.hid (hpk.below hbw)
      have HB1 := Lib.hid (Base.Below.nextA HB.out hbw)
      have HV : Hid (∀ W, Below W1.heap.size W1 W → W.cell? ⟨gb, i * 3, none⟩ = some (.bool s4) ∧ W.cell? ⟨gb, i * 3 + 1, none⟩ = some (.slice D1 i1 f1) ∧ W.cell? ⟨gb, i * 3 + 2, none⟩ = some (.slice D2 i2 f2)) := Lib.hid fun W hW => by
        have hb := Base.Below.nextA hbw hW
        exact ⟨(hb.cell (p := ⟨gb, i * 3, none⟩) hgl2).trans u0, (hb.cell (p := ⟨gb, i * 3 + 1, none⟩) hgl2).trans u1, (hb.cell (p := ⟨gb, i * 3 + 2, none⟩) hgl2).trans u2⟩
      clear hW1 hg5 hbw K3r KRr HIr hpj hpk HB y0 y1 y2 u0 u1 u2 hgl hgl2
      refine Rel.wp_region_rel 9 (by kernel_rfl) (by kernel_rfl) (fun F hF => ?_)
      simp only [List.take_succ_cons, List.take_zero, List.drop_succ_cons, List.drop_zero, Rel.putL] at hF ⊢
      have HF := Lib.hid hF
      clear hF
      have uv := @Rel.upon_value Tryz.prog
      have ue := @Rel.upon_enter Tryz.prog
      apply Rel.rel_pure
      apply Exists.intro
      refine ⟨fun vs wq hq hdp R hR => ?_, ?_⟩
      · (rw [HF.out, Rel.stepAt_eq]; clear hdp; have x0 := (K3.out.belowS hq).at 0 (v := .bool s) rfl; have x1 := (K3.out.belowS hq).at 1 (v := .slice A1 k1 c1) rfl; have x2 := (K3.out.belowS hq).at 2 (v := .slice A2 k2 c2) rfl; go_simp; exact hR)
      apply Rel.rel_pure
      apply Exists.intro
      refine ⟨fun vs wq hq hdp R hR => ?_, ?_⟩
      · (rw [HF.out, Rel.stepAt_eq]; clear hdp; have y0 := (KF.out.belowS hq).at 0 (v := .bool s2) rfl; have y1 := (KF.out.belowS hq).at 1 (v := .slice B1 j1 e1) rfl; have y2 := (KF.out.belowS hq).at 2 (v := .slice B2 j2 e2) rfl; go_simp; exact hR)
      apply Rel.rel_pure
      apply Exists.intro
      refine ⟨fun vs wq hq hdp R hR => ?_, ?_⟩
      · (rw [HF.out, Rel.stepAt_eq]; clear hdp; skip; go_simp; exact hR)
      apply Rel.rel_pure
      apply Exists.intro
      refine ⟨fun vs wq hq hdp R hR => ?_, ?_⟩
      · (rw [HF.out, Rel.stepAt_eq]; clear hdp; skip; go_simp; exact hR)
      apply Rel.rel_pure
      apply Exists.intro
      refine ⟨fun vs wq hq hdp R hR => ?_, ?_⟩
      · (rw [HF.out, Rel.stepAt_eq]; have qd2 : vs 2 = _ := Rel.dep hdp 2 (by kernel_rfl); have qd3 : vs 3 = _ := Rel.dep hdp 3 (by kernel_rfl); clear hdp; skip; go_simp; exact hR)
      apply Rel.rel_pure
      apply Exists.intro
      refine ⟨fun vs wq hq hdp R hR => ?_, ?_⟩
      · (rw [HF.out, Rel.stepAt_eq]; have qd4 : vs 4 = _ := Rel.dep hdp 4 (by kernel_rfl); clear hdp; obtain ⟨v0, v1, v2⟩ := HV.out wq hq; go_simp; exact hR)
      refine Rel.rel_law (S := fun v w' => IsRt w' (x - y) v) (isRt_mono _) (fun vs wq hq hdp => ?_) ?_
      · (rw [HF.out, Rel.stepAt_eq]; have qd1 : vs 1 = _ := Rel.dep hdp 1 (by kernel_rfl); have qd5 : vs 5 = _ := Rel.dep hdp 5 (by kernel_rfl); clear hdp; skip; go_simp; refine (ratMinus wq (HJ.out.below hq) (HK.out.below hq) HZ.out.1 HZ.out.2.1).mono ?_; rintro e w7 h; obtain ⟨v, rfl, hv, hb⟩ := h.is; exact ⟨_, rfl, hv, hb⟩)
      refine Rel.rel_law (S := fun v w' => IsRt w' (absR (x - y)) v) (isRt_mono _) (fun vs wq hq hdp => ?_) ?_
      · (rw [HF.out, Rel.stepAt_eq]; have qd6 : IsRt wq _ (vs 6) := Rel.dep hdp 6 (by kernel_rfl); clear hdp; skip; go_simp; refine (ratAbs wq qd6).mono ?_; rintro e w7 h; obtain ⟨v, rfl, hv, hb⟩ := h.is; exact ⟨_, rfl, hv, hb⟩)
      refine Rel.rel_law (S := fun v w' => IsRt w' (s0 + absR (x - y)) v) (isRt_mono _) (fun vs wq hq hdp => ?_) ?_
      · (rw [HF.out, Rel.stepAt_eq]; have qd0 : vs 0 = _ := Rel.dep hdp 0 (by kernel_rfl); have qd7 : IsRt wq _ (vs 7) := Rel.dep hdp 7 (by kernel_rfl); clear hdp; skip; go_simp; refine (ratPlus wq (HS.out.below hq) qd7 HZ.out.2.2.1 HZ.out.2.2.2).mono ?_; rintro e w7 h; obtain ⟨v, rfl, hv, hb⟩ := h.is; exact ⟨_, rfl, hv, hb⟩)
      refine Rel.rel_end (fun vs wq hq hall => ?_)
      rw [HF.out]
      have qe0 : vs 0 = _ := Rel.fin hall 0 (by decide)
      have qe1 : vs 1 = _ := Rel.fin hall 1 (by decide)
      have qe2 : vs 2 = _ := Rel.fin hall 2 (by decide)
      have qe3 : vs 3 = _ := Rel.fin hall 3 (by decide)
      have qe4 : vs 4 = _ := Rel.fin hall 4 (by decide)
      have qe5 : vs 5 = _ := Rel.fin hall 5 (by decide)
      have qe6 : IsRt wq _ (vs 6) := Rel.fin hall 6 (by decide)
      have qe7 : IsRt wq _ (vs 7) := Rel.fin hall 7 (by decide)
      have qe8 : IsRt wq _ (vs 8) := Rel.fin hall 8 (by decide)
      clear hall HF uv ue
      obtain ⟨t, C1, m1, l1, C2, m2, l2, ev, hI⟩ := qe8.open
      have K3q := K3.out.belowS hq
      have HN : Hid (DisRel f g n g3 w (.int .i64 ((i : Int) + 1)) (put3 wq g3 (.bool t) (.slice C1 m1 l1) (.slice C2 m2 l2))) := Lib.hid
        ⟨i + 1, t, C1, m1, l1, C2, m2, l2, by simp, hlt, Lib.hid (put3_blk K3q _ _ _), Lib.hid (by rw [HSM.out]; exact hI.put3 K3q _ _ _), Lib.hid (put3_other (KR.out.belowS hq) (by omega) _ _ _), Lib.hid (put3_below (Base.Below.nextA HB1.out hq) (by omega) _ _ _)⟩
      have z0 := K3q.frz 0
      have z1 := K3q.frz 1
      have z2 := K3q.frz 2
      have d0 := K3q.at 0 (v := .bool s) rfl
      have d1 := K3q.at 1 (v := .slice A1 k1 c1) rfl
      have d2 := K3q.at 2 (v := .slice A2 k2 c2) rfl
      unfold put3 at HN
      clear K3q hI qe6 qe7 qe8 qe0 qe1 qe2 qe3 qe4 qe5 hq K3 KF HS HJ HK HV HB1 HZ HSM KR
      go_wp2
      go_roundw
      case rel => exact HN.out
      case measure => simp [intOf]; omega
    · obtain rfl : i = n := by omega
      have HZ : Hid (szR (dsum f g i) ≤ 200000 ∧ szR (2 : Rat) ≤ 200000) := Lib.hid ⟨HZ0.out.2 i (Nat.le_refl _), by
        have : Dg (B32 ^ 1) (2 : Rat) := ⟨by decide, by decide⟩
        have := dgb_sz this
        omega⟩
      have HRES : Hid (disR i f g = dsum f g i * (2 : Rat)⁻¹) := Lib.hid rfl
      have K3 := Lib.hid K3r.out
      have HS := Lib.hid HIr.out
      clear K3r HIr
      generalize dsum f g i = s0 at *
      go_upto_region 7 with (fail)
      refine Rel.wp_region_rel 3 (by kernel_rfl) (by kernel_rfl) (fun F hF => ?_)
      simp only [List.take_succ_cons, List.take_zero, List.drop_succ_cons, List.drop_zero, Rel.putL] at hF ⊢
      have HF := Lib.hid hF
      clear hF
      have uv := @Rel.upon_value Tryz.prog
      have ue := @Rel.upon_enter Tryz.prog
      apply Rel.rel_pure
      apply Exists.intro
      refine ⟨fun vs wq hq hdp R hR => ?_, ?_⟩
      · (rw [HF.out, Rel.stepAt_eq]; clear hdp; have x0 := (K3.out.belowS hq).at 0 (v := .bool s) rfl; have x1 := (K3.out.belowS hq).at 1 (v := .slice A1 k1 c1) rfl; have x2 := (K3.out.belowS hq).at 2 (v := .slice A2 k2 c2) rfl; go_simp; exact hR)
      refine Rel.rel_law (S := fun v w' => IsRt w' 2 v) (isRt_mono _) (fun vs wq hq hdp => ?_) ?_
      · (rw [HF.out, Rel.stepAt_eq]; clear hdp; skip; go_simp; exact whole_rt 2 2 (by decide) ⟨rfl, rfl, by decide⟩ _)
      refine Rel.rel_law (S := fun v w' => IsRt w' (s0 * (2 : Rat)⁻¹) v) (isRt_mono _) (fun vs wq hq hdp => ?_) ?_
      · (rw [HF.out, Rel.stepAt_eq]; have qd0 : vs 0 = _ := Rel.dep hdp 0 (by kernel_rfl); have qd1 : IsRt wq _ (vs 1) := Rel.dep hdp 1 (by kernel_rfl); clear hdp; skip; go_simp; refine (ratOver wq (HS.out.below hq) qd1 HZ.out.1 HZ.out.2 (by decide)).mono ?_; rintro e w7 h; obtain ⟨v, rfl, hv, hb⟩ := h.is; exact ⟨_, rfl, hv, hb⟩)
      refine Rel.rel_end (fun vs wq hq hall => ?_)
      rw [HF.out]
      have qe0 : vs 0 = _ := Rel.fin hall 0 (by decide)
      have qe1 : IsRt wq _ (vs 1) := Rel.fin hall 1 (by decide)
      have qe2 : IsRt wq _ (vs 2) := Rel.fin hall 2 (by decide)
      clear hall HF uv ue
      obtain ⟨t, C1, m1, l1, C2, m2, l2, ev, hI⟩ := qe2.open
      have KRq := KRr.out.belowS hq
      have HBq := Base.Below.nextA HB.out hq
      have HI2 : Hid (IsRt wq (disR i f g) (.agg #[.bool t, .slice C1 m1 l1, .slice C2 m2 l2])) := Lib.hid (by rw [HRES.out]; exact hI)
      clear hI qe0 qe1 qe2 hq K3 HS HZ KRr HB HRES
      have z0 := (KRq).frz 0
      have z1 := (KRq).frz 1
      have z2 := (KRq).frz 2
      have c0 := (KRq).at 0 (v := .bool false) rfl
      have c1 := (KRq).at 1 (v := .slice none 0 0) rfl
      have c2 := (KRq).at 2 (v := .slice none 0 0) rfl
      have SS := put3_blk (KRq) (.bool t) (.slice C1 m1 l1) (.slice C2 m2 l2)
      unfold put3 at SS
      have s0 := SS.at 0 rfl
      have s1 := SS.at 1 rfl
      have s2 := SS.at 2 rfl
      have HFIN := Lib.hid (RV.put (HI2.out) (KRq) (HBq) (Nat.le_refl _))
      unfold put3 at HFIN
      clear SS
      go_wp2
      refine bodyPost_ret (v := .agg #[.bool t, .slice C1 m1 l1, .slice C2 m2 l2]) (by simp [results, Tryz.results106, go_sem, s0, s1, s2]) rfl ?_
      exact HFIN.out
end Go.Proofs.YtionognmgcabbaaGreat.Ratio
/- The degree of a number as the program counts it. -/
namespace Go.Proofs
open Go.Shelf
def YtionognmgcabbaaGreat.layd129_ren : Go.Shelf.Ren := ⟨fun | 129 => 185 | n => n, fun | 53 => 176 | 3 => 3 | 4 => 4 | 46 => 150 | 5 => 5 | 9 => 9 | n => n, fun | n => n⟩
theorem YtionognmgcabbaaGreat.layd129 : Go.Proofs.Lays.n129 Tryz.prog YtionognmgcabbaaGreat.layd129_ren := {
  mixed := by kernel_rfl
  f129 := Tryz.func185.trans (congrArg some (by kernel_rfl))
  t3 := Tryz.underlying3
  a3 := Tryz.isAgg3
  z3 := Tryz.sizeOf3
  v3 := Tryz.zeroValue3
  t4 := Tryz.underlying4
  a4 := Tryz.isAgg4
  z4 := Tryz.sizeOf4
  v4 := Tryz.zeroValue4
  t5 := Tryz.underlying5
  a5 := Tryz.isAgg5
  z5 := Tryz.sizeOf5
  v5 := Tryz.zeroValue5
  t9 := Tryz.underlying9
  a9 := Tryz.isAgg9
  z9 := Tryz.sizeOf9
  v9 := Tryz.zeroValue9
  t46 := Tryz.underlying150
  a46 := Tryz.isAgg150
  z46 := Tryz.sizeOf150
  v46 := Tryz.zeroValue150
  t53 := Tryz.underlying176
  a53 := Tryz.isAgg176
  z53 := Tryz.sizeOf176
  v53 := Tryz.zeroValue176 }
end Go.Proofs
namespace Go.Proofs.YtionognmgcabbaaGreat.Deg
open Go.RowKit Go.Proofs.YtionognmgcabbaaGreat Go.Proofs.YtionognmgcabbaaGreat.Base
theorem bitLen_le (p : Nat) (h : p < 9223372036854775808) : Lib.bitLen p ≤ 64 := by
  by_cases h0 : p = 0
  · subst h0; decide
  · have hb := Lib.bitLenAux_bounds 64 p (by omega) (by omega)
    have e0 : Lib.bitLenAux 64 p = Lib.bitLen p := rfl
    rw [e0] at hb
    rcases Nat.lt_or_ge 64 (Lib.bitLen p) with h | h
    · have := Nat.pow_le_pow_right (n := 2) (by decide) (show 64 ≤ Lib.bitLen p - 1 by omega)
      have e : (2 : Nat) ^ 64 = 18446744073709551616 := by decide
      omega
    · exact h
theorem degree_of (p : Nat) (h : p < 9223372036854775808) (w : World) : Calls Tryz.prog 166 #[.int .i64 (p : Int)] w fun e w' => e = .returned (.int .i64 ((Lib.bitLen p : Int) - 1)) ∧ w = w' := by
  have hb := bitLen_le p h
  have HL := Lib.hid (fun w => (Any.bits_Len64 YtionognmgcabbaaGreat.layd129 (p : Int) w (by omega) (by omega)))
  rw [Int.toNat_natCast] at HL
  go_enter Tryz.func166, Tryz.ntmps166
  go_wp2_with fail
  refine (HL.out _).mono ?_
  rintro e w' ⟨rfl, rfl⟩
  go_wp2
  go_ret
  exact ⟨rfl, rfl⟩
end Go.Proofs.YtionognmgcabbaaGreat.Deg

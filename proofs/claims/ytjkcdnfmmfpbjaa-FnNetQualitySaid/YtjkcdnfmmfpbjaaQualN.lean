/- The numbers with which rows are scrambled are drawn. -/
import Derived.Test.YtjkcdnfmmfpbjaaQualLaw
import Derived.Test.YtjkcdnfmmfpbjaaShiftedLaw
import Derived.Test.YtjkcdnfmmfpbjaaScrJ
namespace Go.Proofs.Ytjkcdnfmmfpbjaa.QualN
open Go.RowKit Go.Proofs.Ytjkcdnfmmfpbjaa Go.Proofs.Ytjkcdnfmmfpbjaa.Base Go.Proofs.Ytjkcdnfmmfpbjaa.Mem Go.Proofs.Ytjkcdnfmmfpbjaa.AllIn Go.Proofs.Ytjkcdnfmmfpbjaa.Pts Go.Proofs.Ytjkcdnfmmfpbjaa.NetV Go.Proofs.Ytjkcdnfmmfpbjaa.NetP Go.Proofs.Ytjkcdnfmmfpbjaa.RevNet Go.Proofs.Ytjkcdnfmmfpbjaa.Src Go.Proofs.Ytjkcdnfmmfpbjaa.DrawN Go.Proofs.Ytjkcdnfmmfpbjaa.Scr
set_option linter.unusedVariables false
theorem or_pow {r m : Nat} (hm : m ≤ 5) (hr : r < 2 ^ m) : bits .or .i64 ((2 : Int) ^ m) (r : Int) = ((2 ^ m + r : Nat) : Int) := by
  have h1 : 2 ^ m ≤ 2 ^ 5 := Nat.pow_le_pow_right (by decide) hm
  have e2 : (2 : Int) ^ m = ((2 ^ m : Nat) : Int) := by simp
  have h := Nat.two_pow_add_eq_or_of_lt hr 1
  rw [Nat.mul_one] at h
  rw [e2, Bits.i64_or_nat _ _ (by omega) (by omega), h]
/-- the numbers so far -/
def LwRel (p B0 b : Nat) (w : World) (v i : Value) (wr : World) : Prop :=
  ∃ (k : Nat) (xs : List Int), k ≤ b ∧ i = .int .i64 (k : Int) ∧ xs.length = k ∧ Hid (∀ d, d < k → inR (xs.getD d 0) ((2 : Int) ^ d) (2 * (2 : Int) ^ d - 1) = true) ∧
    OwnI wr w.heap.size v xs ∧ Go.Proofs.Ytjkcdnfmmfpbjaa.Src.Src wr p (k * 2) ∧ Beside p w wr ∧ Below B0 w wr
theorem LwRel.next {p B0 b j r : Nat} {xs : List Int} {w wp w2 w3 : World} {v v' : Value} {o : Obj} (hB : B0 ≤ p) (hp : p < w.heap.size) (hj : j < b) (hxl : xs.length = j) (hin : ∀ d, d < j → inR (xs.getD d 0) ((2 : Int) ^ d) (2 * (2 : Int) ^ d - 1) = true)
    (hO : OwnI wp w.heap.size v xs) (hS : Go.Proofs.Ytjkcdnfmmfpbjaa.Src.Src w2 p (j * 2 + 2)) (hg : wp.grownBy w2 (some p)) (hbs : Beside p w wp) (hbl : Below B0 w wp) (hr : r < 2 ^ j)
    (hown : w3.ownsRow w.heap.size 2 1 v' (j + 1) (ints xs ++ [.int .i64 ((2 ^ j + r : Nat) : Int)])) (hg3 : (w2.alloc o).grownBy w3 v.ownBlock) :
    LwRel p B0 b w v' (.int .i64 ((j : Int) + 1)) w3 := by
  have hB2 : Beside p w (w2.alloc o) := (hbs.trans (Beside.grown hg)).trans (Beside.below ((Below.refl _ _).alloc (Nat.le_refl _) o))
  have hrow : ∀ g, v.ownBlock = some g → w.heap.size ≤ g := fun g he => by
    obtain ⟨_, _, h3, _⟩ := ownsRow_block hO he
    exact h3
  have hw2 : w.heap.size ≤ w2.heap.size := Nat.le_trans hbs.size hg.size
  refine ⟨j + 1, xs ++ [((2 ^ j + r : Nat) : Int)], hj, by simp, by simp [hxl], Lib.hid fun d hd => ?_, ?_, ?_, ⟨Nat.le_trans hB2.size hg3.size, fun q h1 h2 => ?_⟩, ?_⟩
  · rcases Nat.lt_or_ge d j with h | h
    · rw [show (xs ++ [((2 ^ j + r : Nat) : Int)]).getD d 0 = xs.getD d 0 by simp [List.getD, List.getElem?_append_left (show d < xs.length by omega)]]
      exact hin d h
    · obtain rfl : d = j := by omega
      rw [show (xs ++ [((2 ^ d + r : Nat) : Int)]).getD d 0 = ((2 ^ d + r : Nat) : Int) by simp [List.getD, ← hxl]]
      have : ((2 ^ d : Nat) : Int) = (2 : Int) ^ d := by simp
      exact inR_yes (by omega)
  · unfold OwnI
    rw [List.length_append, hxl, show ints (xs ++ [((2 ^ j + r : Nat) : Int)]) = ints xs ++ [.int .i64 ((2 ^ j + r : Nat) : Int)] by simp [ints]]
    exact hown
  · have h1 := hS.below ((Below.refl _ _).alloc (Nat.le_refl _) o)
    have h2 := h1.kept hg3 (fun g he => by have := hrow g he; omega)
    exact h2.more (by omega)
  · refine (hg3.block q (Nat.lt_of_lt_of_le h1 hB2.size) fun e => ?_).trans (hB2.same q h1 h2)
    have := hrow q e.symm
    omega
  · have h1 : Below B0 w2 (w2.alloc o) := (Below.refl _ _).alloc (by omega) o
    exact ((hbl.trans (below_src hg hB (by have := hbs.size; omega))).trans h1).trans (grown_below hg3 (fun g he => by have := hrow g he; omega) (by simp; omega))
def LowRet (b : Nat) (w : World) (e : Ending) (w' : World) : Prop := ∃ (A : Option Addr) (c : Nat) (lower : List Int), e = .returned (.slice A b c) ∧ lower.length = b ∧ lowB lower = true ∧ RdI w' w'.heap.size A lower ∧ Below w.heap.size w w'
set_option maxHeartbeats 2000000 in
set_option maxRecDepth 100000 in
theorem r8Lower_any (A : Option Addr) (c B b : Nat) (zs : List Int) (w : World) (hx : RdB w B A zs) (hB : B ≤ w.heap.size) (hl : zs.length ≤ 9223372036854775807) (hz : ∀ z ∈ zs, 0 ≤ z ∧ z ≤ 255) (hb : b ≤ 5) :
    Calls Try.prog 38 #[.slice A zs.length c, .int .i64 (b : Int)] w (LowRet b w) := by
  obtain ⟨i0, hi, hz0, hz1, hz2⟩ := info_parts infoI
  have HF := Lib.hid (from_any A c B zs w hx hB hl hz)
  clear hx hz
  go_enter Try.func38, Try.ntmps38
  go_wp2_with fail
  refine HF.out.mono ?_
  rintro e w1 ⟨rfl, s1, b1⟩
  have hz1' := s1.lt
  have H0 : Hid (LwRel w.heap.size w.heap.size b w1 (.slice (some ⟨w1.heap.size, 0, none⟩) 0 0) (.int .i64 0) (w1.alloc (.cells #[] 2))) := Lib.hid (by
    have ba : Below w1.heap.size w1 (w1.alloc (.cells #[] 2)) := (Below.refl _ _).alloc (Nat.le_refl _) _
    exact ⟨0, [], Nat.zero_le _, rfl, rfl, Lib.hid fun d hd => absurd hd (Nat.not_lt_zero d), own_lit w1 (Nat.le_refl w1.heap.size) [] (by simp), by simpa using s1.below ba, Beside.below ba, ba.mono (by omega)⟩)
  have HB1 := Lib.hid b1
  clear s1 b1
  go_wp2_with fail
  go_loopw [6, 7] (fun v i wr => LwRel w.heap.size w.heap.size b w1 v i wr) (fun _ i _ => b - (intOf i).toNat)
  case atStart => exact H0.out
  case round =>
    obtain ⟨j, xs, hj, rfl, hxl, hin, hO, hsrc, hbs, hbl⟩ := hrel
    obtain ⟨wp, rfl⟩ : ∃ x, x = wr := ⟨_, rfl⟩
    clear H0
    have HO2 := Lib.hid hO
    have HXl := Lib.hid hxl
    have HBs := Lib.hid hbs
    have HBl2 := Lib.hid hbl
    have hzp := hbs.size
    clear hO hxl hbs hbl
    by_cases hjt : j < b
    · obtain ⟨t1, t2⟩ := pw_bd6 (b := j) (by omega)
      have HPick2 := Lib.hid (pick_any w.heap.size (j * 2) ((2 : Int) ^ j) wp hsrc (by omega))
      clear hsrc
      go_wp2_with fail
      refine HPick2.out.mono ?_
      rintro e w2 ⟨r, rfl, hr, s2, g2⟩
      have HS2 := Lib.hid s2
      have HG2 := Lib.hid g2
      have hrj : r < 2 ^ j := by
        have e : ((2 ^ j : Nat) : Int) = (2 : Int) ^ j := by simp
        have := Nat.two_pow_pos j
        omega
      have hor := or_pow (show j ≤ 5 by omega) hrj
      have hzw := g2.size
      clear s2 g2 hr
      have HNx := Lib.hid (fun v v' o w3 hO h1 h2 => LwRel.next (p := w.heap.size) (B0 := w.heap.size) (b := b) (v := v) (v' := v') (w := w1) (w3 := w3) (o := o) (r := r) (Nat.le_refl _) hz1' hjt HXl.out hin.out hO HS2.out HG2.out HBs.out HBl2.out hrj h1 h2)
      have hO4 := ownsRow_beside HO2.out hz1' (Beside.grown HG2.out)
      have HO4 := Lib.hid hO4
      have HLx := HXl.out
      rw [HLx] at HO4
      clear hO4 HLx
      have HOr := Lib.hid hor
      have HW := Lib.hid (World.ownsRow.alloc HO4.out (.cells #[.int .i64 ((2 ^ j + r : Nat) : Int)] 2))
      generalize hX : 2 ^ j + r = X at *
      clear hX
      go_wp2_with (at_builtin; refine wpList_append_own_at _ rfl (.tmp 16) (.tmp 26) 28 rfl w1.heap.size 2 i0 (.int .i64 0) 1 8 Try.underlying28 hi hz0 hz1 hz2 rfl (by decide) _ _ _ rfl HW.out ⟨w2.heap.size, 0, none⟩ 1 1 [.int .i64 (X : Int)] rfl rfl ?p1a ?p2a ?p3a ?p4a ?p5a ?_)
      try case p1a => exact news_one _ _ _ (by simp)
      try case p2a => first | exact one_int | rfl | simp
      try case p3a => first | (simp only [maxLen]; omega) | omega
      try case p4a => omega
      try case p5a => first | (simp only [World.size_alloc]; omega) | omega
      intro v' w3 hown' hg' _ he
      have HN2 := Lib.hid (HNx.out _ v' _ w3 HO2.out hown' hg')
      clear hown' hg' he
      go_wp2
      go_roundw
      case rel => exact HN2.out
      case measure => simp [intOf]; omega
    · obtain rfl : j = b := by omega
      have HRd := HO2.out
      obtain ⟨A3, c3, e3, _⟩ := HRd.form
      rw [HXl.out] at e3
      subst e3
      have HF : Hid (LowRet j w (.returned (.slice A3 j c3)) wp) := Lib.hid ⟨A3, c3, xs, rfl, HXl.out, lowB_of (by rw [HXl.out]; exact hin.out), HRd.rd, HB1.out.trans HBl2.out⟩
      clear HRd
      go_wp2
      go_ret
      exact HF.out
/-- the rows of a mixed net -/
theorem sc_net {b : Nat} {side : Int} {xss : List (List Int)} {lower : List Int} (h : scB b xss side lower = true) : netB b (scL xss side.toNat lower) = true := by
  simp only [scB, Bool.and_eq_true, decide_eq_true_eq] at h
  obtain ⟨hn, hs, hl, hlow⟩ := h
  obtain ⟨n1, n2, n3, n4, n5⟩ := netB_true hn
  rw [Int.toNat_natCast] at n5
  simp only [netB, Bool.and_eq_true]
  rw [scL_len]
  refine ⟨inR_yes ⟨n1, n2⟩, inR_yes (by omega), ?_⟩
  rw [Int.toNat_natCast]
  refine all_of [] fun d hd => ?_
  rw [scL_len] at hd
  obtain ⟨r1, r2⟩ := row_of n5 hd
  have hrd : rowB b b (xss.getD d []) = true := all_at [] hd n5
  rw [scL_at _ _ _ _ hd]
  split
  · have hlt : ∀ y, RankM.Sp (QualL.nats (xss.getD d [])) y → y < 2 ^ b := fun y hy => by
      induction hy with
      | zero => exact Nat.two_pow_pos b
      | @step z r _ hr ih =>
        obtain ⟨j, hj, e⟩ := List.mem_iff_getElem.1 hr
        have := QualI.nats_rows n5 hd j
        rw [show (QualL.nats (xss.getD d [])).getD j 0 = r by rw [List.getD, List.getElem?_eq_getElem hj, e]; rfl] at this
        exact Nat.xor_lt_two_pow ih this
    unfold rowB
    rw [Bool.and_eq_true]
    refine ⟨by rw [mixR_len]; simp; omega, allInB_of fun j hj => ?_⟩
    rw [mixR_len] at hj
    rw [mixR_at _ _ _ hj]
    obtain ⟨c1, c2⟩ := QualS.comb_sp (lower.getD j 0).toNat (xss.getD d []) (xss.getD d []).length (Nat.le_refl _)
    have c3 := hlt _ (c2.mono fun r hr => List.mem_of_mem_take hr)
    have e : ((2 ^ b : Nat) : Int) = (2 : Int) ^ b := by simp
    exact inR_yes (by omega)
  · exact hrd
end Go.Proofs.Ytjkcdnfmmfpbjaa.QualN

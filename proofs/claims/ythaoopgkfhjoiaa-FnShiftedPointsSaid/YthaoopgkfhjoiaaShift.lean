/- Points that are shifted, of the program and of the reference. -/
import Derived.Test.YthaoopgkfhjoiaaRevLaw
import Derived.Deep.RegionHeld3
import Derived.Deep.AppendLies
namespace Go.Proofs.Ythaoopgkfhjoiaa.Shift
open Go.RowKit Go.Proofs.Ythaoopgkfhjoiaa Go.Proofs.Ythaoopgkfhjoiaa.Base Go.Proofs.Ythaoopgkfhjoiaa.Mem Go.Proofs.Ythaoopgkfhjoiaa.AllIn Go.Proofs.Ythaoopgkfhjoiaa.Pts Go.Proofs.Ythaoopgkfhjoiaa.RevNet Go.Proofs.Ythaoopgkfhjoiaa.Bits
set_option linter.unusedVariables false
def xorI (x y : Int) : Int := ((x.toNat ^^^ y.toNat : Nat) : Int)
/-- a point shifted, of the first coordinates alone -/
def shRow (xs by_ : List Int) : List Int := (List.range by_.length).map fun d => xorI (xs.getD d 0) (by_.getD d 0)
theorem shRow_len (xs ys : List Int) : (shRow xs ys).length = ys.length := by simp [shRow]
theorem shRow_take (xs ys : List Int) (d : Nat) (h : d < ys.length) : (shRow xs ys).take (d + 1) = (shRow xs ys).take d ++ [xorI (xs.getD d 0) (ys.getD d 0)] := by
  have hl : d < (shRow xs ys).length := by rw [shRow_len]; exact h
  rw [List.take_succ_eq_append_getElem hl]
  simp [shRow]
def shL (xss : List (List Int)) (ys : List Int) : List (List Int) := xss.map fun xs => shRow xs ys
theorem shL_len (xss : List (List Int)) (ys : List Int) : (shL xss ys).length = xss.length := by simp [shL]
theorem shL_take (xss : List (List Int)) (ys : List Int) (k : Nat) (h : k < xss.length) : (shL xss ys).take (k + 1) = (shL xss ys).take k ++ [shRow (xss.getD k []) ys] := by
  have hl : k < (shL xss ys).length := by rw [shL_len]; exact h
  rw [List.take_succ_eq_append_getElem hl]
  simp [shL, List.getD, h]
theorem xor_int {x y : Int} (hx : 0 ≤ x ∧ x < 64) (hy : 0 ≤ y ∧ y < 64) : bits .xor .i64 x y = xorI x y := by
  have h := i64_xor_nat x.toNat y.toNat (by omega) (by omega)
  rw [Int.toNat_of_nonneg hx.1, Int.toNat_of_nonneg hy.1] at h
  exact h
/-- lists of lists of the call's own that grow along given ones -/
def GRel (L : List (List Int)) (w : World) (out i : Value) (wr : World) : Prop :=
  ∃ (k : Nat) (us : List Value), k ≤ L.length ∧ i = .int .i64 (k : Int) ∧ OwnII wr w.heap.size out (L.take k) us ∧ Below w.heap.size w wr
/-- the same for one list -/
def IRel (L : List Int) (w : World) (p i : Value) (wr : World) : Prop :=
  ∃ d : Nat, d ≤ L.length ∧ i = .int .i64 (d : Int) ∧ OwnI wr w.heap.size p (L.take d) ∧ Below w.heap.size w wr
theorem GRel.start (L : List (List Int)) (w : World) : GRel L w (.slice (some ⟨w.heap.size, 0, none⟩) 0 0) (.int .i64 0) (w.alloc (.cells #[] 30)) :=
  ⟨0, [], Nat.zero_le _, rfl, OwnII.lit0 w (Nat.le_refl _) _ rfl, (Below.refl _ _).alloc (Nat.le_refl _) _⟩
theorem IRel.start (L : List Int) (w : World) : IRel L w (.slice (some ⟨w.heap.size, 0, none⟩) 0 0) (.int .i64 0) (w.alloc (.cells #[] 2)) :=
  ⟨0, Nat.zero_le _, rfl, own_lit w (Nat.le_refl _) [] (by simp), (Below.refl _ _).alloc (Nat.le_refl _) _⟩
theorem take_snoc {α : Type} (L : List α) (d : Nat) (z : α) (h : d < L.length) : L.take (d + 1) = L.take d ++ [L.getD d z] := by
  rw [List.take_succ_eq_append_getElem h]; simp [List.getD, h]
theorem IRel.next {L : List Int} {d : Nat} {w wr w1 w2 : World} {v v' : Value} (hd : d < L.length) (hO : OwnI wr w.heap.size v (L.take d)) (hb : Below w.heap.size w wr) (h1 : Below wr.heap.size wr w1)
    (hown : w2.ownsRow w.heap.size 2 1 v' (d + 1) (ints (L.take d) ++ [.int .i64 (L.getD d 0)])) (hg : w1.grownBy w2 v.ownBlock) :
    IRel L w v' (.int .i64 ((d : Int) + 1)) w2 := by
  refine ⟨d + 1, hd, by simp, ?_, hb.trans ((h1.mono hb.size).trans (grown_below hg (fun g he => ?_) (Nat.le_trans hb.size h1.size)))⟩
  · rw [take_snoc L d 0 hd]
    have hl : (L.take d).length = d := by rw [List.length_take]; omega
    exact OwnI_push hO hb.size (by rw [hl]; exact hown)
  · obtain ⟨_, _, h3, _⟩ := ownsRow_block hO he
    exact h3
theorem GRel.next {L : List (List Int)} {k : Nat} {us : List Value} {w wo wr w2 : World} {v v' p : Value} (hk : k < L.length) (hO : OwnII wo w.heap.size v (L.take k) us) (hb : Below w.heap.size w wo)
    (hp : OwnI wr wo.heap.size p (L.getD k [])) (hb2 : Below wo.heap.size wo wr) (hown : w2.ownsRow w.heap.size 30 1 v' (k + 1) (us ++ [p])) (hg : (wr.alloc (.cells #[p] 30)).grownBy w2 v.ownBlock) :
    GRel L w v' (.int .i64 ((k : Int) + 1)) w2 := by
  have h1 : Below wo.heap.size wo (wr.alloc (.cells #[p] 30)) := hb2.alloc hb2.size _
  have hu : (wr.alloc (.cells #[p] 30)).ownsRow wo.heap.size 2 1 p (L.getD k []).length (ints (L.getD k [])) := World.ownsRow.alloc hp _
  have hl : (L.take k).length = k := by rw [List.length_take]; omega
  refine ⟨k + 1, us ++ [p], hk, by simp, ?_, hb.trans ((h1.mono hb.size).trans (grown_below hg (fun g he => ?_) (Nat.le_trans hb.size h1.size)))⟩
  · rw [take_snoc L k [] hk]
    exact hO.push h1 hu (by rw [hl]; exact hown) hg hb.size
  · obtain ⟨_, _, h3, _⟩ := ownsRow_block hO.outer he
    exact h3
/-- lists of the call's own, and whether there are some -/
def RowsRet (R : List (List Int)) (ok : Bool) (w : World) (e : Ending) (w' : World) : Prop := ∃ A c us, e = .returned (.tuple #[.slice A R.length c, .bool ok]) ∧ OwnII w' w.heap.size (.slice A R.length c) R us ∧ Below w.heap.size w w'
/-- points and what shifts them -/
def shB (xss : List (List Int)) (bits : Int) (ys : List Int) : Bool := ptsB xss bits && (ys.length == (xss.getD 0 []).length && allInB ys 0 ((2 : Int) ^ bits.toNat - 1))
theorem row_at {L b d : Nat} {xss : List (List Int)} (h : xss.all (rowB L b) = true) (hd : d < xss.length) : (xss.getD d []).length = L ∧ ∀ j, j < L → 0 ≤ (xss.getD d []).getD j 0 ∧ (xss.getD d []).getD j 0 ≤ (2 : Int) ^ b - 1 := by
  have h1 := all_at [] hd h
  simp only [rowB, Bool.and_eq_true, beq_iff_eq] at h1
  exact ⟨h1.1, fun j hj => AllIn.allInB_true h1.2 j (by omega)⟩
set_option maxHeartbeats 2000000 in
set_option maxRecDepth 100000 in
theorem implShift_yes (A A' : Option Addr) (c c' B b : Nat) (xss : List (List Int)) (ys : List Int) (w : World) (hx : RdII w B A xss) (hy : RdI w B A' ys) (hB : B ≤ w.heap.size) (hb6 : b ≤ 6) (hl : xss.length ≤ 64) (h1l : 1 ≤ xss.length) (hm : tot xss ≤ 1048576)
    (hp : ptsB xss b = true) (hL : ys.length = (xss.getD 0 []).length) (hL4 : ys.length ≤ 4) (hyA : allInB ys 0 ((2 : Int) ^ b - 1) = true) :
    Calls Try.prog 22 #[.slice A xss.length c, .int .i64 b, .slice A' ys.length c'] w (RowsRet (shL xss ys) true w) := by
  obtain ⟨i0, hi, hz0, hz1, hz2⟩ := info_parts infoI
  obtain ⟨i1, ji, jz0, jz1, jz2⟩ := info_parts infoS
  obtain ⟨p1, p2⟩ := pw_bd6 hb6
  have hall : xss.all (rowB ys.length b) = true := by rw [hL]; simpa using (ptsB_true hp).2.2.2.2.2.2
  have HRow := Lib.hid (fun d hd => row_at (d := d) hall hd)
  have HY := Lib.hid (fun i hi => allInB_true hyA i hi)
  have HV := Lib.hid (implIsPoints_any A c B b xss w hx hB (by omega) hm)
  rw [hp] at HV
  have HX := Lib.hid hx
  have HYR := Lib.hid hy
  obtain ⟨bb, off, hA, hbB, hc⟩ := hx (by omega)
  obtain ⟨A0, c0, g0, _⟩ := hc 0 (by omega)
  rw [Nat.add_zero, ← hL] at g0
  subst hA
  have HAny := Lib.hid (fun W hW => allIn_any A' c' B ys 0 ((2 : Int) ^ b - 1) W (hy.below (hW : Below w.heap.size w W) hB) (Nat.le_trans hB hW.size) (by omega))
  rw [hyA] at HAny
  have HLn := Lib.hid hL
  have HS := shL_len xss ys
  have HSL := Lib.hid HS
  have hbw : bb < w.heap.size := by omega
  have hneq : ((ys.length : Int) != (ys.length : Int)) = false := by simp
  clear hx hy hp hL hyA hall hc HS
  go_enter Try.func22, Try.ntmps22
  go_wp2_with fail
  refine HV.out.mono ?_
  rintro e w1 ⟨rfl, hb1⟩
  have B1 := Lib.hid hb1
  have g1 := (hb1.cell (p := ⟨bb, off, none⟩) hbw).trans g0
  have hs1 := hb1.size
  clear hb1 g0
  go_wp2_with fail
  refine (HAny.out w1 B1.out).mono ?_
  rintro e w2 ⟨rfl, hb2⟩
  have B2 := Lib.hid (Base.Below.nextA B1.out hb2)
  have HG := Lib.hid (GRel.start (shL xss ys) w2)
  have hs2 := hb2.size
  have HX2 := Lib.hid (HX.out.below B2.out hB)
  have HY2 := Lib.hid (HYR.out.below B2.out hB)
  clear hb2 g1
  go_wp2_with fail
  go_loopw [8, 38] (fun out i wr => GRel (shL xss ys) w2 out i wr) (fun _ i _ => xss.length - (intOf i).toNat)
  case atStart => exact HG.out
  case round =>
    obtain ⟨k, us, hk, rfl, hO, hb⟩ := hrel
    obtain ⟨wo, rfl⟩ : ∃ x, x = wr := ⟨_, rfl⟩
    have HO := Lib.hid hO
    have HB := Lib.hid hb
    have hzo := hb.size
    rw [HSL.out] at hk
    clear hO hb
    by_cases hlt : k < xss.length
    · obtain ⟨ro1, ro2⟩ := HRow.out k hlt
      obtain ⟨b2, off2, e2, hb2B, hc2⟩ := (HX2.out.below HB.out (by omega)) (by omega)
      injection e2 with e2
      injection e2 with e2a e2b _
      subst e2a e2b
      obtain ⟨A1, c1, g1, r1⟩ := hc2 k hlt
      rw [ro1] at g1
      have R1 := Lib.hid (r1.below (B := B) (C := wo.heap.size) (w := wo) (w' := wo) (Below.refl _ _) (by omega))
      have HY3 := Lib.hid (HY2.out.below HB.out (by omega))
      have HN := Lib.hid (show (shL xss ys).getD k [] = shRow (xss.getD k []) ys by simp [shL, List.getD, hlt])
      have hsl := shRow_len (xss.getD k []) ys
      have HSR := Lib.hid hsl
      have HL1 := Lib.hid ro1
      have RO := Lib.hid ro2
      have HI0 := Lib.hid (IRel.start (shRow (xss.getD k []) ys) wo)
      clear hc2 r1 ro1 ro2 hsl
      generalize xss.getD k [] = xs at *
      go_wp2_with fail
      go_loopw [11, 45] (fun p i wr => IRel (shRow xs ys) wo p i wr) (fun _ i _ => ys.length - (intOf i).toNat)
      case atStart => exact HI0.out
      case round =>
        obtain ⟨d, hd, rfl, hO, hb⟩ := hrel
        obtain ⟨wp, rfl⟩ : ∃ x, x = wr := ⟨_, rfl⟩
        have HO2 := Lib.hid hO
        have HB2 := Lib.hid hb
        have hzp := hb.size
        rw [HSR.out] at hd
        clear hO hb
        by_cases hdt : d < ys.length
        · obtain ⟨b3, off3, e3, _, hc3⟩ := (R1.out.below HB2.out (by omega)) (by have := HL1.out; omega)
          have g3 := hc3 d (by have := HL1.out; omega)
          obtain ⟨b4, off4, e4, _, hc4⟩ := (HY3.out.below HB2.out (by omega)) (by omega)
          have g4 := hc4 d hdt
          obtain ⟨x0, x1⟩ := RO.out d hdt
          obtain ⟨y0, y1⟩ := HY.out d hdt
          have HN2 := Lib.hid (show (shRow xs ys).getD d 0 = xorI (xs.getD d 0) (ys.getD d 0) by simp [shRow, List.getD, hdt])
          subst e3 e4
          clear hc3 hc4
          generalize xs.getD d 0 = x at *
          generalize ys.getD d 0 = y at *
          have HX3 := Lib.hid (xor_int (x := x) (y := y) (by omega) (by omega))
          have hlen : ((shRow xs ys).take d).length = d := by rw [List.length_take, HSR.out]; omega
          have hown := World.ownsRow.alloc HO2.out (.cells #[.int .i64 (bits .xor .i64 x y)] 2)
          rw [hlen] at hown
          have HW := Lib.hid hown
          have HNx := Lib.hid (fun v' w2 h1 h2 => IRel.next (L := shRow xs ys) (w1 := wp.alloc (.cells #[.int .i64 (bits .xor .i64 x y)] 2)) (v' := v') (w2 := w2) (by rw [HSR.out]; exact hdt) HO2.out HB2.out ((Below.refl _ _).alloc (Nat.le_refl _) _) h1 h2)
          clear hown hlen
          go_wp2_with (at_builtin; refine wpList_append_own_at _ rfl (.tmp 50) (.tmp 57) 30 rfl wo.heap.size 2 i0 (.int .i64 0) 1 8 Try.underlying30 hi hz0 hz1 hz2 rfl (by decide) _ _ _ rfl HW.out ⟨wp.heap.size, 0, none⟩ 1 1 [.int .i64 (bits .xor .i64 x y)] rfl rfl ?p1a ?p2a ?p3a ?p4a ?p5a ?_)
          try case p1a => exact news_one _ _ _ (by simp)
          try case p2a => first | exact one_int | rfl | simp
          try case p3a => first | (simp only [maxLen]; omega) | omega
          try case p4a => omega
          try case p5a => first | (simp only [World.size_alloc]; omega) | omega
          intro v' w3 hown' hg' _ he
          have HQ2 := Lib.hid (HNx.out v' w3 (by rw [HN2.out, ← HX3.out]; exact hown') hg')
          clear hown' hg' he
          go_wp2
          go_roundw
          case rel => exact HQ2.out
          case measure => simp [intOf]; omega
        · obtain rfl : d = ys.length := by omega
          have ho2 := HO2.out
          rw [show (shRow xs ys).take ys.length = shRow xs ys from List.take_of_length_le (by rw [HSR.out]; exact Nat.le_refl _)] at ho2
          have HP := Lib.hid ho2
          obtain ⟨Ap, cp, ep, _⟩ := ho2.form
          subst ep
          have hown := World.ownsRow.alloc (ownsRow_below HO.out.outer HB2.out) (.cells #[.slice Ap (shRow xs ys).length cp] 30)
          rw [show ((shL xss ys).take k).length = k by rw [List.length_take, HSL.out]; omega] at hown
          have HW := Lib.hid hown
          have HNx := Lib.hid (fun v' w3 h1 h2 => GRel.next (v' := v') (w2 := w3) (by rw [HSL.out]; exact hlt) HO.out HB.out (by rw [HN.out]; exact HP.out) HB2.out h1 h2)
          clear hown ho2 HI0
          go_wp2_with (at_builtin; refine wpList_append_own_at _ rfl (.tmp 60) (.tmp 62) 29 rfl w2.heap.size 30 i1 (.slice none 0 0) 1 24 Try.underlying29 ji jz0 jz1 jz2 rfl (by decide) _ _ _ rfl HW.out ⟨wp.heap.size, 0, none⟩ 1 1 [.slice Ap (shRow xs ys).length cp] rfl rfl ?p1b ?p2b ?p3b ?p4b ?p5b ?_)
          try case p1b => exact news_one _ _ _ (by simp)
          try case p2b => first | exact one_slice | rfl | simp
          try case p3b => first | (simp only [maxLen]; omega) | omega
          try case p4b => omega
          try case p5b => first | (simp only [World.size_alloc]; omega) | omega
          intro v' w3 hown' hg' _ he
          have HQ2 := Lib.hid (HNx.out v' w3 hown' hg')
          clear hown' hg' he
          go_wp2
          go_roundw
          case rel => exact HQ2.out
          case measure => simp [intOf]; omega
    · obtain rfl : k = xss.length := by omega
      have ho := HO.out
      rw [show (shL xss ys).take xss.length = shL xss ys from List.take_of_length_le (by rw [HSL.out]; exact Nat.le_refl _)] at ho
      have HP := Lib.hid ho
      obtain ⟨A1, c1, e1, _⟩ := ho.form
      subst e1
      clear ho
      go_wp2
      go_ret2
      exact ⟨A1, c1, us, rfl, HP.out.base (by omega), B2.out.trans (HB.out.mono (by omega))⟩
set_option maxHeartbeats 2000000 in
set_option maxRecDepth 100000 in
theorem specShift_yes (A A' : Option Addr) (c c' B b : Nat) (xss : List (List Int)) (ys : List Int) (w : World) (hx : RdII w B A xss) (hy : RdI w B A' ys) (hB : B ≤ w.heap.size) (hb6 : b ≤ 6) (hl : xss.length ≤ 64) (h1l : 1 ≤ xss.length) (hm : tot xss ≤ 1048576)
    (hp : ptsB xss b = true) (hL : ys.length = (xss.getD 0 []).length) (hL4 : ys.length ≤ 4) (hyA : allInB ys 0 ((2 : Int) ^ b - 1) = true) :
    Calls Try.prog 19 #[.slice A xss.length c, .int .i64 b, .slice A' ys.length c'] w (RowsRet (shL xss ys) true w) := by
  obtain ⟨i0, hi, hz0, hz1, hz2⟩ := info_parts infoI
  obtain ⟨i1, ji, jz0, jz1, jz2⟩ := info_parts infoS
  obtain ⟨p1, p2⟩ := pw_bd6 hb6
  have hall : xss.all (rowB ys.length b) = true := by rw [hL]; simpa using (ptsB_true hp).2.2.2.2.2.2
  have HRow := Lib.hid (fun d hd => row_at (d := d) hall hd)
  have HY := Lib.hid (fun i hi => allInB_true hyA i hi)
  have HV := Lib.hid (l10List_any A c B b xss w hx (by omega) hm)
  rw [hp] at HV
  have HX := Lib.hid hx
  have HYR := Lib.hid hy
  obtain ⟨bb, off, hA, hbB, hc⟩ := hx (by omega)
  obtain ⟨A0, c0, g0, _⟩ := hc 0 (by omega)
  rw [Nat.add_zero, ← hL] at g0
  subst hA
  have HAny := Lib.hid (fun W hW => allIn_any A' c' B ys 0 ((2 : Int) ^ b - 1) W (hy.below (hW : Below w.heap.size w W) hB) (Nat.le_trans hB hW.size) (by omega))
  rw [hyA] at HAny
  have HLn := Lib.hid hL
  have HS := shL_len xss ys
  have HSL := Lib.hid HS
  have hbw : bb < w.heap.size := by omega
  have hneq : ((ys.length : Int) != (ys.length : Int)) = false := by simp
  clear hx hy hp hL hyA hall hc HS
  go_enter Try.func19, Try.ntmps19
  go_wp2_with fail
  refine HV.out.mono ?_
  rintro e w1 ⟨rfl, hD⟩
  have B1 := Lib.hid (hD.below (B := w.heap.size))
  have g1 := ((hD.below (B := w.heap.size)).cell (p := ⟨bb, off, none⟩) hbw).trans g0
  have hs1 := (hD.below (B := w.heap.size)).size
  have HX2 := Lib.hid (HX.out.below B1.out hB)
  have HY2 := Lib.hid (HYR.out.below B1.out hB)
  have HG := Lib.hid (GRel.start (shL xss ys) w1)
  clear hD g0
  go_wp2_with fail
  clear g1
  go_loop [8] (fun i => ∃ d : Nat, d ≤ ys.length ∧ i = .int .i64 (d : Int)) (fun i => ys.length - (intOf i).toNat)
  case atStart => exact ⟨0, Nat.zero_le _, rfl⟩
  case round =>
    obtain ⟨d, hd, rfl⟩ := hrel
    by_cases hdt : d < ys.length
    · obtain ⟨b4, off4, e4, _, hc4⟩ := HY2.out (by omega)
      have g4 := hc4 d hdt
      have hst : Reg.stB b (ys.getD d 0) = true := inR_yes (HY.out d hdt)
      subst e4
      clear hc4
      generalize ys.getD d 0 = y at *
      go_wp2_with (go_at_call 75; refine (Reg.l02State_qb hst (by omega) _).mono ?_; rintro e w' ⟨rfl, rfl⟩)
      go_round
      case rel => exact ⟨d + 1, hdt, by go_num⟩
      case measure => simp [intOf]; omega
    · obtain rfl : d = ys.length := by omega
      go_wp2_with fail
      go_loopw [9, 10] (fun out i wr => GRel (shL xss ys) w1 out i wr) (fun _ i _ => xss.length - (intOf i).toNat)
      case atStart => exact HG.out
      case round =>
        obtain ⟨k, us, hk, rfl, hO, hb⟩ := hrel
        obtain ⟨wo, rfl⟩ : ∃ x, x = wr := ⟨_, rfl⟩
        have HO := Lib.hid hO
        have HB := Lib.hid hb
        have hzo := hb.size
        rw [HSL.out] at hk
        clear hO hb
        by_cases hlt : k < xss.length
        · obtain ⟨ro1, ro2⟩ := HRow.out k hlt
          obtain ⟨b2, off2, e2, hb2B, hc2⟩ := (HX2.out.below HB.out (by omega)) (by omega)
          injection e2 with e2
          injection e2 with e2a e2b _
          subst e2a e2b
          obtain ⟨A1, c1, g1, r1⟩ := hc2 k hlt
          rw [ro1] at g1
          have R1 := Lib.hid (r1.below (B := B) (C := wo.heap.size) (w := wo) (w' := wo) (Below.refl _ _) (by omega))
          have HY3 := Lib.hid (HY2.out.below HB.out (by omega))
          have HN := Lib.hid (show (shL xss ys).getD k [] = shRow (xss.getD k []) ys by simp [shL, List.getD, hlt])
          have hsl := shRow_len (xss.getD k []) ys
          have HSR := Lib.hid hsl
          have HL1 := Lib.hid ro1
          have RO := Lib.hid ro2
          have HI0 := Lib.hid (IRel.start (shRow (xss.getD k []) ys) wo)
          clear hc2 r1 ro1 ro2 hsl
          generalize xss.getD k [] = xs at *
          go_wp2_with fail
          go_loopw [11, 12] (fun p i wr => IRel (shRow xs ys) wo p i wr) (fun _ i _ => ys.length - (intOf i).toNat)
          case atStart => exact HI0.out
          case round =>
            obtain ⟨d, hd, rfl, hO, hb⟩ := hrel
            obtain ⟨wp, rfl⟩ : ∃ x, x = wr := ⟨_, rfl⟩
            have HO2 := Lib.hid hO
            have HB2 := Lib.hid hb
            have hzp := hb.size
            have g1' := (hb.cell (p := ⟨bb, off + k, none⟩) (by show bb < _; omega)).trans g1
            rw [HSR.out] at hd
            clear hO hb
            by_cases hdt : d < ys.length
            · obtain ⟨b3, off3, e3, hl3, hc3⟩ := (R1.out.below HB2.out (by omega)) (by have := HL1.out; omega)
              have g3 := hc3 d (by have := HL1.out; omega)
              obtain ⟨b4, off4, e4, hl4, hc4⟩ := (HY3.out.below HB2.out (by omega)) (by omega)
              have g4 := hc4 d hdt
              obtain ⟨x0, x1⟩ := RO.out d hdt
              obtain ⟨y0, y1⟩ := HY.out d hdt
              have HN2 := Lib.hid (show (shRow xs ys).getD d 0 = xorI (xs.getD d 0) (ys.getD d 0) by simp [shRow, List.getD, hdt])
              subst e3 e4
              clear hc3 hc4
              generalize xs.getD d 0 = x at *
              generalize ys.getD d 0 = y at *
              have HX3 := Lib.hid (xor_int (x := x) (y := y) (by omega) (by omega))
              have hlen : ((shRow xs ys).take d).length = d := by rw [List.length_take, HSR.out]; omega
              have hfar : ∀ g, g < wo.heap.size → (u11).ownBlock ≠ some g := fun g hg he => by
                obtain ⟨_, _, h3, _⟩ := ownsRow_block HO2.out he
                omega
              have a1 := hfar bb (by omega)
              have a3 := hfar b3 (by omega)
              have a4 := hfar b4 (by omega)
              have l1 : bb < wp.heap.size := by omega
              have l3 : b3 < wp.heap.size := by omega
              have l4 : b4 < wp.heap.size := by omega
              have i10 : (0 : Int) ≤ (k : Int) := Int.natCast_nonneg _
              have i11 : (k : Int) < (xss.length : Int) := by omega
              have i20 : (0 : Int) ≤ (d : Int) := Int.natCast_nonneg _
              have i21 : (d : Int) < (ys.length : Int) := by omega
              have HNx := Lib.hid (fun v' w2 h1 h2 => IRel.next (L := shRow xs ys) (w1 := (wp.alloc (.cells #[.int .i64 (bits .xor .i64 x y)] 2)).drew) (v' := v') (w2 := w2) (by rw [HSR.out]; exact hdt) HO2.out HB2.out ((Below.refl _ _).alloc (Nat.le_refl _) _).drew h1 h2)
              have hown := World.ownsRow.alloc HO2.out (.cells #[.int .i64 (bits .xor .i64 x y)] 2)
              rw [hlen] at hown
              have HW := Lib.hid hown
              clear hown hlen hfar
              go_wp2_with fail
              go_region_held3 (fun w' => w'.cell? ⟨bb, off + k, none⟩ = some (.slice (some ⟨b3, off3, none⟩) ys.length c1) ∧ w'.cell? ⟨b3, off3 + d, none⟩ = some (.int .i64 x) ∧ w'.cell? ⟨b4, off4 + d, none⟩ = some (.int .i64 y))
                (first
                  | go_keep
                  | (go_split_ands
                     refine ⟨?_, ?_, ?_⟩
                     · (rw [hgrow.cell_far _ (by simp; omega) (Ne.symm a1)]; assumption)
                     · (rw [hgrow.cell_far _ (by simp; omega) (Ne.symm a3)]; assumption)
                     · (rw [hgrow.cell_far _ (by simp; omega) (Ne.symm a4)]; assumption)))
                ((refine step_append_lies _ (by rfl) _ _ _ (by rfl) wo.heap.size 2 i0 _ 1 8 Try.underlying30 hi hz0 hz1 hz2 rfl (by omega) u11 d _ (by rfl) ((HW.out).drew)
                    ⟨wp.heap.size, 0, none⟩ 1 1 [.int .i64 (bits .xor .i64 x y)] (by rfl) (by rfl) (World.news_of_block (cs := #[.int .i64 (bits .xor .i64 x y)]) (t := 2) (fr := (0, 0)) (heap_alloc_new wp _)) (by simp [Value.oneCell'])
                    (by omega) (by simp only [maxLen]; omega) (by omega) (by simp; omega) (wp.heap.size + 1) (by simp) ?_; intro gg cap w3 hown1 hgrow hat hlt2))
              have HQ2 := Lib.hid (HNx.out _ w3 (by rw [HN2.out, ← HX3.out]; exact hown1) hgrow)
              clear hown1 hgrow hat
              go_wp2
              go_roundw
              case rel => exact HQ2.out
              case measure => simp [intOf]; omega
            · obtain rfl : d = ys.length := by omega
              have ho2 := HO2.out
              rw [show (shRow xs ys).take ys.length = shRow xs ys from List.take_of_length_le (by rw [HSR.out]; exact Nat.le_refl _)] at ho2
              have HP := Lib.hid ho2
              obtain ⟨Ap, cp, ep, _⟩ := ho2.form
              subst ep
              have hown := World.ownsRow.alloc (ownsRow_below HO.out.outer HB2.out) (.cells #[.slice Ap (shRow xs ys).length cp] 30)
              rw [show ((shL xss ys).take k).length = k by rw [List.length_take, HSL.out]; omega] at hown
              have HW := Lib.hid hown
              have HNx := Lib.hid (fun v' w3 h1 h2 => GRel.next (v' := v') (w2 := w3) (by rw [HSL.out]; exact hlt) HO.out HB.out (by rw [HN.out]; exact HP.out) HB2.out h1 h2)
              clear hown ho2 HI0
              go_wp2_with (at_builtin; refine wpList_append_own_at _ rfl (.tmp 68) (.tmp 70) 29 rfl w1.heap.size 30 i1 (.slice none 0 0) 1 24 Try.underlying29 ji jz0 jz1 jz2 rfl (by decide) _ _ _ rfl HW.out ⟨wp.heap.size, 0, none⟩ 1 1 [.slice Ap (shRow xs ys).length cp] rfl rfl ?p1b ?p2b ?p3b ?p4b ?p5b ?_)
              try case p1b => exact news_one _ _ _ (by simp)
              try case p2b => first | exact one_slice | rfl | simp
              try case p3b => first | (simp only [maxLen]; omega) | omega
              try case p4b => omega
              try case p5b => first | (simp only [World.size_alloc]; omega) | omega
              intro v' w3 hown' hg' _ he
              have HQ2 := Lib.hid (HNx.out v' w3 hown' hg')
              clear hown' hg' he
              go_wp2
              go_roundw
              case rel => exact HQ2.out
              case measure => simp [intOf]; omega
        · obtain rfl : k = xss.length := by omega
          have ho := HO.out
          rw [show (shL xss ys).take xss.length = shL xss ys from List.take_of_length_le (by rw [HSL.out]; exact Nat.le_refl _)] at ho
          have HP := Lib.hid ho
          obtain ⟨A1, c1, e1, _⟩ := ho.form
          subst e1
          clear ho
          go_wp2
          go_ret2
          exact ⟨A1, c1, us, rfl, HP.out.base (by omega), B1.out.trans (HB.out.mono (by omega))⟩
end Go.Proofs.Ythaoopgkfhjoiaa.Shift

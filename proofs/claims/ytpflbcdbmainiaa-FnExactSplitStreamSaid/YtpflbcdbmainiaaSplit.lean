/- The parts of a stream, of the program and of the reference. -/
import Derived.Test.YtpflbcdbmainiaaMemS
import Derived.Test.YtpflbcdbmainiaaSkipLaw
import Derived.Test.YtpflbcdbmainiaaApart
namespace Go.Proofs.Ytpflbcdbmainiaa.MemS
open Go.RowKit Go.Proofs.Ytpflbcdbmainiaa Go.Proofs.Ytpflbcdbmainiaa.Base Go.Proofs.Ytpflbcdbmainiaa.Mem Go.Proofs.Ytpflbcdbmainiaa.Take
theorem infoSt : (Try.prog.info? 76).map (fun i => (i.zero, i.size, i.bytes)) = some (some (.agg #[.int .i64 0, .int .i64 0, .int .i64 0, .int .i64 0, .int .i64 0, .int .i64 0, .int .i64 0]), 7, 56) := by kernel_rfl
theorem news_seven (w : World) (t : TypeId) {u0 u1 u2 u3 u4 u5 u6 : Value} {g : Nat} (hg : g = w.heap.size) : ∀ (j : Nat) (x : Value), [u0, u1, u2, u3, u4, u5, u6][j]? = some x → (w.alloc (.cells #[u0, u1, u2, u3, u4, u5, u6] t)).cell? ((⟨g, 0, none⟩ : Addr).add j) = some x := by
  subst hg
  intro j x hx
  have e : (#[u0, u1, u2, u3, u4, u5, u6] : Array Value)[j]? = some x := by rw [← Array.getElem?_toList]; exact hx
  rw [Addr.add_lit]
  exact (World.cell?_alloc_new w #[u0, u1, u2, u3, u4, u5, u6] t (0 + j)).trans (by rw [Nat.zero_add]; exact e)
theorem ones_seven {a b c d e f g : Int} : ∀ u ∈ [Value.int .i64 a, .int .i64 b, .int .i64 c, .int .i64 d, .int .i64 e, .int .i64 f, .int .i64 g], u.oneCell' = true := by
  intro u hu
  simp only [List.mem_cons, List.not_mem_nil, or_false] at hu
  rcases hu with rfl | rfl | rfl | rfl | rfl | rfl | rfl <;> rfl
end Go.Proofs.Ytpflbcdbmainiaa.MemS
namespace Go.Proofs.Ytpflbcdbmainiaa.Split
open Go.RowKit Go.Proofs.Ytpflbcdbmainiaa Go.Proofs.Ytpflbcdbmainiaa.Base Go.Proofs.Ytpflbcdbmainiaa.Mem Go.Proofs.Ytpflbcdbmainiaa.Str Go.Proofs.Ytpflbcdbmainiaa.Take Go.Proofs.Ytpflbcdbmainiaa.Skip Go.Proofs.Ytpflbcdbmainiaa.MemS
set_option linter.unusedVariables false
/-- the numbers of the first i parts -/
def splitF (K W T m f a s : Int) (l : Nat) : Nat → List Int
  | 0 => []
  | i + 1 => splitF K W T m f a s l i ++ [K, W, T, m, f, a, takeX K W T m f a s ((i * l : Nat) : Int)]
def splitN (K W T m f a s n l : Int) : Nat := if (streamB K W T m f a s && splitB n l) = true then n.toNat else 0
def splitR (K W T m f a s n l : Int) : List Int := if (streamB K W T m f a s && splitB n l) = true then splitF K W T m f a s l.toNat n.toNat else []
def SplitRet (N : Nat) (F : List Int) (r : Bool) (w : World) (e : Ending) (w' : World) : Prop := ∃ A c, e = .returned (.tuple #[.slice A N c, .bool r]) ∧ OwnS w' w.heap.size (.slice A N c) N F ∧ Below w.heap.size w w'
theorem SplitRet.no {w w' : World} (h : Below w.heap.size w w') : SplitRet 0 [] false w (.returned (.tuple #[.slice none 0 0, .bool false])) w' := ⟨none, 0, rfl, World.ownsRow_nil _ _ _ _, h⟩
/-- the loop's state: b is the block of the stream, B the one of the empty list -/
def SRel (K W T m f a s : Int) (l N b B : Nat) (w : World) (sv iv : Value) (wr : World) : Prop :=
  ∃ i : Nat, i ≤ N ∧ iv = .int .i64 (i : Int) ∧ Hid (OwnS wr B sv i (splitF K W T m f a s l i)) ∧ Hid (SBox wr b K W T m f a s) ∧ Hid (Below w.heap.size w wr)
theorem SRel.next {K W T m f a s : Int} {l N b B i : Nat} {w wr w1 w2 : World} {sv v' : Value} {cs : Array Value} {t : TypeId} (hi : i < N) (hO : OwnS wr B sv i (splitF K W T m f a s l i)) (hK : SBox wr b K W T m f a s) (hb : Below w.heap.size w wr) (hbB : b < B) (hwB : w.heap.size ≤ B) (h1 : Below wr.heap.size wr w1)
    (hown : w2.ownsRow B 76 7 v' (i + 1) (ints (splitF K W T m f a s l i) ++ [.int .i64 K, .int .i64 W, .int .i64 T, .int .i64 m, .int .i64 f, .int .i64 a, .int .i64 (takeX K W T m f a s ((i * l : Nat) : Int))])) (hg : (w1.alloc (.cells cs t)).grownBy w2 sv.ownBlock) :
    SRel K W T m f a s l N b B w v' (.int .i64 ((i : Int) + 1)) w2 := by
  have hrow : ∀ g, sv.ownBlock = some g → B ≤ g ∧ g < wr.heap.size := fun g hgg => by
    obtain ⟨_, _, h1, h2⟩ := ownsRow_block hO hgg
    exact ⟨h1, h2⟩
  have h2 : Below wr.heap.size wr (w1.alloc (.cells cs t)) := h1.alloc h1.size _
  refine ⟨i + 1, hi, by simp, Lib.hid ?_, Lib.hid ((hK.below h2 hK.lt).kept hg fun e => ?_), Lib.hid ?_⟩
  · show w2.ownsRow B 76 7 v' (i + 1) (ints (splitF K W T m f a s l i ++ _))
    rw [show ints (splitF K W T m f a s l i ++ [K, W, T, m, f, a, takeX K W T m f a s ((i * l : Nat) : Int)]) = ints (splitF K W T m f a s l i) ++ [.int .i64 K, .int .i64 W, .int .i64 T, .int .i64 m, .int .i64 f, .int .i64 a, .int .i64 (takeX K W T m f a s ((i * l : Nat) : Int))] by simp [ints]]
    exact hown
  · have := (hrow b e).1; omega
  · exact (hb.trans (h2.mono hb.size)).trans (grown_below hg (fun g e => by have := (hrow g e).1; omega) (Nat.le_trans hb.size h2.size))
set_option maxHeartbeats 1000000 in
set_option maxRecDepth 100000 in
theorem specSplit_any (K W T m f a s n l : Int) (w : World) : Calls Try.prog 54 #[.agg #[.int .i64 K, .int .i64 W, .int .i64 T, .int .i64 m, .int .i64 f, .int .i64 a, .int .i64 s], .int .i64 n, .int .i64 l] w (SplitRet (splitN K W T m f a s n l) (splitR K W T m f a s n l) (streamB K W T m f a s && splitB n l) w) := by
  obtain ⟨W1, hW1⟩ : ∃ W1, W1 = w.alloc (.cells #[.int .i64 K, .int .i64 W, .int .i64 T, .int .i64 m, .int .i64 f, .int .i64 a, .int .i64 s] 76) := ⟨_, rfl⟩
  have S : SBox W1 w.heap.size K W T m f a s := by rw [hW1]; exact SBox.new _ _ _ _ _ _ _ _
  have B : Below w.heap.size w W1 := by rw [hW1]; exact (Below.refl _ _).alloc (Nat.le_refl _) _
  have HI := Lib.hid (l11Is_any w.heap.size K W T m f a s W1 S.c0 S.c1 S.c2 S.c3 S.c4 S.c5 S.c6)
  have HP := Lib.hid (fun w => l11Parts_any n l w)
  have HW := Lib.hid hW1
  have HS := Lib.hid S
  have HB := Lib.hid B
  have HZ := Lib.hid (show W1.heap.size = w.heap.size + 1 by rw [hW1]; simp)
  clear hW1 S B
  unfold splitN splitR
  cases hB : streamB K W T m f a s with
  | false =>
    rw [hB] at HI
    simp only [Bool.false_and, Bool.false_eq_true, if_false]
    clear hB
    go_enter Try.func54, Try.ntmps54
    go_wp2_with fail
    rw [← HW.out]
    refine HI.out.mono ?_
    rintro e w1 ⟨rfl, k1, hw1⟩
    have B1 := Lib.hid (show Below w.heap.size w w1 by rw [hw1]; exact below_drewN HB.out k1)
    clear hw1
    go_wp2
    go_ret2
    exact SplitRet.no B1.out
  | true =>
    rw [hB] at HI
    cases hP : splitB n l with
    | false =>
      rw [hP] at HP
      simp only [Bool.and_false, Bool.false_eq_true, if_false]
      clear hB hP
      go_enter Try.func54, Try.ntmps54
      go_wp2_with fail
      rw [← HW.out]
      refine HI.out.mono ?_
      rintro e w1 ⟨rfl, k1, hw1⟩
      have B1 := Lib.hid (show Below w.heap.size w w1 by rw [hw1]; exact below_drewN HB.out k1)
      clear hw1
      go_wp2_with fail
      refine (HP.out _).mono ?_
      rintro e w' ⟨rfl, rfl⟩
      go_wp2
      go_ret2
      exact SplitRet.no B1.out
    | true =>
      rw [hP] at HP
      obtain ⟨p1, p2, p3, p4⟩ := splitB_true hP
      obtain ⟨N, rfl⟩ := Int.eq_ofNat_of_zero_le (show 0 ≤ n by omega)
      obtain ⟨L, rfl⟩ := Int.eq_ofNat_of_zero_le (show 0 ≤ l by omega)
      have HSk := Lib.hid (fun (c : Nat) (hc : c ≤ 8000000) w => specSkip_yes hB (c := (c : Int)) (by omega) w)
      obtain ⟨i7, ki, kz0, kz1, kz2⟩ := info_parts infoSt
      simp only [Bool.and_self, if_true, Int.toNat_natCast]
      clear hB hP
      go_enter Try.func54, Try.ntmps54
      go_wp2_with fail
      rw [← HW.out]
      refine HI.out.mono ?_
      rintro e w1 ⟨rfl, k1, hw1⟩
      have B1 : Below w.heap.size w w1 := by rw [hw1]; exact below_drewN HB.out k1
      have S1 : SBox w1 w.heap.size K W T m f a s := by rw [hw1]; exact HS.out
      have hz1 : w1.heap.size = w.heap.size + 1 := by rw [hw1]; exact HZ.out
      have H0 : Hid (SRel K W T m f a s L N w.heap.size (w.heap.size + 1) w (.slice (some ⟨w1.heap.size, 0, none⟩) 0 0) (.int .i64 0) (w1.alloc (.cells #[] 76))) := Lib.hid (by
        refine ⟨0, Nat.zero_le _, rfl, Lib.hid ?_, Lib.hid (S1.below ((Below.refl _ _).alloc (Nat.le_refl _) _) S1.lt), Lib.hid (B1.alloc B1.size _)⟩
        exact World.ownsRow_made w1 #[] 0 (by omega) (Nat.zero_le _) (by simp))
      clear hw1 B1 S1 hz1
      go_wp2_with fail
      refine (HP.out _).mono ?_
      rintro e w' ⟨rfl, rfl⟩
      go_wp2
      go_loopw [8, 9] (fun sv iv wr => SRel K W T m f a s L N w.heap.size (w.heap.size + 1) w sv iv wr) (fun _ iv _ => N - (intOf iv).toNat)
      case atStart => exact H0.out
      case round =>
        obtain ⟨i, hi, rfl, HO, HK, HBl⟩ := hrel
        clear H0
        by_cases hlt : i < N
        · have c0 := (HK.out).c0; have c1 := (HK.out).c1; have c2 := (HK.out).c2; have c3 := (HK.out).c3; have c4 := (HK.out).c4; have c5 := (HK.out).c5; have c6 := (HK.out).c6
          obtain ⟨P, hP⟩ : ∃ P : Nat, i * L = P := ⟨_, rfl⟩
          have hmul : (i : Int) * (L : Int) = (P : Int) := by rw [← hP]; simp
          have hPb : P ≤ 8000000 := by
            rw [← hP]
            have := Nat.mul_le_mul (show i ≤ 8 by omega) (show L ≤ 1000000 by omega)
            omega
          have HSp := Lib.hid (fun w => HSk.out P hPb w)
          have HPP := Lib.hid hP
          unfold SkipR at HSp
          clear hP
          go_wp2_with fail
          refine (HSp.out _).mono ?_
          rintro e w2 ⟨rfl, hb2⟩
          have HN := Lib.hid (fun w3 v' cs t hown hg => SRel.next (w2 := w3) (v' := v') (cs := cs) (t := t) hlt HO.out HK.out HBl.out (Nat.lt_succ_self _) (Nat.le_succ _) hb2 hown hg)
          have hown := World.ownsRow.alloc (ownsRow_below HO.out hb2) (.cells #[.int .i64 K, .int .i64 W, .int .i64 T, .int .i64 m, .int .i64 f, .int .i64 a, .int .i64 (takeX K W T m f a s (P : Int))] 76)
          rw [HPP.out] at HN
          have hz2 : w.heap.size + 1 ≤ w2.heap.size := by have := HK.out.lt; have := hb2.size; omega
          generalize hx : takeX K W T m f a s (P : Int) = x at *
          generalize splitF K W T m f a s L i = xs at *
          have HW2 := Lib.hid hown
          clear hown hb2 HO HK HBl c0 c1 c2 c3 c4 c5 c6 hx
          go_wp2_with (at_builtin; refine wpList_append_own_at _ rfl (.tmp 24) (.tmp 30) 40 rfl (w.heap.size + 1) 76 i7 (.agg #[.int .i64 0, .int .i64 0, .int .i64 0, .int .i64 0, .int .i64 0, .int .i64 0, .int .i64 0]) 7 56 Try.underlying40 ki kz0 kz1 kz2 rfl (by decide) _ _ _ rfl HW2.out ⟨w2.heap.size, 0, none⟩ 1 1 [.int .i64 K, .int .i64 W, .int .i64 T, .int .i64 m, .int .i64 f, .int .i64 a, .int .i64 x] rfl rfl ?p1a ?p2a ?p3a ?p4a ?p5a ?_)
          try case p1a => exact MemS.news_seven _ _ (by simp)
          try case p2a => exact MemS.ones_seven
          try case p3a => first | (simp only [maxLen]; omega) | omega
          try case p4a => omega
          try case p5a => first | (simp only [World.size_alloc]; omega) | omega
          intro v' w3 hown' hg' _ he
          have HN3 := Lib.hid (HN.out w3 v' _ _ hown' hg')
          clear hown' hg' he HN HW2
          go_wp2
          go_roundw
          case rel => exact HN3.out
          case measure => simp [intOf]; omega
        · obtain rfl : i = N := by omega
          obtain ⟨A, cp, rfl, _⟩ := HO.out.form
          have HBB := Lib.hid HBl.out
          have HOO := Lib.hid HO.out
          clear HO HK HBl
          go_wp2
          go_ret2
          exact ⟨A, cp, rfl, ownsRow_base HOO.out (Nat.le_succ _), HBB.out⟩
set_option maxHeartbeats 1000000 in
set_option maxRecDepth 100000 in
theorem implSplit_any (K W T m f a s n l : Int) (w : World) : Calls Try.prog 55 #[.agg #[.int .i64 K, .int .i64 W, .int .i64 T, .int .i64 m, .int .i64 f, .int .i64 a, .int .i64 s], .int .i64 n, .int .i64 l] w (SplitRet (splitN K W T m f a s n l) (splitR K W T m f a s n l) (streamB K W T m f a s && splitB n l) w) := by
  obtain ⟨W1, hW1⟩ : ∃ W1, W1 = w.alloc (.cells #[.int .i64 K, .int .i64 W, .int .i64 T, .int .i64 m, .int .i64 f, .int .i64 a, .int .i64 s] 76) := ⟨_, rfl⟩
  have S : SBox W1 w.heap.size K W T m f a s := by rw [hW1]; exact SBox.new _ _ _ _ _ _ _ _
  have B : Below w.heap.size w W1 := by rw [hW1]; exact (Below.refl _ _).alloc (Nat.le_refl _) _
  have HI := Lib.hid (isSplit_any K W T m f a s n l W1)
  have HW := Lib.hid hW1
  have HS := Lib.hid S
  have HB := Lib.hid B
  have HZ := Lib.hid (show W1.heap.size = w.heap.size + 1 by rw [hW1]; simp)
  clear hW1 S B
  unfold splitN splitR
  cases hB : (streamB K W T m f a s && splitB n l) with
  | false =>
    rw [hB] at HI
    simp only [Bool.false_eq_true, if_false]
    clear hB
    go_enter Try.func55, Try.ntmps55
    go_wp2_with fail
    rw [← HW.out]
    refine HI.out.mono ?_
    rintro e w1 ⟨rfl, hb1⟩
    have B1 := Lib.hid (HB.out.trans (hb1.mono HB.out.size))
    clear hb1
    go_wp2
    go_ret2
    exact SplitRet.no B1.out
  | true =>
    rw [hB] at HI
    rw [Bool.and_eq_true] at hB
    obtain ⟨hS, hP⟩ := hB
    obtain ⟨p1, p2, p3, p4⟩ := splitB_true hP
    obtain ⟨N, rfl⟩ := Int.eq_ofNat_of_zero_le (show 0 ≤ n by omega)
    obtain ⟨L, rfl⟩ := Int.eq_ofNat_of_zero_le (show 0 ≤ l by omega)
    have HSk := Lib.hid (fun (c : Nat) (hc : c ≤ 8000000) w => implSkip_yes hS (c := (c : Int)) (by omega) w)
    obtain ⟨i7, ki, kz0, kz1, kz2⟩ := info_parts infoSt
    simp only [if_true, Int.toNat_natCast]
    clear hS hP
    go_enter Try.func55, Try.ntmps55
    go_wp2_with fail
    rw [← HW.out]
    refine HI.out.mono ?_
    rintro e w1 ⟨rfl, hb1⟩
    have B1 : Below w.heap.size w w1 := HB.out.trans (hb1.mono HB.out.size)
    have S1 : SBox w1 w.heap.size K W T m f a s := HS.out.below hb1 HS.out.lt
    have hz1 : w.heap.size + 1 ≤ w1.heap.size := S1.lt
    have H0 : Hid (SRel K W T m f a s L N w.heap.size (w.heap.size + 1) w (.slice (some ⟨w1.heap.size, 0, none⟩) 0 0) (.int .i64 0) (w1.alloc (.cells #[] 76))) := Lib.hid (by
      refine ⟨0, Nat.zero_le _, rfl, Lib.hid ?_, Lib.hid (S1.below ((Below.refl _ _).alloc (Nat.le_refl _) _) S1.lt), Lib.hid (B1.alloc B1.size _)⟩
      exact World.ownsRow_made w1 #[] 0 (by omega) (Nat.zero_le _) (by simp))
    clear hb1 B1 S1 hz1
    go_wp2
    go_loopw [8, 17] (fun sv iv wr => SRel K W T m f a s L N w.heap.size (w.heap.size + 1) w sv iv wr) (fun _ iv _ => N - (intOf iv).toNat)
    case atStart => exact H0.out
    case round =>
      obtain ⟨i, hi, rfl, HO, HK, HBl⟩ := hrel
      clear H0
      by_cases hlt : i < N
      · have c0 := (HK.out).c0; have c1 := (HK.out).c1; have c2 := (HK.out).c2; have c3 := (HK.out).c3; have c4 := (HK.out).c4; have c5 := (HK.out).c5; have c6 := (HK.out).c6
        obtain ⟨P, hP⟩ : ∃ P : Nat, i * L = P := ⟨_, rfl⟩
        have hmul : (i : Int) * (L : Int) = (P : Int) := by rw [← hP]; simp
        have hPb : P ≤ 8000000 := by
          rw [← hP]
          have := Nat.mul_le_mul (show i ≤ 8 by omega) (show L ≤ 1000000 by omega)
          omega
        have HSp := Lib.hid (fun w => HSk.out P hPb w)
        have HPP := Lib.hid hP
        unfold SkipR at HSp
        clear hP
        go_wp2_with fail
        refine (HSp.out _).mono ?_
        rintro e w2 ⟨rfl, hb2⟩
        have HN := Lib.hid (fun w3 v' cs t hown hg => SRel.next (w2 := w3) (v' := v') (cs := cs) (t := t) hlt HO.out HK.out HBl.out (Nat.lt_succ_self _) (Nat.le_succ _) hb2 hown hg)
        have hown := World.ownsRow.alloc (ownsRow_below HO.out hb2) (.cells #[.int .i64 K, .int .i64 W, .int .i64 T, .int .i64 m, .int .i64 f, .int .i64 a, .int .i64 (takeX K W T m f a s (P : Int))] 76)
        rw [HPP.out] at HN
        have hz2 : w.heap.size + 1 ≤ w2.heap.size := by have := HK.out.lt; have := hb2.size; omega
        generalize hx : takeX K W T m f a s (P : Int) = x at *
        generalize splitF K W T m f a s L i = xs at *
        have HW2 := Lib.hid hown
        clear hown hb2 HO HK HBl c0 c1 c2 c3 c4 c5 c6 hx
        go_wp2_with (at_builtin; refine wpList_append_own_at _ rfl (.tmp 20) (.tmp 26) 40 rfl (w.heap.size + 1) 76 i7 (.agg #[.int .i64 0, .int .i64 0, .int .i64 0, .int .i64 0, .int .i64 0, .int .i64 0, .int .i64 0]) 7 56 Try.underlying40 ki kz0 kz1 kz2 rfl (by decide) _ _ _ rfl HW2.out ⟨w2.heap.size, 0, none⟩ 1 1 [.int .i64 K, .int .i64 W, .int .i64 T, .int .i64 m, .int .i64 f, .int .i64 a, .int .i64 x] rfl rfl ?p1a ?p2a ?p3a ?p4a ?p5a ?_)
        try case p1a => exact MemS.news_seven _ _ (by simp)
        try case p2a => exact MemS.ones_seven
        try case p3a => first | (simp only [maxLen]; omega) | omega
        try case p4a => omega
        try case p5a => first | (simp only [World.size_alloc]; omega) | omega
        intro v' w3 hown' hg' _ he
        have HN3 := Lib.hid (HN.out w3 v' _ _ hown' hg')
        clear hown' hg' he HN HW2
        go_wp2
        go_roundw
        case rel => exact HN3.out
        case measure => simp [intOf]; omega
      · obtain rfl : i = N := by omega
        obtain ⟨A, cp, rfl, _⟩ := HO.out.form
        have HBB := Lib.hid HBl.out
        have HOO := Lib.hid HO.out
        clear HO HK HBl
        go_wp2
        go_ret2
        exact ⟨A, cp, rfl, ownsRow_base HOO.out (Nat.le_succ _), HBB.out⟩
end Go.Proofs.Ytpflbcdbmainiaa.Split

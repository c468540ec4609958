/- Points of radical inverses, of the program and of the reference. -/
import Derived.Test.YtjkcdnfmmfpbjaaInvT
import Derived.Test.YtjkcdnfmmfpbjaaAllIn
namespace Go.Proofs.Ytjkcdnfmmfpbjaa.Hal
open Go.RowKit Go.Proofs.Ytjkcdnfmmfpbjaa Go.Proofs.Ytjkcdnfmmfpbjaa.Base Go.Proofs.Ytjkcdnfmmfpbjaa.Mem Go.Proofs.Ytjkcdnfmmfpbjaa.Inv Go.Proofs.Ytjkcdnfmmfpbjaa.MemF
set_option linter.unusedVariables false
def halF (n : Int) (bs : List Int) : List Int := bs.flatMap fun b => [numOf n b, denOf n b]
def halB (n : Int) (bs : List Int) : Bool := inR (bs.length : Int) 1 4 && bs.all (invB n)
def halN (n : Int) (bs : List Int) : Nat := if halB n bs = true then bs.length else 0
def halR (n : Int) (bs : List Int) : List Int := if halB n bs = true then halF n bs else []
theorem halF_snoc (n : Int) (bs : List Int) (i : Nat) (h : i < bs.length) : halF n (bs.take (i + 1)) = halF n (bs.take i) ++ [numOf n (bs.getD i 0), denOf n (bs.getD i 0)] := by
  have e : bs[i] = bs.getD i 0 := by simp [List.getD, h]
  rw [List.take_succ_eq_append_getElem h, e]
  unfold halF
  rw [List.flatMap_append, List.flatMap_singleton]
theorem all_take {n : Int} {bs : List Int} {i : Nat} (h : i < bs.length) (h1 : (bs.take i).all (invB n) = true) (h2 : invB n (bs.getD i 0) = true) : (bs.take (i + 1)).all (invB n) = true := by
  rw [List.take_succ_eq_append_getElem h, List.all_append, h1]
  have e : bs[i] = bs.getD i 0 := by simp [List.getD, h]
  rw [e]; simp only [List.all_cons, List.all_nil, h2, Bool.and_self]
theorem halB_no1 {n : Int} {bs : List Int} (h : inR (bs.length : Int) 1 4 = false) : halN n bs = 0 ∧ halR n bs = [] ∧ halB n bs = false := by
  have : halB n bs = false := by simp [halB, h]
  simp [halN, halR, this]
theorem halB_no2 {n : Int} {bs : List Int} {i : Nat} (hi : i < bs.length) (h : invB n (bs.getD i 0) = false) : halN n bs = 0 ∧ halR n bs = [] ∧ halB n bs = false := by
  have e : bs[i] = bs.getD i 0 := by simp [List.getD, hi]
  have : bs.all (invB n) = false := by
    rw [List.all_eq_false]
    exact ⟨bs[i], List.getElem_mem hi, by rw [e, h]; decide⟩
  have : halB n bs = false := by simp [halB, this]
  simp [halN, halR, this]
theorem halB_yes {n : Int} {bs : List Int} (h : inR (bs.length : Int) 1 4 = true) (h2 : bs.all (invB n) = true) : halN n bs = bs.length ∧ halR n bs = halF n bs ∧ halB n bs = true := by
  have : halB n bs = true := by simp [halB, h, h2]
  simp [halN, halR, this]
theorem halN_le (n : Int) (bs : List Int) : halN n bs ≤ 4 := by
  unfold halN
  split
  · rename_i h
    simp only [halB, Bool.and_eq_true] at h
    have := inR_true h.1
    omega
  · omega
/-- the loop's state -/
def HRel (n : Int) (bs : List Int) (w : World) (sv iv : Value) (wr : World) : Prop :=
  ∃ i : Nat, i ≤ bs.length ∧ iv = .int .i64 (i : Int) ∧ Hid (OwnF wr w.heap.size sv i (halF n (bs.take i))) ∧ Hid ((bs.take i).all (invB n) = true) ∧ Hid (Below w.heap.size w wr)
theorem HRel.start (n : Int) (bs : List Int) (w : World) : HRel n bs w (.slice (some ⟨w.heap.size, 0, none⟩) 0 0) (.int .i64 0) (w.alloc (.cells #[] 23)) := by
  refine ⟨0, Nat.zero_le _, rfl, Lib.hid ?_, Lib.hid (by simp), Lib.hid ((Below.refl _ _).alloc (Nat.le_refl _) _)⟩
  exact World.ownsRow_made w #[] 0 (Nat.le_refl _) (Nat.zero_le _) (by simp)
theorem HRel.next {n : Int} {bs : List Int} {i : Nat} {w wr w1 w2 : World} {sv v' : Value} {cs : Array Value} {t : TypeId} (hi : i < bs.length) (hO : OwnF wr w.heap.size sv i (halF n (bs.take i))) (ha : (bs.take i).all (invB n) = true) (hv : invB n (bs.getD i 0) = true) (hb : Below w.heap.size w wr) (h1 : Below wr.heap.size wr w1)
    (hown : w2.ownsRow w.heap.size 23 2 v' (i + 1) (ints (halF n (bs.take i)) ++ [.int .i64 (numOf n (bs.getD i 0)), .int .i64 (denOf n (bs.getD i 0))])) (hg : (w1.alloc (.cells cs t)).grownBy w2 sv.ownBlock) :
    HRel n bs w v' (.int .i64 ((i : Int) + 1)) w2 := by
  have hrow : ∀ g, sv.ownBlock = some g → w.heap.size ≤ g ∧ g < wr.heap.size := fun g hgg => by
    obtain ⟨_, _, h1, h2⟩ := ownsRow_block hO hgg
    exact ⟨h1, h2⟩
  have h2 : Below wr.heap.size wr (w1.alloc (.cells cs t)) := h1.alloc h1.size _
  refine ⟨i + 1, hi, by simp, Lib.hid ?_, Lib.hid (all_take hi ha hv), Lib.hid ?_⟩
  · show w2.ownsRow w.heap.size 23 2 v' (i + 1) (ints (halF n (bs.take (i + 1))))
    rw [halF_snoc n bs i hi, show ints (halF n (bs.take i) ++ [numOf n (bs.getD i 0), denOf n (bs.getD i 0)]) = ints (halF n (bs.take i)) ++ [.int .i64 (numOf n (bs.getD i 0)), .int .i64 (denOf n (bs.getD i 0))] by simp [ints]]
    exact hown
  · exact (hb.trans (h2.mono hb.size)).trans (grown_below hg (fun g e => (hrow g e).1) (Nat.le_trans hb.size h2.size))
theorem fracV_eq {n b : Int} (h : invB n b = true) : fracV (invV n.toNat b.toNat) (invU n.toNat b.toNat) = .agg #[.int .i64 (numOf n b), .int .i64 (denOf n b)] := by simp [fracV, numOf, denOf, h]
set_option maxHeartbeats 1000000 in
set_option maxRecDepth 100000 in
theorem specHal_any (A : Option Addr) (c B : Nat) (n : Int) (bs : List Int) (w : World) (hx : RdI w B A bs) (hB : B ≤ w.heap.size) (hl : bs.length ≤ 1048576) :
    Calls Try.prog 13 #[.int .i64 n, .slice A bs.length c] w (FsRet (halN n bs) (halR n bs) (halB n bs) w) := by
  have HX := Lib.hid hx
  clear hx
  cases h1 : inR (bs.length : Int) 1 4 with
  | false =>
    obtain ⟨e1, e2, e3⟩ := halB_no1 (n := n) h1
    rw [e1, e2, e3]
    clear e1 e2 e3
    go_enter Try.func13, Try.ntmps13
    go_wp2_with (go_at_call 44; refine (l00In_any _ _ _ _).mono ?_; rintro e w1 ⟨rfl, rfl⟩; rw [h1])
    go_ret2
    exact FsRet.no (Below.refl _ _)
  | true =>
    have hr := inR_true h1
    have H1 := Lib.hid h1
    obtain ⟨i2, ki, kz0, kz1, kz2⟩ := info_parts infoFr
    have H0 := Lib.hid (HRel.start n bs w)
    go_enter Try.func13, Try.ntmps13
    go_wp2_with (go_at_call 44; refine (l00In_any _ _ _ _).mono ?_; rintro e w1 ⟨rfl, rfl⟩; rw [h1])
    clear h1
    go_loopw [6, 7] (fun sv iv wr => HRel n bs w sv iv wr) (fun _ iv _ => bs.length - (intOf iv).toNat)
    case atStart => exact H0.out
    case round =>
      obtain ⟨i, hi, rfl, HO, HA, HBl⟩ := hrel
      clear H0
      by_cases hlt : i < bs.length
      · obtain ⟨b, off, rfl, _, hc⟩ := (HX.out.below HBl.out hB) (by omega)
        have g1 := hc i hlt
        clear hc
        cases hv : invB n (bs.getD i 0) with
        | false =>
          have HN := Lib.hid (halB_no2 hlt hv)
          have HD := Lib.hid (fun W => l10Digits_any n (bs.getD i 0) W)
          rw [hv] at HD
          clear hv
          generalize bs.getD i 0 = x at *
          go_wp2_with (go_at_call 40; refine (HD.out _).mono ?_; rintro e w1 ⟨rfl, rfl⟩)
          go_ret2
          rw [HN.out.1, HN.out.2.1, HN.out.2.2]
          exact FsRet.no HBl.out
        | true =>
          have HD := Lib.hid (fun W => l10Digits_any n (bs.getD i 0) W)
          rw [hv] at HD
          obtain ⟨q1, q2, q3, q4⟩ := invB_true hv
          have HI : Hid (∀ W, Calls Try.prog 41 #[.int .i64 n, .int .i64 (bs.getD i 0)] W fun e w' => e = .returned (.agg #[.int .i64 (numOf n (bs.getD i 0)), .int .i64 (denOf n (bs.getD i 0))]) ∧ Below W.heap.size W w') := Lib.hid fun W => by
            rw [← fracV_eq hv]
            have := l10Inverse_any n.toNat (bs.getD i 0).toNat (by omega) (by omega) (by omega) W
            rwa [Int.toNat_of_nonneg q1, Int.toNat_of_nonneg (show 0 ≤ bs.getD i 0 by omega)] at this
          have HN := Lib.hid (fun w1 w2 v' cs t h1 hown hg => HRel.next (w1 := w1) (w2 := w2) (v' := v') (cs := cs) (t := t) hlt HO.out HA.out hv HBl.out h1 hown hg)
          have hsz := HBl.out.size
          clear hv q1 q2 q3 q4
          generalize numOf n (bs.getD i 0) = P at *
          generalize denOf n (bs.getD i 0) = Q at *
          generalize bs.getD i 0 = x at *
          generalize halF n (bs.take i) = xs at *
          go_wp2_with (go_at_call 40; refine (HD.out _).mono ?_; rintro e w1 ⟨rfl, rfl⟩)
          refine (HI.out _).mono ?_
          rintro e w2 ⟨rfl, hb2⟩
          have hown := World.ownsRow.alloc (ownsRow_below HO.out hb2) (.cells #[.int .i64 P, .int .i64 Q] 23)
          have HNN := Lib.hid (fun w3 v' cs t hown hg => HN.out w2 w3 v' cs t hb2 hown hg)
          have hz2 : w.heap.size ≤ w2.heap.size := Nat.le_trans hsz hb2.size
          have HW2 := Lib.hid hown
          clear hown hb2 HO HA HBl HN HI HD
          go_wp2_with (at_builtin; refine wpList_append_own_at _ rfl (.tmp 26) (.tmp 33) 29 rfl w.heap.size 23 i2 (.agg #[.int .i64 0, .int .i64 0]) 2 16 Try.underlying29 ki kz0 kz1 kz2 rfl (by decide) _ _ _ rfl HW2.out ⟨w2.heap.size, 0, none⟩ 1 1 [.int .i64 P, .int .i64 Q] rfl rfl ?p1a ?p2a ?p3a ?p4a ?p5a ?_)
          try case p1a => exact MemF.news_two _ _ (by simp)
          try case p2a => exact MemF.ones_two
          try case p3a => first | (simp only [maxLen]; omega) | omega
          try case p4a => omega
          try case p5a => first | (simp only [World.size_alloc]; omega) | omega
          intro v' w3 hown' hg' _ he
          have HN3 := Lib.hid (HNN.out w3 v' _ _ hown' hg')
          clear hown' hg' he HNN HW2
          go_wp2
          go_roundw
          case rel => exact HN3.out
          case measure => simp [intOf]; omega
      · obtain rfl : i = bs.length := by omega
        obtain ⟨A', cp, rfl, _⟩ := HO.out.form
        have HBB := Lib.hid HBl.out
        have HOO := Lib.hid HO.out
        have HAA := HA.out
        rw [List.take_length] at HOO HAA
        have HY := Lib.hid (halB_yes H1.out HAA)
        clear HO HA HBl HAA
        go_wp2
        go_ret2
        rw [HY.out.1, HY.out.2.1, HY.out.2.2]
        exact ⟨A', cp, rfl, HOO.out, HBB.out⟩
set_option maxHeartbeats 1000000 in
set_option maxRecDepth 100000 in
theorem implHal_any (A : Option Addr) (c B : Nat) (n : Int) (bs : List Int) (w : World) (hx : RdI w B A bs) (hB : B ≤ w.heap.size) (hl : bs.length ≤ 1048576) :
    Calls Try.prog 15 #[.int .i64 n, .slice A bs.length c] w (FsRet (halN n bs) (halR n bs) (halB n bs) w) := by
  have HX := Lib.hid hx
  clear hx
  cases h1 : inR (bs.length : Int) 1 4 with
  | false =>
    obtain ⟨e1, e2, e3⟩ := halB_no1 (n := n) h1
    rw [e1, e2, e3]
    clear e1 e2 e3
    go_enter Try.func15, Try.ntmps15
    go_wp2_with (first | ((go_at_call 46; refine (AllIn.lenI_any _ _ _ _ (by omega)).mono ?_; rintro e w' ⟨rfl, rfl⟩)) | (go_at_call 45; refine (inRange_any _ _ _ _).mono ?_; rintro e w1 ⟨rfl, rfl⟩; rw [h1]))
    go_ret2
    exact FsRet.no (Below.refl _ _)
  | true =>
    have hr := inR_true h1
    have H1 := Lib.hid h1
    obtain ⟨i2, ki, kz0, kz1, kz2⟩ := info_parts infoFr
    have H0 := Lib.hid (HRel.start n bs w)
    go_enter Try.func15, Try.ntmps15
    go_wp2_with (first | ((go_at_call 46; refine (AllIn.lenI_any _ _ _ _ (by omega)).mono ?_; rintro e w' ⟨rfl, rfl⟩)) | (go_at_call 45; refine (inRange_any _ _ _ _).mono ?_; rintro e w1 ⟨rfl, rfl⟩; rw [h1]))
    clear h1
    go_loopw [6, 16] (fun sv iv wr => HRel n bs w sv iv wr) (fun _ iv _ => bs.length - (intOf iv).toNat)
    case atStart => exact H0.out
    case round =>
      obtain ⟨i, hi, rfl, HO, HA, HBl⟩ := hrel
      clear H0
      by_cases hlt : i < bs.length
      · obtain ⟨b, off, rfl, _, hc⟩ := (HX.out.below HBl.out hB) (by omega)
        have g1 := hc i hlt
        clear hc
        cases hv : invB n (bs.getD i 0) with
        | false =>
          have HN := Lib.hid (halB_no2 hlt hv)
          have HD := Lib.hid (fun W => isInverted_any n (bs.getD i 0) W)
          rw [hv] at HD
          clear hv
          generalize bs.getD i 0 = x at *
          go_wp2_with (go_at_call 42; refine (HD.out _).mono ?_; rintro e w1 ⟨rfl, rfl⟩)
          go_ret2
          rw [HN.out.1, HN.out.2.1, HN.out.2.2]
          exact FsRet.no HBl.out
        | true =>
          have HD := Lib.hid (fun W => isInverted_any n (bs.getD i 0) W)
          rw [hv] at HD
          obtain ⟨q1, q2, q3, q4⟩ := invB_true hv
          have HI : Hid (∀ W, Calls Try.prog 43 #[.int .i64 n, .int .i64 (bs.getD i 0)] W fun e w' => e = .returned (.agg #[.int .i64 (numOf n (bs.getD i 0)), .int .i64 (denOf n (bs.getD i 0))]) ∧ Below W.heap.size W w') := Lib.hid fun W => by
            rw [← fracV_eq hv]
            have := inverted_any n.toNat (bs.getD i 0).toNat (by omega) (by omega) (by omega) W
            rwa [Int.toNat_of_nonneg q1, Int.toNat_of_nonneg (show 0 ≤ bs.getD i 0 by omega)] at this
          have HN := Lib.hid (fun w1 w2 v' cs t h1 hown hg => HRel.next (w1 := w1) (w2 := w2) (v' := v') (cs := cs) (t := t) hlt HO.out HA.out hv HBl.out h1 hown hg)
          have hsz := HBl.out.size
          clear hv q1 q2 q3 q4
          generalize numOf n (bs.getD i 0) = P at *
          generalize denOf n (bs.getD i 0) = Q at *
          generalize bs.getD i 0 = x at *
          generalize halF n (bs.take i) = xs at *
          go_wp2_with (go_at_call 42; refine (HD.out _).mono ?_; rintro e w1 ⟨rfl, rfl⟩)
          refine (HI.out _).mono ?_
          rintro e w2 ⟨rfl, hb2⟩
          have hown := World.ownsRow.alloc (ownsRow_below HO.out hb2) (.cells #[.int .i64 P, .int .i64 Q] 23)
          have HNN := Lib.hid (fun w3 v' cs t hown hg => HN.out w2 w3 v' cs t hb2 hown hg)
          have hz2 : w.heap.size ≤ w2.heap.size := Nat.le_trans hsz hb2.size
          have HW2 := Lib.hid hown
          clear hown hb2 HO HA HBl HN HI HD
          go_wp2_with (at_builtin; refine wpList_append_own_at _ rfl (.tmp 24) (.tmp 28) 29 rfl w.heap.size 23 i2 (.agg #[.int .i64 0, .int .i64 0]) 2 16 Try.underlying29 ki kz0 kz1 kz2 rfl (by decide) _ _ _ rfl HW2.out ⟨w2.heap.size, 0, none⟩ 1 1 [.int .i64 P, .int .i64 Q] rfl rfl ?p1a ?p2a ?p3a ?p4a ?p5a ?_)
          try case p1a => exact MemF.news_two _ _ (by simp)
          try case p2a => exact MemF.ones_two
          try case p3a => first | (simp only [maxLen]; omega) | omega
          try case p4a => omega
          try case p5a => first | (simp only [World.size_alloc]; omega) | omega
          intro v' w3 hown' hg' _ he
          have HN3 := Lib.hid (HNN.out w3 v' _ _ hown' hg')
          clear hown' hg' he HNN HW2
          go_wp2
          go_roundw
          case rel => exact HN3.out
          case measure => simp [intOf]; omega
      · obtain rfl : i = bs.length := by omega
        obtain ⟨A', cp, rfl, _⟩ := HO.out.form
        have HBB := Lib.hid HBl.out
        have HOO := Lib.hid HO.out
        have HAA := HA.out
        rw [List.take_length] at HOO HAA
        have HY := Lib.hid (halB_yes H1.out HAA)
        clear HO HA HBl HAA
        go_wp2
        go_ret2
        rw [HY.out.1, HY.out.2.1, HY.out.2.2]
        exact ⟨A', cp, rfl, HOO.out, HBB.out⟩
end Go.Proofs.Ytjkcdnfmmfpbjaa.Hal

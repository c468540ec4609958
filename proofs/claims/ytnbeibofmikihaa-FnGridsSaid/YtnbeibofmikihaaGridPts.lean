/- The points of a grid, of the program and of the reference; the law. -/
import Derived.Test.YtnbeibofmikihaaGridLaw
import Derived.Test.YtnbeibofmikihaaMem
namespace Go.Proofs.Ytnbeibofmikihaa.GridP
open Go.RowKit Go.Proofs.Ytnbeibofmikihaa Go.Proofs.Ytnbeibofmikihaa.Base Go.Proofs.Ytnbeibofmikihaa.Mem Go.Proofs.Ytnbeibofmikihaa.Grid
set_option linter.unusedVariables false

def gridL (n a : Int) (k : Nat) : List (List Int) := (List.range k).map fun i : Nat => [(i : Int), a * (i : Int) % n]
theorem gridL_len (n a : Int) (k : Nat) : (gridL n a k).length = k := by simp [gridL]
theorem gridL_succ (n a : Int) (k : Nat) : gridL n a (k + 1) = gridL n a k ++ [[(k : Int), a * (k : Int) % n]] := by simp [gridL, List.range_succ]
/-- what the loops carry -/
def PtsRel (n a : Int) (w : World) (out i : Value) (wr : World) : Prop :=
  ∃ (k : Nat) (us : List Value), (k : Int) ≤ n ∧ i = .int .i64 (k : Int) ∧ OwnII wr w.heap.size out (gridL n a k) us ∧ Below w.heap.size w wr

def PtsYes (n a : Int) (w : World) (e : Ending) (w' : World) : Prop := ∃ v us, e = .returned (.tuple #[v, .bool true]) ∧ OwnII w' w.heap.size v (gridL n a n.toNat) us ∧ Below w.heap.size w w'
theorem PtsRel.next {n a : Int} {k : Nat} {us : List Value} {w wr w2 : World} {v v' : Value} (hlt : (k : Int) < n) (hO : OwnII wr w.heap.size v (gridL n a k) us) (hb : Below w.heap.size w wr)
    (hown : w2.ownsRow w.heap.size 33 1 v' (k + 1) (us ++ [.slice (some ⟨wr.heap.size, 0, none⟩) 2 2]))
    (hg : ((wr.alloc (.cells #[.int .i64 (k : Int), .int .i64 (a * (k : Int) % n)] 2)).alloc (.cells #[.slice (some ⟨wr.heap.size, 0, none⟩) 2 2] 33)).grownBy w2 v.ownBlock) :
    PtsRel n a w v' (.int .i64 ((k : Int) + 1)) w2 := by
  have h1 : Below wr.heap.size wr ((wr.alloc (.cells #[.int .i64 (k : Int), .int .i64 (a * (k : Int) % n)] 2)).alloc (.cells #[.slice (some ⟨wr.heap.size, 0, none⟩) 2 2] 33)) :=
    ((Below.refl _ _).alloc (Nat.le_refl _) _).alloc (by simp) _
  have hu := (own_lit wr (Nat.le_refl _) [(k : Int), a * (k : Int) % n] (by simp [maxLen])).alloc (.cells #[.slice (some ⟨wr.heap.size, 0, none⟩) 2 2] 33)
  refine ⟨k + 1, us ++ [.slice (some ⟨wr.heap.size, 0, none⟩) 2 2], by omega, by simp, ?_, hb.trans ((h1.mono hb.size).trans (grown_below hg (fun g he => ?_) (Nat.le_trans hb.size h1.size)))⟩
  · rw [gridL_succ]
    exact hO.push h1 hu (by rw [gridL_len]; exact hown) hg hb.size
  · obtain ⟨_, _, h3, _⟩ := ownsRow_block hO.outer he
    exact h3
set_option maxHeartbeats 1000000 in
theorem implPts_yes (n a : Int) (w : World) (h : gridB n a = true) :
    Calls Try.prog 20 #[.int .i64 n, .int .i64 a] w (PtsYes n a w) := by
  obtain ⟨h1, h2, h3, h4⟩ := gridB_true h
  obtain ⟨i0, hi, hz0, hz1, hz2⟩ := info_parts infoS
  go_enter Try.func20, Try.ntmps20
  go_wp2_with (go_at_call 56; refine (isGrid_any _ _ _).mono ?_; rintro e w' ⟨rfl, rfl⟩)
  go_loopw [6, 14] (fun out i wr => PtsRel n a w out i wr) (fun _ i _ => 500 - (intOf i).toNat)
  case atStart => exact ⟨0, [], by omega, rfl, OwnII.lit0 w (Nat.le_refl _) _ rfl, (Below.refl _ _).alloc (Nat.le_refl _) _⟩
  case round =>
    obtain ⟨k, us, hk, rfl, hO, hb⟩ := hrel
    by_cases hlt : (k : Int) < n
    · have ha0 : 0 ≤ a * (k : Int) := Int.mul_nonneg h3 (by omega)
      have ha1 : a * (k : Int) ≤ 160000 := by have := GridM.mul_le2 (a := a) (b := (k : Int)) (c := 400) (d := 400) (by omega) (by omega) (by omega) (by omega); omega
      have HO := Lib.hid hO
      have HB := Lib.hid hb
      clear hO hb
      have hlen := gridL_len n a k
      have hsz := HB.out.size
      have hown := (HO.out.outer.alloc (.cells #[.int .i64 (k : Int), .int .i64 (a * (k : Int) % n)] 2)).alloc (.cells #[.slice (some ⟨wr.heap.size, 0, none⟩) 2 2] 33)
      rw [hlen] at hown
      have HW := Lib.hid hown
      clear hown
      go_wp2_with (at_builtin; refine wpList_append_own _ rfl (.tmp 17) (.tmp 25) 30 rfl w.heap.size 33 i0 (.slice none 0 0) 1 24 Try.underlying30 hi hz0 hz1 hz2 rfl (by decide) _ _ _ rfl HW.out ⟨wr.heap.size + 1, 0, none⟩ 1 1 [.slice (some ⟨wr.heap.size, 0, none⟩) 2 2] rfl rfl ?c1 ?c2 ?c3 ?c4 ?c5 ?_)
      case c1 => exact news_one _ _ _ (by simp)
      case c2 => exact one_slice
      case c3 => simp only [maxLen]; omega
      case c4 => omega
      case c5 => simp only [World.size_alloc]; omega
      intro v' w2 hown' hg' _
      have hnext := PtsRel.next (n := n) (a := a) (w := w) hlt HO.out HB.out hown' hg'
      have HN := Lib.hid hnext
      clear hnext hown' hg'
      go_wp2
      go_roundw
      case rel => exact HN.out
      case measure => simp [intOf]; omega
    · obtain rfl : n = (k : Int) := by omega
      have HO := Lib.hid hO
      have HB := Lib.hid hb
      clear hO hb
      go_wp2
      go_ret2
      exact ⟨_, us, rfl, HO.out, HB.out⟩
set_option maxHeartbeats 1000000 in
theorem specPts_yes (n a : Int) (w : World) (h : gridB n a = true) :
    Calls Try.prog 30 #[.int .i64 n, .int .i64 a] w (PtsYes n a w) := by
  obtain ⟨h1, h2, h3, h4⟩ := gridB_true h
  obtain ⟨i0, hi, hz0, hz1, hz2⟩ := info_parts infoS
  go_enter Try.func30, Try.ntmps30
  go_wp2_with (go_at_call 54; refine (l10Grid_any _ _ _).mono ?_; rintro e w' ⟨rfl, rfl⟩)
  go_loopw [6, 7] (fun out i wr => PtsRel n a w out i wr) (fun _ i _ => 500 - (intOf i).toNat)
  case atStart => exact ⟨0, [], by omega, rfl, OwnII.lit0 w (Nat.le_refl _) _ rfl, (Below.refl _ _).alloc (Nat.le_refl _) _⟩
  case round =>
    obtain ⟨k, us, hk, rfl, hO, hb⟩ := hrel
    by_cases hlt : (k : Int) < n
    · have ha0 : 0 ≤ a * (k : Int) := Int.mul_nonneg h3 (by omega)
      have ha1 : a * (k : Int) ≤ 160000 := by have := GridM.mul_le2 (a := a) (b := (k : Int)) (c := 400) (d := 400) (by omega) (by omega) (by omega) (by omega); omega
      have HO := Lib.hid hO
      have HB := Lib.hid hb
      clear hO hb
      have hlen := gridL_len n a k
      have hsz := HB.out.size
      have hown := (HO.out.outer.alloc (.cells #[.int .i64 (k : Int), .int .i64 (a * (k : Int) % n)] 2)).alloc (.cells #[.slice (some ⟨wr.heap.size, 0, none⟩) 2 2] 33)
      rw [hlen] at hown
      have HW := Lib.hid hown
      clear hown
      go_wp2_with (at_builtin; refine wpList_append_own _ rfl (.tmp 18) (.tmp 26) 30 rfl w.heap.size 33 i0 (.slice none 0 0) 1 24 Try.underlying30 hi hz0 hz1 hz2 rfl (by decide) _ _ _ rfl HW.out ⟨wr.heap.size + 1, 0, none⟩ 1 1 [.slice (some ⟨wr.heap.size, 0, none⟩) 2 2] rfl rfl ?c1 ?c2 ?c3 ?c4 ?c5 ?_)
      case c1 => exact news_one _ _ _ (by simp)
      case c2 => exact one_slice
      case c3 => simp only [maxLen]; omega
      case c4 => omega
      case c5 => simp only [World.size_alloc]; omega
      intro v' w2 hown' hg' _
      have hnext := PtsRel.next (n := n) (a := a) (w := w) hlt HO.out HB.out hown' hg'
      have HN := Lib.hid hnext
      clear hnext hown' hg'
      go_wp2
      go_roundw
      case rel => exact HN.out
      case measure => simp [intOf]; omega
    · obtain rfl : n = (k : Int) := by omega
      have HO := Lib.hid hO
      have HB := Lib.hid hb
      clear hO hb
      go_wp2
      go_ret2
      exact ⟨_, us, rfl, HO.out, HB.out⟩

def ptsB (n a : Int) : List (List Int) := if gridB n a = true then gridL n a n.toNat else []
def PtsRet (n a : Int) (w : World) (e : Ending) (w' : World) : Prop :=
  ∃ A c us, e = .returned (.tuple #[.slice A (ptsB n a).length c, .bool (gridB n a)]) ∧ OwnII w' w.heap.size (.slice A (ptsB n a).length c) (ptsB n a) us ∧ Below w.heap.size w w'
theorem PtsRet.of {n a : Int} {w w' : World} {e : Ending} (hg : gridB n a = true) (h : PtsYes n a w e w') : PtsRet n a w e w' := by
  obtain ⟨v, us, rfl, h2, h3⟩ := h
  obtain ⟨A, c, rfl, _⟩ := h2.form
  have e : ptsB n a = gridL n a n.toNat := by rw [ptsB, if_pos hg]
  exact ⟨A, c, us, by rw [e, hg], by rw [e]; exact h2, h3⟩
theorem implPts_any (n a : Int) (w : World) : Calls Try.prog 20 #[.int .i64 n, .int .i64 a] w (PtsRet n a w) := by
  cases h : gridB n a
  · go_enter Try.func20, Try.ntmps20
    go_wp2_with (go_at_call 56; refine (isGrid_any _ _ _).mono ?_; rintro e w' ⟨rfl, rfl⟩)
    go_ret2
    exact ⟨none, 0, [], by simp [ptsB, h], by simpa [ptsB, h] using OwnII.nil _ _, Below.refl _ _⟩
  · exact (implPts_yes n a w h).mono fun _ _ hr => PtsRet.of h hr
theorem specPts_any (n a : Int) (w : World) : Calls Try.prog 30 #[.int .i64 n, .int .i64 a] w (PtsRet n a w) := by
  cases h : gridB n a
  · go_enter Try.func30, Try.ntmps30
    go_wp2_with (go_at_call 54; refine (l10Grid_any _ _ _).mono ?_; rintro e w' ⟨rfl, rfl⟩)
    go_ret2
    exact ⟨none, 0, [], by simp [ptsB, h], by simpa [ptsB, h] using OwnII.nil _ _, Below.refl _ _⟩
  · exact (specPts_yes n a w h).mono fun _ _ hr => PtsRet.of h hr
theorem ptsB_len (n a : Int) : (ptsB n a).length ≤ 400 := by
  unfold ptsB
  split
  · rw [gridL_len]; have := gridB_true ‹_›; omega
  · simp
theorem gridL_tot (n a : Int) (k : Nat) : tot (gridL n a k) = 2 * k := by
  induction k with
  | zero => rfl
  | succ k ih =>
    rw [gridL_succ, tot, List.map_append, List.sum_append]
    have : (List.map List.length (gridL n a k)).sum = 2 * k := ih
    rw [this]; simp; omega
theorem ptsB_tot (n a : Int) : tot (ptsB n a) ≤ 800 := by
  unfold ptsB
  split
  · rw [gridL_tot]; have := gridB_true ‹_›; omega
  · simp [tot]

set_option maxHeartbeats 1000000 in
theorem exactGridPoints_any (n a : Int) (w : World) :
    Calls Try.prog 9 #[.int .i64 n, .int .i64 a] w fun e w' => e = .returned (.bool true) ∧ Below w.heap.size w w' := by
  have hL := ptsB_len n a
  have hT := ptsB_tot n a
  have cS := specPts_any n a
  have cI := implPts_any n a
  generalize hxss : ptsB n a = xss at *
  have cS' : ∀ W, Calls Try.prog 30 #[.int .i64 n, .int .i64 a] W fun e W' => ∃ A c us, e = .returned (.tuple #[.slice A xss.length c, .bool (gridB n a)]) ∧ OwnII W' W.heap.size (.slice A xss.length c) xss us ∧ Below W.heap.size W W' := fun W => by
    have := cS W
    unfold PtsRet at this
    rwa [hxss] at this
  have cI' : ∀ W, Calls Try.prog 20 #[.int .i64 n, .int .i64 a] W fun e W' => ∃ A c us, e = .returned (.tuple #[.slice A xss.length c, .bool (gridB n a)]) ∧ OwnII W' W.heap.size (.slice A xss.length c) xss us ∧ Below W.heap.size W W' := fun W => by
    have := cI W
    unfold PtsRet at this
    rwa [hxss] at this
  clear hxss cS cI
  have HS := Lib.hid cS'
  have HI := Lib.hid cI'
  clear cS' cI'
  generalize gridB n a = ok at *
  go_enter Try.func9, Try.ntmps9
  go_wp2_with fail
  refine (HS.out _).mono ?_
  rintro e w1 ⟨A0, c0, us0, rfl, o0, b1⟩
  have O0 := Lib.hid o0
  have B1 := Lib.hid b1
  clear o0 b1
  go_wp2_with fail
  refine (HI.out _).mono ?_
  rintro e w2 ⟨A1, c1, us1, rfl, o1, b2⟩
  have O1 := Lib.hid o1
  have B2 := Lib.hid b2
  clear o1 b2
  go_wp2_with fail
  refine (eqII_yes A1 A0 c1 c0 _ _ xss w2 O1.out.rd (O0.out.below B2.out).rd (by omega) (by omega)).mono ?_
  rintro e w3 ⟨rfl, k3, e3⟩
  have hd : Below w2.heap.size w2 w3 := by rw [e3]; exact below_drewN (Below.refl _ _) _
  clear e3
  have hs1 := B2.out.size
  have hs2 := hd.size
  have O13 := Lib.hid (O1.out.below hd)
  have B3 := Lib.hid (Base.Below.nextA B2.out hd)
  clear hd
  go_wp2_with fail
  refine (markII_any A1 c1 _ 1 xss us1 w3 O13.out (by omega) (by omega) (by omega)).mono ?_
  rintro e w4 ⟨rfl, o4, b4⟩
  have O4 := Lib.hid o4
  have B4 := Lib.hid (B3.out.trans b4)
  have hs4 := B4.out.size
  clear o4 b4
  have hk : 1 + tot xss ≤ 1099511627776 := by omega
  go_wp2_with fail
  refine (heldII_yes A1 c1 _ 1 xss w4 (by have := O4.out; rw [← mk_len 1 xss] at this; exact this.rd) (by omega) (by omega)).mono ?_
  rintro e w' ⟨rfl, rfl⟩
  go_wp2_with fail
  refine (HI.out _).mono ?_
  rintro e w5 ⟨A2, c2, us2, rfl, o5, b5⟩
  have O5 := Lib.hid o5
  have B5 := Lib.hid b5
  clear o5 b5
  go_wp2_with fail
  refine (eqII_yes A2 A0 c2 c0 _ _ xss w5 O5.out.rd (((O0.out.below B4.out).below B5.out)).rd (by omega) (by omega)).mono ?_
  rintro e w6 ⟨rfl, k6, rfl⟩
  go_wp2_with fail
  refine (heldII_yes A1 c1 _ 1 xss _ (by have := (O4.out.below B5.out).below (below_drewN (Below.refl _ _) k6); rw [← mk_len 1 xss] at this; exact this.rd) (by omega) (by omega)).mono ?_
  rintro e w' ⟨rfl, rfl⟩
  go_wp2
  go_ret
  exact ⟨rfl, below_drewN (Base.Below.nextA (Base.Below.nextA B1.out B4.out) B5.out) _⟩
end Go.Proofs.Ytnbeibofmikihaa.GridP

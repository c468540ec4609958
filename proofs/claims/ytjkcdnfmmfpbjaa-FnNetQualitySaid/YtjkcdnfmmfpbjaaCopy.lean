/- The laws' sizes and copies of lists of int64 and of lists of them. -/
import Derived.Test.YtjkcdnfmmfpbjaaMem
namespace Go.Proofs.Ytjkcdnfmmfpbjaa.Cpy
open Go.RowKit Go.Proofs.Ytjkcdnfmmfpbjaa Go.Proofs.Ytjkcdnfmmfpbjaa.Base Go.Proofs.Ytjkcdnfmmfpbjaa.Mem
set_option linter.unusedVariables false

/-! ### Sizes -/
theorem szI_neg (A : Option Addr) (n c : Nat) (k : Int) (w : World) (hn : n ≤ 9223372036854775807) (hk : 0 ≤ k) (hk2 : k ≤ 1048576) (h : k - (n : Int) < 0) :
    Calls Try.prog 49 #[.slice A n c, .int .i64 k] w fun e w' => e = .returned (.int .i64 (-1)) ∧ w = w' := by
  go_enter Try.func49, Try.ntmps49
  go_wp2
  go_ret
  exact ⟨rfl, rfl⟩
theorem szI_ok (A : Option Addr) (n c : Nat) (k : Int) (w : World) (hn : n ≤ 9223372036854775807) (hk : 0 ≤ k) (hk2 : k ≤ 1048576) (h : ¬ k - (n : Int) < 0) :
    Calls Try.prog 49 #[.slice A n c, .int .i64 k] w fun e w' => e = .returned (.int .i64 (k - n)) ∧ w = w' := by
  go_enter Try.func49, Try.ntmps49
  go_wp2
  go_ret
  exact ⟨rfl, rfl⟩
/-- a number below 0, or all elements and lists counted fit -/
def SzRet (k : Int) (xss : List (List Int)) (w : World) (e : Ending) (w' : World) : Prop := ∃ r : Int, e = .returned (.int .i64 r) ∧ (r = -1 ∨ (0 ≤ r ∧ r = k - xss.length - tot xss)) ∧ w = w'
set_option maxHeartbeats 400000 in
theorem szII_any (A : Option Addr) (c B : Nat) (k : Int) (xss : List (List Int)) (w : World) (hx : RdII w B A xss) (hn : xss.length ≤ 9223372036854775807) (hn' : ∀ xs ∈ xss, xs.length ≤ 9223372036854775807) (hk : 0 ≤ k) (hk2 : k ≤ 1048576) :
    Calls Try.prog 24 #[.slice A xss.length c, .int .i64 k] w (SzRet k xss w) := by
  have HN := Lib.hid hn'
  clear hn'
  by_cases h0 : k - (xss.length : Int) < 0
  · clear hx
    go_enter Try.func24, Try.ntmps24
    go_wp2
    go_ret
    exact ⟨-1, rfl, .inl rfl, rfl⟩
  · go_enter Try.func24, Try.ntmps24
    go_wp2
    go_loop [1, 5] (fun q i => ∃ j : Nat, j ≤ xss.length ∧ i = .int .i64 (j : Int) ∧ q = .int .i64 (k - xss.length - tot (xss.take j)) ∧ 0 ≤ k - xss.length - tot (xss.take j)) (fun _ i => xss.length - (intOf i).toNat)
    case atStart => exact ⟨0, Nat.zero_le _, rfl, by simp [tot], by simp [tot]; omega⟩
    case round =>
      obtain ⟨j, hj, rfl, rfl, hge⟩ := hrel
      by_cases hlt : j < xss.length
      · obtain ⟨b, off, rfl, _, hc⟩ := hx (by omega)
        obtain ⟨A1, c1, g1, _⟩ := hc j hlt
        have hs := Lib.hid (tot_take_succ xss j hlt)
        have hl : (xss.getD j []).length ≤ 9223372036854775807 := HN.out _ (by simp [List.getD, hlt])
        clear hc hx
        generalize (xss.getD j []).length = n at *
        generalize tot (xss.take j) = t at *
        by_cases hneg : k - (xss.length : Int) - (t : Int) - (n : Int) < 0
        · go_wp2_with (go_at_call 49; refine (szI_neg A1 n c1 _ _ hl (by omega) (by omega) hneg).mono ?_; rintro e w' ⟨rfl, rfl⟩)
          go_ret
          exact ⟨-1, rfl, .inl rfl, rfl⟩
        · go_wp2_with (go_at_call 49; refine (szI_ok A1 n c1 _ _ hl (by omega) (by omega) hneg).mono ?_; rintro e w' ⟨rfl, rfl⟩)
          go_round
          case rel => exact ⟨j + 1, by omega, by go_num, by rw [hs.out]; congr 1; simp; omega, by rw [hs.out]; simp; omega⟩
          case measure => simp [intOf]; omega
      · obtain rfl : j = xss.length := by omega
        clear hx
        rw [List.take_length] at hge
        rw [List.take_length]
        go_wp2
        go_ret
        exact ⟨_, rfl, .inr ⟨hge, rfl⟩, rfl⟩

/-! ### Copies -/
theorem half_set {α : Type} (f : α → Value) (z : Value) (xs : List α) (d : α) (j : Nat) (h : j < xs.length) :
    ((xs.take j).map f ++ List.replicate (xs.length - j) z).set j (f (xs.getD j d)) = (xs.take (j + 1)).map f ++ List.replicate (xs.length - (j + 1)) z := by
  have hl : ((xs.take j).map f).length = j := by simp; omega
  rw [List.set_append_right _ _ (Nat.le_of_eq hl), hl, Nat.sub_self, show xs.length - j = (xs.length - (j + 1)) + 1 by omega, List.replicate_succ, List.set_cons_zero,
    List.take_succ_eq_append_getElem h, List.map_append, List.append_assoc]
  simp [List.getD, h]
theorem half_get {α : Type} (f : α → Value) (z : Value) (xs : List α) (j : Nat) (h : j < xs.length) : ((xs.take j).map f ++ List.replicate (xs.length - j) z)[j]? = some z := by
  have hl : ((xs.take j).map f).length = j := by simp; omega
  rw [List.getElem?_append_right (Nat.le_of_eq hl), hl, Nat.sub_self, List.getElem?_replicate, if_pos (by omega)]
def ToRel (B g : Nat) (xs : List Int) (w : World) (i : Value) (wr : World) : Prop :=
  ∃ j : Nat, j ≤ xs.length ∧ i = .int .i64 (j : Int) ∧ wr.ownsRow B 2 1 (.slice (some ⟨g, 0, none⟩) xs.length xs.length) xs.length ((xs.take j).map (Value.int .i64) ++ List.replicate (xs.length - j) (.int .i64 0)) ∧ Below B w wr
theorem ToRel.next {B g j : Nat} {xs : List Int} {w wr : World} (hj : j < xs.length) (hg : B ≤ g)
    (h : wr.ownsRow B 2 1 (.slice (some ⟨g, 0, none⟩) xs.length xs.length) xs.length ((xs.take j).map (Value.int .i64) ++ List.replicate (xs.length - j) (.int .i64 0))) (hb : Below B w wr) :
    ToRel B g xs w (.int .i64 ((j : Int) + 1)) (wr.setCell ⟨g, j, none⟩ (.int .i64 (xs.getD j 0))) := by
  obtain ⟨h1, _⟩ := h.stored j (.int .i64 (xs.getD j 0))
  rw [half_set (Value.int .i64) _ xs 0 j hj] at h1
  exact ⟨j + 1, hj, by simp, h1, hb.setCell hg _⟩
set_option maxHeartbeats 400000 in
theorem toI_any (A : Option Addr) (c B0 : Nat) (xs : List Int) (w : World) (hx : RdI w B0 A xs) (hB : B0 ≤ w.heap.size) (hn : xs.length ≤ 1048576) :
    Calls Try.prog 14 #[.slice A xs.length c] w fun e w' => ∃ g, e = .returned (.slice (some ⟨g, 0, none⟩) xs.length xs.length) ∧ OwnI w' w.heap.size (.slice (some ⟨g, 0, none⟩) xs.length xs.length) xs ∧ Below w.heap.size w w' := by
  have hmk := run_make_row' (P := Try.prog) 28 2 (.int .i64 0) 8 Try.underlying28 infoI rfl .i64 .i64 xs.length (by omega) (by omega)
  have h0 : ToRel w.heap.size w.heap.size xs w (.int .i64 0) (w.alloc (.cells (madeCells #[.int .i64 0] xs.length) 2)) := by
    refine ⟨0, Nat.zero_le _, rfl, ?_, (Below.refl _ _).alloc (Nat.le_refl _) _⟩
    have := World.ownsRow_lit (e := 2) (size := 1) (base := w.heap.size) w (madeCells #[.int .i64 0] xs.length) xs.length (Nat.le_refl _) (by simp [maxLen]; omega) (by simp [size_madeCells])
    rw [toList_madeCells_one] at this
    simpa using this
  have H0 := Lib.hid h0
  clear h0
  go_enter Try.func14, Try.ntmps14
  go_wp2
  clear hmk
  go_loopw [4] (fun i wr => ToRel w.heap.size w.heap.size xs w i wr) (fun i _ => xs.length - (intOf i).toNat)
  case atStart => exact H0.out
  case round =>
    obtain ⟨j, hj, rfl, hrow, hb⟩ := hrel
    by_cases hlt : j < xs.length
    · obtain ⟨b, off, rfl, hbB, hc⟩ := (hx.below hb hB) (by omega)
      have g1 := hc j hlt
      have hcell := hrow.cellAt j (by omega)
      have hfz := hrow.frozenAt j
      have hcell' : wr.cell? ⟨w.heap.size, j, none⟩ = some (.int .i64 0) := by
        rw [hcell, half_get _ _ _ _ hlt]
      have HN := Lib.hid (ToRel.next hlt (Nat.le_refl _) hrow hb)
      clear hrow hb hx hc hcell
      generalize xs.getD j 0 = x at *
      go_wp2
      go_roundw
      case rel => exact HN.out
      case measure => simp [intOf]; omega
    · obtain rfl : j = xs.length := by omega
      have HR := Lib.hid hrow
      have HB := Lib.hid hb
      clear hrow hb hx
      go_wp2
      go_ret
      refine ⟨w.heap.size, rfl, ?_, HB.out⟩
      have := HR.out
      simpa [OwnI, ints] using this

/-- lists of the call's own, without the list that holds them -/
structure OwnRows (w : World) (B : Nat) (us : List Value) (xss : List (List Int)) : Prop where
  len : us.length = xss.length
  inner : ∀ i, i < xss.length → OwnI w B (us.getD i undef) (xss.getD i [])
  apart : ∀ i j g, i < j → j < xss.length → (us.getD i undef).ownBlock = some g → (us.getD j undef).ownBlock ≠ some g
theorem OwnRows.nil (w : World) (B : Nat) : OwnRows w B [] [] := ⟨rfl, fun i hi => absurd hi (Nat.not_lt_zero i), fun i j g _ hj => absurd hj (Nat.not_lt_zero j)⟩
theorem OwnRows.push {wr w1 w2 : World} {B n : Nat} {v u : Value} {xss : List (List Int)} {us vs : List Value} {ys : List Int} (h : OwnRows wr B us xss) (h1 : Below wr.heap.size wr w1)
    (hu : w1.ownsRow wr.heap.size 2 1 u ys.length (ints ys)) (ho : w1.ownsRow B 28 1 v n vs) (hg : w1.grownBy w2 v.ownBlock) (hB : B ≤ wr.heap.size) :
    OwnRows w2 B (us ++ [u]) (xss ++ [ys]) := by
  refine ⟨by simp [h.len], fun i hi => ?_, fun i j g hij hj hg1 hg2 => ?_⟩
  · rw [List.length_append] at hi
    rcases Nat.lt_or_ge i xss.length with hlt | hge
    · have hl : i < us.length := by rw [h.len]; exact hlt
      rw [show (us ++ [u]).getD i undef = us.getD i undef by simp [List.getD, List.getElem?_append_left hl],
        show (xss ++ [ys]).getD i [] = xss.getD i [] by simp [List.getD, List.getElem?_append_left hlt]]
      have hi1 := (h.inner i hlt).below h1
      exact World.ownsRow.kept hi1 hg (own_ne hi1 ho (by decide))
    · obtain rfl : i = xss.length := by simp at hi; omega
      rw [show (us ++ [u]).getD xss.length undef = u by simp [List.getD, ← h.len],
        show (xss ++ [ys]).getD xss.length [] = ys by simp [List.getD]]
      exact World.ownsRow.kept (ownsRow_base hu hB) hg (own_ne hu ho (by decide))
  · rw [List.length_append] at hj
    have hlt : i < xss.length := by simp at hj; omega
    have hl : i < us.length := by rw [h.len]; exact hlt
    rw [show (us ++ [u]).getD i undef = us.getD i undef by simp [List.getD, List.getElem?_append_left hl]] at hg1
    rcases Nat.lt_or_ge j xss.length with hj1 | hge
    · have hlj : j < us.length := by rw [h.len]; exact hj1
      rw [show (us ++ [u]).getD j undef = us.getD j undef by simp [List.getD, List.getElem?_append_left hlj]] at hg2
      exact h.apart i j g hij hj1 hg1 hg2
    · obtain rfl : j = xss.length := by simp at hj; omega
      rw [show (us ++ [u]).getD xss.length undef = u by simp [List.getD, ← h.len]] at hg2
      obtain ⟨_, _, _, b1⟩ := ownsRow_block (h.inner i hlt) hg1
      obtain ⟨_, _, b2, _⟩ := ownsRow_block hu hg2
      omega
def ToRel2 (B g : Nat) (xss : List (List Int)) (w : World) (i : Value) (wr : World) : Prop :=
  ∃ (j : Nat) (us : List Value), j ≤ xss.length ∧ i = .int .i64 (j : Int) ∧ us.length = j ∧
    wr.ownsRow B 28 1 (.slice (some ⟨g, 0, none⟩) xss.length xss.length) xss.length (us ++ List.replicate (xss.length - j) (.slice none 0 0)) ∧ OwnRows wr B us (xss.take j) ∧ Below B w wr
theorem us_set {us : List Value} {j n : Nat} (hj : us.length = j) (hn : j < n) (u z : Value) : (us ++ List.replicate (n - j) z).set j u = (us ++ [u]) ++ List.replicate (n - (j + 1)) z := by
  rw [List.set_append_right _ _ (Nat.le_of_eq hj), hj, Nat.sub_self, show n - j = (n - (j + 1)) + 1 by omega, List.replicate_succ, List.set_cons_zero, List.append_assoc]
  rfl
theorem us_get {us : List Value} {j n : Nat} (hj : us.length = j) (hn : j < n) (z : Value) : (us ++ List.replicate (n - j) z)[j]? = some z := by
  rw [List.getElem?_append_right (Nat.le_of_eq hj), hj, Nat.sub_self, List.getElem?_replicate, if_pos (by omega)]
theorem ToRel2.next {B g j : Nat} {xss : List (List Int)} {us : List Value} {w wr w1 : World} {u : Value} (hj : j < xss.length) (hl : us.length = j) (hg : B ≤ g)
    (ho : wr.ownsRow B 28 1 (.slice (some ⟨g, 0, none⟩) xss.length xss.length) xss.length (us ++ List.replicate (xss.length - j) (.slice none 0 0))) (hr : OwnRows wr B us (xss.take j)) (hb : Below B w wr) (hB : B ≤ wr.heap.size)
    (h1 : Below wr.heap.size wr w1) (hu : OwnI w1 wr.heap.size u (xss.getD j [])) :
    ToRel2 B g xss w (.int .i64 ((j : Int) + 1)) (w1.setCell ⟨g, j, none⟩ u) := by
  have ho1 := ownsRow_below ho h1
  obtain ⟨s1, s2⟩ := ho1.stored j u
  rw [us_set hl hj] at s1
  refine ⟨j + 1, us ++ [u], hj, by simp, by simp [hl], s1, ?_, (hb.trans (h1.mono hB)).setCell hg _⟩
  have := hr.push h1 hu ho1 s2 hB
  rw [List.take_succ_eq_append_getElem hj]
  have e : xss[j] = xss.getD j [] := by simp [List.getD, hj]
  rw [e]; exact this
set_option maxHeartbeats 1000000 in
theorem toII_any (A : Option Addr) (c B0 : Nat) (xss : List (List Int)) (w : World) (hx : RdII w B0 A xss) (hB : B0 ≤ w.heap.size) (hn : xss.length ≤ 1048576) (ht : tot xss ≤ 1048576) :
    Calls Try.prog 26 #[.slice A xss.length c] w fun e w' => ∃ g us, e = .returned (.slice (some ⟨g, 0, none⟩) xss.length xss.length) ∧ OwnII w' w.heap.size (.slice (some ⟨g, 0, none⟩) xss.length xss.length) xss us ∧ Below w.heap.size w w' := by
  have hmk := run_make_row' (P := Try.prog) 42 28 (.slice none 0 0) 24 Try.underlying42 infoS rfl .i64 .i64 xss.length (by omega) (by omega)
  have h0 : ToRel2 w.heap.size w.heap.size xss w (.int .i64 0) (w.alloc (.cells (madeCells #[.slice none 0 0] xss.length) 28)) := by
    refine ⟨0, [], Nat.zero_le _, rfl, rfl, ?_, OwnRows.nil _ _, (Below.refl _ _).alloc (Nat.le_refl _) _⟩
    have := World.ownsRow_lit (e := 28) (size := 1) (base := w.heap.size) w (madeCells #[.slice none 0 0] xss.length) xss.length (Nat.le_refl _) (by simp [maxLen]; omega) (by simp [size_madeCells])
    rw [toList_madeCells_one] at this
    simpa using this
  have H0 := Lib.hid h0
  clear h0
  go_enter Try.func26, Try.ntmps26
  go_wp2
  clear hmk
  go_loopw [4] (fun i wr => ToRel2 w.heap.size w.heap.size xss w i wr) (fun i _ => xss.length - (intOf i).toNat)
  case atStart => exact H0.out
  case round =>
    obtain ⟨j, us, hj, rfl, hus, hrow, hR, hb⟩ := hrel
    by_cases hlt : j < xss.length
    · obtain ⟨b, off, rfl, hbB, hc⟩ := (hx.below hb hB) (by omega)
      obtain ⟨A1, c1, g1, r1⟩ := hc j hlt
      have hlen := len_le_tot xss j hlt
      have hcell := (hrow.cellAt j (by omega)).trans (us_get hus hlt _)
      have hfz := hrow.frozenAt j
      have hsz : w.heap.size < wr.heap.size := block_lt_of_cell hcell
      have hcall := Lib.hid (toI_any A1 c1 B0 (xss.getD j []) wr r1 (by omega) (by omega))
      have HN := Lib.hid (fun (w1 : World) (u : Value) => ToRel2.next (w := w) (w1 := w1) (u := u) hlt hus (Nat.le_refl _) hrow hR hb (by omega))
      clear hrow hb hx hc hR
      generalize xss.getD j [] = ys at *
      go_wp2_with fail
      refine hcall.out.mono ?_
      rintro e w1 ⟨g, rfl, hu, h1⟩
      have e1 := (h1.cell (p := ⟨w.heap.size, j, none⟩) hsz).trans hcell
      have e2 := (h1.frozen (p := ⟨w.heap.size, j, none⟩) hsz).trans hfz
      have HM := Lib.hid (HN.out w1 _ h1 hu)
      clear h1 hu hcell hfz
      go_wp2
      go_roundw
      case rel => exact HM.out
      case measure => simp [intOf]; omega
    · obtain rfl : j = xss.length := by omega
      have HO : Hid _ := Lib.hid (show OwnII wr w.heap.size (.slice (some ⟨w.heap.size, 0, none⟩) xss.length xss.length) xss us from by
        rw [List.take_length] at hR
        rw [Nat.sub_self, List.replicate_zero, List.append_nil] at hrow
        exact ⟨hR.len, hrow, hR.inner, hR.apart⟩)
      have HB := Lib.hid hb
      clear hrow hb hx hR
      go_wp2
      go_ret
      exact ⟨w.heap.size, us, rfl, HO.out, HB.out⟩
end Go.Proofs.Ytjkcdnfmmfpbjaa.Cpy

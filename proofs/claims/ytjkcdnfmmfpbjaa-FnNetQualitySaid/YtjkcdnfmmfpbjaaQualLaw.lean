/- The quality of a net: the law. -/
import Derived.Test.YtjkcdnfmmfpbjaaQualSm
import Derived.Test.YtjkcdnfmmfpbjaaNetLaw
import Derived.Test.YtjkcdnfmmfpbjaaOpen
namespace Go.Proofs.Ytjkcdnfmmfpbjaa.QualI
open Go.RowKit Go.Proofs.Ytjkcdnfmmfpbjaa Go.Proofs.Ytjkcdnfmmfpbjaa.Base Go.Proofs.Ytjkcdnfmmfpbjaa.Mem Go.Proofs.Ytjkcdnfmmfpbjaa.Pts Go.Proofs.Ytjkcdnfmmfpbjaa.NetV Go.Proofs.Ytjkcdnfmmfpbjaa.Ways Go.Proofs.Ytjkcdnfmmfpbjaa.QualL
set_option linter.unusedVariables false
theorem isQ_ex (b : Nat) (Ms : List (List Nat)) : ∃ t, IsQ b Ms t := by
  have key : ∀ n, n ≤ b → (∃ t, IsQ b Ms t) ∨ ∀ s, s < n → ¬ IndFor Ms (b - s) [] := by
    intro n
    induction n with
    | zero => intro _; exact .inr fun s hs => absurd hs (Nat.not_lt_zero s)
    | succ n ih =>
      intro hn
      rcases ih (by omega) with h | h
      · exact .inl h
      · by_cases hi : IndFor Ms (b - n) []
        · exact .inl ⟨n, by omega, hi, h⟩
        · refine .inr fun s hs => ?_
          rcases Nat.lt_or_ge s n with h2 | h2
          · exact h s h2
          · rw [show s = n by omega]; exact hi
  rcases key b (Nat.le_refl _) with h | h
  · exact h
  · exact ⟨b, Nat.le_refl _, by rw [Nat.sub_self]; exact indFor_zero Ms, h⟩
/-- what both functions return -/
noncomputable def qualV (bits : Int) (xss : List (List Int)) : Int := if netB bits xss = true then ((isQ_ex bits.toNat (natss xss)).choose : Int) else 0
theorem both_of {bits : Int} {xss : List (List Int)} {w w' : World} {e : Ending} (h : (netB bits xss = true → QRet bits.toNat xss w e w') ∧ (netB bits xss = false → QNo w e w')) :
    e = .returned (.tuple #[.int .i64 (qualV bits xss), .bool (netB bits xss)]) ∧ Below w.heap.size w w' := by
  cases hn : netB bits xss with
  | false =>
    obtain ⟨h1, h2⟩ := h.2 hn
    exact ⟨by rw [h1]; simp [qualV, hn], h2⟩
  | true =>
    obtain ⟨t, h1, h2, h3⟩ := h.1 hn
    have := (isQ_ex bits.toNat (natss xss)).choose_spec.uniq h2
    exact ⟨by rw [h1]; simp [qualV, hn, this], h3⟩
theorem implQ' (A : Option Addr) (c B : Nat) (bits : Int) (xss : List (List Int)) (w : World) (hx : RdC w B A xss) (hB : B ≤ w.heap.size) (hl : xss.length ≤ 1048576) (hm : tot xss ≤ 1048576) :
    Calls Try.prog 35 #[.agg #[.int .i64 bits, .slice A xss.length c]] w fun e w' => e = .returned (.tuple #[.int .i64 (qualV bits xss), .bool (netB bits xss)]) ∧ Below w.heap.size w w' :=
  (implQ_any A c B bits xss w hx hB hl hm).mono fun e w' h => both_of h
theorem specQ' (A : Option Addr) (c B : Nat) (bits : Int) (xss : List (List Int)) (w : World) (hx : RdC w B A xss) (hB : B ≤ w.heap.size) (hl : xss.length ≤ 1048576) (hm : tot xss ≤ 1048576) :
    Calls Try.prog 33 #[.agg #[.int .i64 bits, .slice A xss.length c]] w fun e w' => e = .returned (.tuple #[.int .i64 (qualV bits xss), .bool (netB bits xss)]) ∧ Below w.heap.size w w' :=
  (specQ_any A c B bits xss w hx hB hl hm).mono fun e w' h => both_of h
set_option maxHeartbeats 2000000 in
theorem exactQ_any (A : Option Addr) (c : Nat) (bits : Int) (xss : List (List Int)) (w : World) (hl : xss.length ≤ 9223372036854775807) (hl' : ∀ xs ∈ xss, xs.length ≤ 9223372036854775807) (hx : RdII w w.heap.size A xss) :
    Calls Try.prog 8 #[.agg #[.int .i64 bits, .slice A xss.length c]] w fun e w' => e = .returned (.bool true) ∧ Below w.heap.size w w' := by
  have hb0 : Below w.heap.size w (w.alloc (.cells #[.int .i64 bits, .slice A xss.length c] 55)) := (Below.refl _ _).alloc (Nat.le_refl _) _
  have HX := Lib.hid hx
  have hsz := Lib.hid (szNet_any A c w.heap.size bits 1048576 xss (w.alloc (.cells #[.int .i64 bits, .slice A xss.length c] 55)) (hx.below hb0 (Nat.le_refl _)) (by simp) hl hl' (by omega) (by omega))
  have HL := Lib.hid hl'
  have HB0 := Lib.hid hb0
  clear hx hl' hb0
  go_enter Try.func8, Try.ntmps8
  go_wp2_with fail
  refine hsz.out.mono ?_
  rintro e w1 ⟨r, rfl, hr, b1⟩
  have B1 := Lib.hid b1
  clear b1
  have d0 : w1.cell? ⟨w.heap.size, 0, none⟩ = some (.int .i64 bits) := box_cells B1.out 0
  have d1 : w1.cell? ⟨w.heap.size, 1, none⟩ = some (.slice A xss.length c) := box_cells B1.out 1
  rcases hr with rfl | ⟨hr0, hr1⟩
  · clear d0 d1
    go_wp2
    go_ret
    exact ⟨rfl, Base.Below.boxed B1.out⟩
  · have hl1 : xss.length ≤ 1048576 := by omega
    have ht1 : tot xss ≤ 1048576 := by omega
    clear hr1
    have CT : Hid (∀ (W : World), Below w.heap.size w W → Calls Try.prog 34 #[.agg #[.int .i64 bits, .slice A xss.length c]] W (ToNetRet bits xss W)) :=
      Lib.hid fun W hW => toNet_any A c w.heap.size bits xss W (HX.out.below hW (Nat.le_refl _)) hW.size hl1 ht1
    go_wp2_with fail
    refine (CT.out w1 (Base.Below.boxed B1.out)).mono ?_
    rintro e w2 ⟨g2, us2, rfl, o2, b2⟩
    have B2 := Lib.hid (Base.Below.nextA B1.out b2)
    have S2 := Lib.hid (specQ' (some ⟨g2, 0, none⟩) xss.length _ bits xss w2 o2.rdC (Nat.le_refl _) hl1 ht1)
    clear o2 b2
    go_wp2_with fail
    refine S2.out.mono ?_
    rintro e w3 ⟨rfl, b3⟩
    have B3 := Lib.hid (Base.Below.nextA B2.out b3)
    clear b3 d0 d1
    have d0 : w3.cell? ⟨w.heap.size, 0, none⟩ = some (.int .i64 bits) := box_cells B3.out 0
    have d1 : w3.cell? ⟨w.heap.size, 1, none⟩ = some (.slice A xss.length c) := box_cells B3.out 1
    go_wp2_with fail
    refine (CT.out w3 (Base.Below.boxed B3.out)).mono ?_
    rintro e w4 ⟨g4, us4, rfl, o4, b4⟩
    have B4 := Lib.hid (Base.Below.nextA B3.out b4)
    have O4 := Lib.hid o4
    clear o4 b4 d0 d1
    have b5 : Below w4.heap.size w4 (w4.alloc (.cells #[.int .i64 bits, .slice (some ⟨g4, 0, none⟩) xss.length xss.length] 49)) := (Below.refl _ _).alloc (Nat.le_refl _) _
    have B5 := Lib.hid b5
    have S5 := Lib.hid (implQ' (some ⟨g4, 0, none⟩) xss.length w4.heap.size bits xss (w4.alloc (.cells #[.int .i64 bits, .slice (some ⟨g4, 0, none⟩) xss.length xss.length] 49)) (O4.out.rdC.below b5 (Nat.le_refl _)) (by simp) hl1 ht1)
    clear b5
    go_wp2_with fail
    refine S5.out.mono ?_
    rintro e w6 ⟨rfl, b6⟩
    have q0 : w6.cell? ⟨w4.heap.size, 0, none⟩ = some (.int .i64 bits) := box_cells b6 0
    have q1 : w6.cell? ⟨w4.heap.size, 1, none⟩ = some (.slice (some ⟨g4, 0, none⟩) xss.length xss.length) := box_cells b6 1
    have hb6 := B5.out.trans (b6.mono (by simp))
    have B6 := Lib.hid (Base.Below.nextA B4.out hb6)
    have O6 := Lib.hid (O4.out.below hb6)
    have hz4 : w4.heap.size < w6.heap.size := by have := b6.size; simp at this; omega
    have hz0 : w.heap.size < w6.heap.size := by have := B6.out.size; simp at this; omega
    clear b6 hb6
    have d0 : w6.cell? ⟨w.heap.size, 0, none⟩ = some (.int .i64 bits) := box_cells B6.out 0
    have d1 : w6.cell? ⟨w.heap.size, 1, none⟩ = some (.slice A xss.length c) := box_cells B6.out 1
    generalize netB bits xss = ok at *
    generalize qualV bits xss = q at *
    have hb : (ok != ok) = false := by simp
    have hbq : (q != q) = false := by simp
    have CE : Hid (∀ (W7 : World) (g7 : Nat) (us7 : List Value), Below w6.heap.size w6 W7 → OwnII W7 w6.heap.size (.slice (some ⟨g7, 0, none⟩) xss.length xss.length) xss us7 →
        Calls Try.prog 36 #[.agg #[.int .i64 bits, .slice (some ⟨g4, 0, none⟩) xss.length xss.length], .agg #[.int .i64 bits, .slice (some ⟨g7, 0, none⟩) xss.length xss.length]] W7 fun e w' => e = .returned (.bool true) ∧ Below W7.heap.size W7 w') :=
      Lib.hid fun W7 g7 us7 hb7 o7 => eqNet_yes _ _ _ _ W7.heap.size W7.heap.size bits xss W7 (O6.out.below hb7).rd o7.rd (Nat.le_refl _) (Nat.le_refl _) (by omega) (by omega)
    have CT6 : Hid (∀ (W : World), Below w6.heap.size w6 W → Calls Try.prog 34 #[.agg #[.int .i64 bits, .slice A xss.length c]] W fun e w' => ∃ g us, e = .returned (.agg #[.int .i64 bits, .slice (some ⟨g, 0, none⟩) xss.length xss.length]) ∧ OwnII w' w6.heap.size (.slice (some ⟨g, 0, none⟩) xss.length xss.length) xss us ∧ Below w6.heap.size w6 w') :=
      Lib.hid fun W hW => (CT.out W (Base.Below.boxed (B6.out.trans (hW.mono (by simp; omega))))).mono fun e w' ⟨g, us, h1, h2, h3⟩ => ⟨g, us, h1, h2.base hW.size, Base.Below.nextA hW h3⟩
    go_wp2
    go_region_with (first | (go_at_call 34; refine (CT6.out _ (by first | exact Below.refl _ _ | exact (Below.refl _ _).drew | exact below_drewN (Below.refl _ _) _)).mono ?_; rintro e w7 ⟨g7, us7, rfl, o7, b7⟩; have q0' := (b7.cell (p := ⟨w4.heap.size, 0, none⟩) hz4).trans q0; have q1' := (b7.cell (p := ⟨w4.heap.size, 1, none⟩) hz4).trans q1; have d0' := (b7.cell (p := ⟨w.heap.size, 0, none⟩) hz0).trans d0; have d1' := (b7.cell (p := ⟨w.heap.size, 1, none⟩) hz0).trans d1) | (go_at_call 36; refine (CE.out _ g7 us7 b7 o7).mono ?_; rintro e w8 ⟨rfl, b8⟩))
    all_goals (try go_wp2)
    all_goals go_ret
    all_goals exact ⟨rfl, Base.Below.boxed (B6.out.trans ((Base.Below.nextA b7 b8).mono (by simp; omega)))⟩

theorem exactQ_v {w : World} {v : Value} (h : Open.IsNet w v) : Calls Try.prog 8 #[v] w fun e w' => e = .returned (.bool true) ∧ Below w.heap.size w w' := by
  obtain ⟨bits, A, c, xss, rfl, hl, hl', hx⟩ := h.ex
  exact exactQ_any A c bits xss w hl hl' hx
end Go.Proofs.Ytjkcdnfmmfpbjaa.QualI

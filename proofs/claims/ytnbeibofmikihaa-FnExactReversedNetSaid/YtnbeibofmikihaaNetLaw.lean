/- The laws' copies and comparisons of nets; the law of ValidNet. -/
import Derived.Test.YtnbeibofmikihaaNetV
import Derived.Test.YtnbeibofmikihaaCopy
import Derived.Test.YtnbeibofmikihaaOpen
import Derived.Deep.RegionWith
namespace Go.Proofs.Ytnbeibofmikihaa.NetV
open Go.RowKit Go.Proofs.Ytnbeibofmikihaa Go.Proofs.Ytnbeibofmikihaa.Base Go.Proofs.Ytnbeibofmikihaa.Mem Go.Proofs.Ytnbeibofmikihaa.Cpy
set_option linter.unusedVariables false

theorem szNet_any (A : Option Addr) (c B : Nat) (bits k : Int) (xss : List (List Int)) (w : World) (hx : RdII w B A xss) (hB : B ≤ w.heap.size) (hn : xss.length ≤ 9223372036854775807) (hn' : ∀ xs ∈ xss, xs.length ≤ 9223372036854775807) (hk : 0 ≤ k) (hk2 : k ≤ 1048576) :
    Calls Try.prog 50 #[.agg #[.int .i64 bits, .slice A xss.length c], .int .i64 k] w fun e w' => ∃ r : Int, e = .returned (.int .i64 r) ∧ (r = -1 ∨ (0 ≤ r ∧ r = k - xss.length - tot xss)) ∧ Below w.heap.size w w' := by
  have hb2 : Below w.heap.size w (w.alloc (.cells #[.int .i64 bits, .slice A xss.length c] 70)) := (Below.refl _ _).alloc (Nat.le_refl _) _
  have HC := Lib.hid (szII_any A c B k xss (w.alloc (.cells #[.int .i64 bits, .slice A xss.length c] 70)) (hx.below hb2 hB) hn hn' hk hk2)
  have HB2 := Lib.hid hb2
  clear hb2 hx hn'
  go_enter Try.func50, Try.ntmps50
  go_wp2_with fail
  refine HC.out.mono ?_
  rintro e w' ⟨r, rfl, hr, rfl⟩
  have HR := Lib.hid hr
  rcases hr with rfl | ⟨hr0, hr1⟩
  · go_wp2
    go_ret
    exact ⟨-1, rfl, .inl rfl, HB2.out⟩
  · clear hr1
    go_wp2
    go_ret
    exact ⟨r, rfl, HR.out, HB2.out⟩
def ToNetRet (bits : Int) (xss : List (List Int)) (w : World) (e : Ending) (w' : World) : Prop :=
  ∃ g us, e = .returned (.agg #[.int .i64 bits, .slice (some ⟨g, 0, none⟩) xss.length xss.length]) ∧ OwnII w' w.heap.size (.slice (some ⟨g, 0, none⟩) xss.length xss.length) xss us ∧ Below w.heap.size w w'
set_option maxHeartbeats 1000000 in
theorem toNet_any (A : Option Addr) (c B : Nat) (bits : Int) (xss : List (List Int)) (w : World) (hx : RdII w B A xss) (hB : B ≤ w.heap.size) (hn : xss.length ≤ 1048576) (ht : tot xss ≤ 1048576) :
    Calls Try.prog 52 #[.agg #[.int .i64 bits, .slice A xss.length c]] w (ToNetRet bits xss w) := by
  obtain ⟨W3, hW3⟩ : ∃ W3, W3 = ((w.alloc (.cells #[.int .i64 bits, .slice A xss.length c] 70)).alloc (.cells #[.int .i64 0, .slice none 0 0] 61)).alloc (.cells #[.int .i64 bits, .slice none 0 0] 61) := ⟨_, rfl⟩
  have hb3 : Below w.heap.size w W3 := by rw [hW3]; exact (((Below.refl _ _).alloc (Nat.le_refl _) _).alloc (by simp) _).alloc (by simp; omega) _
  have hz3 : W3.heap.size = w.heap.size + 3 := by rw [hW3]; simp
  have c1 : W3.cell? ⟨w.heap.size + 1, 0, none⟩ = some (.int .i64 0) := by rw [hW3]; go_simp
  have c1' : W3.cell? ⟨w.heap.size + 1, 1, none⟩ = some (.slice none 0 0) := by rw [hW3]; go_simp
  have c2 : W3.cell? ⟨w.heap.size + 1 + 1, 0, none⟩ = some (.int .i64 bits) := by rw [hW3]; go_simp
  have c2' : W3.cell? ⟨w.heap.size + 1 + 1, 1, none⟩ = some (.slice none 0 0) := by rw [hW3]; go_simp
  have f1 : ∀ i, W3.frozen? ⟨w.heap.size + 1, i, none⟩ = false := fun i => by rw [hW3]; go_simp
  have f2 : ∀ i, W3.frozen? ⟨w.heap.size + 1 + 1, i, none⟩ = false := fun i => by rw [hW3]; go_simp
  have HC := Lib.hid (toII_any A c B xss W3 (hx.below hb3 hB) (by omega) hn ht)
  have HB3 := Lib.hid hb3
  have HW3 := Lib.hid hW3
  clear hx hb3 hW3
  go_enter Try.func52, Try.ntmps52
  go_wp2_with fail
  rw [← HW3.out]
  refine HC.out.mono ?_
  rintro e w1 ⟨g, us, rfl, o1, b1⟩
  have d1 := (b1.cell (p := ⟨w.heap.size + 1, 0, none⟩) (by show w.heap.size + 1 < _; omega)).trans c1
  have d1' := (b1.cell (p := ⟨w.heap.size + 1, 1, none⟩) (by show w.heap.size + 1 < _; omega)).trans c1'
  have d2 := (b1.cell (p := ⟨w.heap.size + 1 + 1, 0, none⟩) (by show w.heap.size + 1 + 1 < _; omega)).trans c2
  have d2' := (b1.cell (p := ⟨w.heap.size + 1 + 1, 1, none⟩) (by show w.heap.size + 1 + 1 < _; omega)).trans c2'
  have e1 := (b1.frozen (p := ⟨w.heap.size + 1, 0, none⟩) (by show w.heap.size + 1 < _; omega)).trans (f1 0)
  have e1' := (b1.frozen (p := ⟨w.heap.size + 1, 1, none⟩) (by show w.heap.size + 1 < _; omega)).trans (f1 1)
  have e2' := (b1.frozen (p := ⟨w.heap.size + 1 + 1, 1, none⟩) (by show w.heap.size + 1 + 1 < _; omega)).trans (f2 1)
  have O1 := Lib.hid o1
  have B1 := Lib.hid b1
  clear o1 b1 c1 c1' c2 c2' f1 f2
  go_wp2
  refine bodyPost_ret (v := .agg #[.int .i64 bits, .slice (some ⟨g, 0, none⟩) xss.length xss.length]) (by simp [results, Try.results52, go_sem, d1, d1']) rfl ⟨g, us, rfl, ?_, ?_⟩
  · refine OwnII.base (B := W3.heap.size) ?_ (by omega)
    refine (OwnII.setLow (OwnII.setLow (OwnII.setLow O1.out ?_ _) ?_ _) ?_ _)
    all_goals (show _ < W3.heap.size; simp only []; omega)
  · refine (((HB3.out.trans (B1.out.mono (by omega))).setCell ?_ _).setCell ?_ _).setCell ?_ _
    all_goals (show w.heap.size ≤ _; simp only []; omega)

set_option maxHeartbeats 1000000 in
theorem eqNet_yes (A A' : Option Addr) (c c' B B' : Nat) (bits : Int) (xss : List (List Int)) (w : World) (hx : RdII w B A xss) (hy : RdII w B' A' xss) (hB : B ≤ w.heap.size) (hB' : B' ≤ w.heap.size) (hm : tot xss ≤ 1099511627776) (hm' : xss.length ≤ 1099511627776) :
    Calls Try.prog 43 #[.agg #[.int .i64 bits, .slice A xss.length c], .agg #[.int .i64 bits, .slice A' xss.length c']] w fun e w' => e = .returned (.bool true) ∧ Below w.heap.size w w' := by
  have hb2 : Below w.heap.size w ((w.alloc (.cells #[.int .i64 bits, .slice A xss.length c] 61)).alloc (.cells #[.int .i64 bits, .slice A' xss.length c'] 61)) := ((Below.refl _ _).alloc (Nat.le_refl _) _).alloc (by simp) _
  have HC := Lib.hid (eqII_yes A A' c c' B B' xss ((w.alloc (.cells #[.int .i64 bits, .slice A xss.length c] 61)).alloc (.cells #[.int .i64 bits, .slice A' xss.length c'] 61)) (hx.below hb2 hB) (hy.below hb2 hB') hm hm')
  have HB2 := Lib.hid hb2
  clear hb2 hx hy
  go_enter Try.func43, Try.ntmps43
  go_wp2_with fail
  refine HC.out.mono ?_
  rintro e w1 ⟨rfl, hD⟩
  have HD : Hid (Drawn _ w1) := Lib.hid hD
  clear hD
  go_wp2
  go_ret
  exact ⟨rfl, HB2.out.trans HD.out.below⟩

set_option maxHeartbeats 2000000 in
theorem exactValidNet_any (A : Option Addr) (c : Nat) (bits : Int) (xss : List (List Int)) (w : World) (hl : xss.length ≤ 9223372036854775807) (hl' : ∀ xs ∈ xss, xs.length ≤ 9223372036854775807) (hx : RdII w w.heap.size A xss) :
    Calls Try.prog 14 #[.agg #[.int .i64 bits, .slice A xss.length c]] w fun e w' => e = .returned (.bool true) ∧ Below w.heap.size w w' := by
  have hb0 : Below w.heap.size w (w.alloc (.cells #[.int .i64 bits, .slice A xss.length c] 70)) := (Below.refl _ _).alloc (Nat.le_refl _) _
  have HX := Lib.hid hx
  have hsz := Lib.hid (szNet_any A c w.heap.size bits 1048576 xss (w.alloc (.cells #[.int .i64 bits, .slice A xss.length c] 70)) (hx.below hb0 (Nat.le_refl _)) (by simp) hl hl' (by omega) (by omega))
  have HL := Lib.hid hl'
  have HB0 := Lib.hid hb0
  clear hx hl' hb0
  go_enter Try.func14, Try.ntmps14
  go_wp2_with fail
  refine hsz.out.mono ?_
  rintro e w1 ⟨r, rfl, hr, b1⟩
  have B1 := Lib.hid b1
  clear b1
  have d0 : w1.cell? ⟨w.heap.size, 0, none⟩ = some (.int .i64 bits) := box_cells B1.out 0
  have d1 : w1.cell? ⟨w.heap.size, 1, none⟩ = some (.slice A xss.length c) := box_cells B1.out 1
  rcases hr with rfl | ⟨hr0, hr1⟩
  · clear d0 d1
    go_wp2
    go_ret
    exact ⟨rfl, Base.Below.boxed B1.out⟩
  · have hl1 : xss.length ≤ 1048576 := by omega
    have ht1 : tot xss ≤ 1048576 := by omega
    clear hr1
    have CT : Hid (∀ (W : World), Below w.heap.size w W → Calls Try.prog 52 #[.agg #[.int .i64 bits, .slice A xss.length c]] W (ToNetRet bits xss W)) :=
      Lib.hid fun W hW => toNet_any A c w.heap.size bits xss W (HX.out.below hW (Nat.le_refl _)) hW.size hl1 ht1
    go_wp2_with fail
    refine (CT.out w1 (Base.Below.boxed B1.out)).mono ?_
    rintro e w2 ⟨g2, us2, rfl, o2, b2⟩
    have B2 := Lib.hid (Base.Below.nextA B1.out b2)
    have S2 := Lib.hid (specValidNet_any (some ⟨g2, 0, none⟩) xss.length _ bits xss w2 o2.rd (Nat.le_refl _) hl1 ht1)
    clear o2 b2
    go_wp2_with fail
    refine S2.out.mono ?_
    rintro e w3 ⟨rfl, b3⟩
    have B3 := Lib.hid (Base.Below.nextA B2.out b3)
    clear b3 d0 d1
    have d0 : w3.cell? ⟨w.heap.size, 0, none⟩ = some (.int .i64 bits) := box_cells B3.out 0
    have d1 : w3.cell? ⟨w.heap.size, 1, none⟩ = some (.slice A xss.length c) := box_cells B3.out 1
    go_wp2_with fail
    refine (CT.out w3 (Base.Below.boxed B3.out)).mono ?_
    rintro e w4 ⟨g4, us4, rfl, o4, b4⟩
    have B4 := Lib.hid (Base.Below.nextA B3.out b4)
    have O4 := Lib.hid o4
    clear o4 b4 d0 d1
    have b5 : Below w4.heap.size w4 (w4.alloc (.cells #[.int .i64 bits, .slice (some ⟨g4, 0, none⟩) xss.length xss.length] 61)) := (Below.refl _ _).alloc (Nat.le_refl _) _
    have B5 := Lib.hid b5
    have S5 := Lib.hid (implValidNet_any (some ⟨g4, 0, none⟩) xss.length w4.heap.size bits xss (w4.alloc (.cells #[.int .i64 bits, .slice (some ⟨g4, 0, none⟩) xss.length xss.length] 61)) (O4.out.rd.below b5 (Nat.le_refl _)) (by simp) hl1 ht1)
    clear b5
    go_wp2_with fail
    refine S5.out.mono ?_
    rintro e w6 ⟨rfl, b6⟩
    have q0 : w6.cell? ⟨w4.heap.size, 0, none⟩ = some (.int .i64 bits) := box_cells b6 0
    have q1 : w6.cell? ⟨w4.heap.size, 1, none⟩ = some (.slice (some ⟨g4, 0, none⟩) xss.length xss.length) := box_cells b6 1
    have hb6 := B5.out.trans (b6.mono (by simp))
    have B6 := Lib.hid (Base.Below.nextA B4.out hb6)
    have O6 := Lib.hid (O4.out.below hb6)
    have hz4 : w4.heap.size < w6.heap.size := by have := b6.size; simp at this; omega
    have hz0 : w.heap.size < w6.heap.size := by have := B6.out.size; simp at this; omega
    clear b6 hb6
    have d0 : w6.cell? ⟨w.heap.size, 0, none⟩ = some (.int .i64 bits) := box_cells B6.out 0
    have d1 : w6.cell? ⟨w.heap.size, 1, none⟩ = some (.slice A xss.length c) := box_cells B6.out 1
    generalize netB bits xss = ok at *
    have hb : (ok != ok) = false := by simp
    have CE : Hid (∀ (W7 : World) (g7 : Nat) (us7 : List Value), Below w6.heap.size w6 W7 → OwnII W7 w6.heap.size (.slice (some ⟨g7, 0, none⟩) xss.length xss.length) xss us7 →
        Calls Try.prog 43 #[.agg #[.int .i64 bits, .slice (some ⟨g4, 0, none⟩) xss.length xss.length], .agg #[.int .i64 bits, .slice (some ⟨g7, 0, none⟩) xss.length xss.length]] W7 fun e w' => e = .returned (.bool true) ∧ Below W7.heap.size W7 w') :=
      Lib.hid fun W7 g7 us7 hb7 o7 => eqNet_yes _ _ _ _ W7.heap.size W7.heap.size bits xss W7 (O6.out.below hb7).rd o7.rd (Nat.le_refl _) (Nat.le_refl _) (by omega) (by omega)
    have CT6 : Hid (∀ (W : World), Below w6.heap.size w6 W → Calls Try.prog 52 #[.agg #[.int .i64 bits, .slice A xss.length c]] W fun e w' => ∃ g us, e = .returned (.agg #[.int .i64 bits, .slice (some ⟨g, 0, none⟩) xss.length xss.length]) ∧ OwnII w' w6.heap.size (.slice (some ⟨g, 0, none⟩) xss.length xss.length) xss us ∧ Below w6.heap.size w6 w') :=
      Lib.hid fun W hW => (CT.out W (Base.Below.boxed (B6.out.trans (hW.mono (by simp; omega))))).mono fun e w' ⟨g, us, h1, h2, h3⟩ => ⟨g, us, h1, h2.base hW.size, Base.Below.nextA hW h3⟩
    go_wp2
    go_region_with (first | (go_at_call 52; refine (CT6.out _ (by first | exact Below.refl _ _ | exact (Below.refl _ _).drew | exact below_drewN (Below.refl _ _) _)).mono ?_; rintro e w7 ⟨g7, us7, rfl, o7, b7⟩; have q0' := (b7.cell (p := ⟨w4.heap.size, 0, none⟩) hz4).trans q0; have q1' := (b7.cell (p := ⟨w4.heap.size, 1, none⟩) hz4).trans q1; have d0' := (b7.cell (p := ⟨w.heap.size, 0, none⟩) hz0).trans d0; have d1' := (b7.cell (p := ⟨w.heap.size, 1, none⟩) hz0).trans d1) | (go_at_call 43; refine (CE.out _ g7 us7 b7 o7).mono ?_; rintro e w8 ⟨rfl, b8⟩))
    all_goals (try go_wp2)
    all_goals go_ret
    all_goals exact ⟨rfl, Base.Below.boxed (B6.out.trans ((Base.Below.nextA b7 b8).mono (by simp; omega)))⟩

theorem exactValidNet_v {w : World} {v : Value} (h : Open.IsNet w v) : Calls Try.prog 14 #[v] w fun e w' => e = .returned (.bool true) ∧ Below w.heap.size w w' := by
  obtain ⟨bits, A, c, xss, rfl, hl, hl', hx⟩ := h.ex
  exact exactValidNet_any A c bits xss w hl hl' hx
end Go.Proofs.Ytnbeibofmikihaa.NetV

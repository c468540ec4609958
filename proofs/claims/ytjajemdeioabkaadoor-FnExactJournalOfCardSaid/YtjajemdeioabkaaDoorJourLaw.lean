/- The journal of lines: the law. -/
import Derived.Test.YtjajemdeioabkaaDoorJourI
import Derived.Test.YtjajemdeioabkaaDoorOpenT
namespace Go.Proofs.YtjajemdeioabkaaDoor.Jour
open Go.RowKit Go.Proofs.YtjajemdeioabkaaDoor Go.Proofs.YtjajemdeioabkaaDoor.Base Go.Proofs.YtjajemdeioabkaaDoor.Mem Go.Proofs.YtjajemdeioabkaaDoor.Dec Go.Proofs.YtjajemdeioabkaaDoor.LabM
set_option linter.unusedVariables false
theorem getT_le_tot : ∀ (ss : List ByteArray) (i : Nat), i < ss.length → (getT ss i).size ≤ totT ss
  | [], i, h => absurd h (Nat.not_lt_zero i)
  | s :: r, 0, h => by simp [getT, totT]
  | s :: r, i + 1, h => by
    have := getT_le_tot r i (by simpa using h)
    simp [getT, totT] at *
    omega
set_option maxHeartbeats 2000000 in
theorem exactJour_any (A : Option Addr) (c : Nat) (ss : List ByteArray) (w : World) (hp : Pow w.heap.size w) (hx : RdT w w.heap.size A ss) (hl : ss.length ≤ 9223372036854775807) (hs : ∀ i, i < ss.length → (getT ss i).size ≤ 9223372036854775807) :
    Calls Tryd.prog 4 #[.slice A ss.length c] w fun e w' => e = .returned (.bool true) ∧ Below w.heap.size w w' := by
  have HX := Lib.hid hx
  have HP := Lib.hid hp
  have HSz := Lib.hid (szT_any A c w.heap.size 1048576 ss w hx hl hs (by omega) (by omega))
  clear hx hs hp
  go_enter Tryd.func4, Tryd.ntmps4
  go_wp2_with fail
  refine HSz.out.mono ?_
  rintro e w' ⟨r, rfl, hr, rfl⟩
  rcases hr with rfl | ⟨hr0, hr1⟩
  · go_wp2
    go_ret
    exact ⟨rfl, Below.refl _ _⟩
  · have hl1 : ss.length ≤ 1048576 := by omega
    have ht1 : totT ss ≤ 1048576 := by omega
    have HS : Hid (∀ i, i < ss.length → (getT ss i).size ≤ 1048576) := Lib.hid fun i hi => Nat.le_trans (getT_le_tot ss i hi) ht1
    have CT : Hid (∀ W, Below w.heap.size w W → Calls Tryd.prog 11 #[.slice A ss.length c] W fun e w' => ∃ g, e = .returned (.slice (some ⟨g, 0, none⟩) ss.length ss.length) ∧ OwnT w' W.heap.size (.slice (some ⟨g, 0, none⟩) ss.length ss.length) ss ∧ Below W.heap.size W w') :=
      Lib.hid fun W hW => toT_any A c w.heap.size ss W (HX.out.below hW (Nat.le_refl _)) hW.size hl1
    clear hr1 ht1
    go_wp2_with fail
    refine (CT.out w (Below.refl _ _)).mono ?_
    rintro e w1 ⟨g1, rfl, o1, b1⟩
    have S1 := Lib.hid (specJour_any (some ⟨g1, 0, none⟩) ss.length w1.heap.size ss w1 o1.rd (Nat.le_refl _) hl1 HS.out)
    have B1 := Lib.hid b1
    clear o1 b1
    go_wp2_with fail
    refine S1.out.mono ?_
    rintro e w2 ⟨rfl, b2⟩
    have B2 := Lib.hid (Base.Below.nextA B1.out b2)
    clear b2
    go_wp2_with fail
    refine (CT.out w2 B2.out).mono ?_
    rintro e w3 ⟨g3, rfl, o3, b3⟩
    have B3 := Lib.hid (Base.Below.nextA B2.out b3)
    have hz3 := B3.out.size
    have O3 := Lib.hid o3
    have S3 := Lib.hid (implJour_any (some ⟨g3, 0, none⟩) ss.length w3.heap.size ss w3 (fun w' h' => HP.out w' (B3.out.trans (h'.mono hz3))) o3.rd (Nat.le_refl _) hl1 HS.out)
    clear o3 b3
    go_wp2_with fail
    refine S3.out.mono ?_
    rintro e w4 ⟨rfl, b4⟩
    have B4 := Lib.hid (Base.Below.nextA B3.out b4)
    have O4 : Hid (RdT w4 w4.heap.size (some ⟨g3, 0, none⟩) ss) := Lib.hid (O3.out.rd.below b4 (Nat.le_refl _) |>.more b4.size)
    clear b4
    generalize tx (jourR ss) = R at *
    generalize jourB ss = ok at *
    have hb : (ok != ok) = false := by simp
    go_wp2_with fail
    refine (CT.out w4 B4.out).mono ?_
    rintro e w5 ⟨g5, rfl, o5, b5⟩
    have B5 := Lib.hid (Base.Below.nextA B4.out b5)
    have S5 := Lib.hid (eqT_yes (some ⟨g3, 0, none⟩) (some ⟨g5, 0, none⟩) ss.length ss.length w4.heap.size w5.heap.size ss w5 (O4.out.below b5 (Nat.le_refl _)) o5.rd (by omega))
    clear o5 b5
    go_wp2_with fail
    refine S5.out.mono ?_
    rintro e w6 ⟨rfl, m, rfl⟩
    go_wp2
    go_ret
    exact ⟨rfl, below_drewN B5.out m⟩
theorem exactJour_v {w : World} {v : Value} (h : Open.IsTexts w v) (hp : Pow w.heap.size w) : Calls Tryd.prog 4 #[v] w fun e w' => e = .returned (.bool true) ∧ Below w.heap.size w w' := by
  obtain ⟨A, c, ss, rfl, h1, h2, h3⟩ := h.ex
  exact exactJour_any A c ss w hp h3 h1 h2
end Go.Proofs.YtjajemdeioabkaaDoor.Jour

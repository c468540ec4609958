/- The law of IsPoints. -/
import Derived.Test.YtnbeibofmikihaaPoints
import Derived.Test.YtnbeibofmikihaaCopy
import Derived.Test.YtnbeibofmikihaaOpen
namespace Go.Proofs.Ytnbeibofmikihaa.Pts
open Go.RowKit Go.Proofs.Ytnbeibofmikihaa Go.Proofs.Ytnbeibofmikihaa.Base Go.Proofs.Ytnbeibofmikihaa.Mem Go.Proofs.Ytnbeibofmikihaa.Cpy
set_option linter.unusedVariables false

set_option maxHeartbeats 1000000 in
theorem exactIsPoints_v {w : World} {v : Value} (h : Open.IsRows w v) (bits : Int) : Calls Try.prog 10 #[v, .int .i64 bits] w fun e w' => e = .returned (.bool true) ∧ Below w.heap.size w w' := by
  obtain ⟨A, c, xss, rfl, hl, hl', _, hx⟩ := h.ex
  have HX := Lib.hid hx
  have HL := Lib.hid hl'
  have hsz := Lib.hid (szII_any A c _ 1048576 xss w hx hl hl' (by omega) (by omega))
  clear hx hl'
  go_enter Try.func10, Try.ntmps10
  go_wp2_with fail
  refine hsz.out.mono ?_
  rintro e w' ⟨r, rfl, hr, rfl⟩
  rcases hr with rfl | ⟨hr0, hr1⟩
  · go_wp2
    go_ret
    exact ⟨rfl, Below.refl _ _⟩
  · have hl1 : xss.length ≤ 1048576 := by omega
    have ht1 : tot xss ≤ 1048576 := by omega
    clear hr1
    have cT := fun (W : World) (hW : Below w.heap.size w W) => toII_any A c w.heap.size xss W (HX.out.below hW (Nat.le_refl _)) hW.size hl1 ht1
    have CT := Lib.hid cT
    clear cT
    go_wp2_with fail
    refine (CT.out w (Below.refl _ _)).mono ?_
    rintro e w1 ⟨g1, us1, rfl, o1, b1⟩
    have B1 := Lib.hid b1
    have S1 := Lib.hid (specIsPoints_any (some ⟨g1, 0, none⟩) xss.length _ bits xss w1 o1.rd hl1 ht1)
    clear o1 b1
    go_wp2_with fail
    refine S1.out.mono ?_
    rintro e w2 ⟨rfl, hD⟩
    have B2 := Lib.hid (B1.out.trans hD.below)
    clear hD
    go_wp2_with fail
    refine (CT.out w2 B2.out).mono ?_
    rintro e w3 ⟨g3, us3, rfl, o3, b3⟩
    have B3 := Lib.hid (Base.Below.nextA B2.out b3)
    have O3 := Lib.hid o3
    have S3 := Lib.hid (implIsPoints_any (some ⟨g3, 0, none⟩) xss.length _ bits xss w3 o3.rd (Nat.le_refl _) hl1 ht1)
    clear o3 b3
    go_wp2_with fail
    refine S3.out.mono ?_
    rintro e w4 ⟨rfl, b4⟩
    have B4 := Lib.hid (Base.Below.nextA B3.out b4)
    have O4 := Lib.hid (O3.out.below b4)
    clear b4
    generalize ptsB xss bits = ok at *
    have hb : (ok != ok) = false := by simp
    go_wp2_with fail
    refine (CT.out w4 B4.out).mono ?_
    rintro e w5 ⟨g5, us5, rfl, o5, b5⟩
    have B5 := Lib.hid (Base.Below.nextA B4.out b5)
    have S5 := Lib.hid (eqII_yes (some ⟨g3, 0, none⟩) (some ⟨g5, 0, none⟩) xss.length xss.length _ _ xss w5 (O4.out.below b5).rd o5.rd (by omega) (by omega))
    clear o5 b5
    go_wp2_with fail
    refine S5.out.mono ?_
    rintro e w6 ⟨rfl, k6, rfl⟩
    go_wp2
    go_ret
    exact ⟨rfl, below_drewN B5.out _⟩
end Go.Proofs.Ytnbeibofmikihaa.Pts

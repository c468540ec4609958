/- The points of a net: the law. -/
import Derived.Test.YtjkcdnfmmfpbjaaNetPts
import Derived.Test.YtjkcdnfmmfpbjaaNetLaw
namespace Go.Proofs.Ytjkcdnfmmfpbjaa.NetP
open Go.RowKit Go.Proofs.Ytjkcdnfmmfpbjaa Go.Proofs.Ytjkcdnfmmfpbjaa.Base Go.Proofs.Ytjkcdnfmmfpbjaa.Mem Go.Proofs.Ytjkcdnfmmfpbjaa.Pts Go.Proofs.Ytjkcdnfmmfpbjaa.NetV Go.Proofs.Ytjkcdnfmmfpbjaa.RevNet Go.Proofs.Ytjkcdnfmmfpbjaa.Bits
set_option linter.unusedVariables false
def nptsL (bits : Int) (xss : List (List Int)) : List (List Int) := if netB bits xss = true then netL xss (2 ^ bits.toNat) else []
/-- lists of the call's own, and whether there are some -/
def RowsRet (R : List (List Int)) (ok : Bool) (w : World) (e : Ending) (w' : World) : Prop := ∃ A c us, e = .returned (.tuple #[.slice A R.length c, .bool ok]) ∧ OwnII w' w.heap.size (.slice A R.length c) R us ∧ Below w.heap.size w w'
theorem nptsL_bd (bits : Int) (xss : List (List Int)) : (nptsL bits xss).length ≤ 64 ∧ tot (nptsL bits xss) ≤ 256 := by
  unfold nptsL
  split
  · rename_i h
    obtain ⟨h1, h2, h3, h4, _⟩ := netB_true h
    have hp : 2 ^ bits.toNat ≤ 2 ^ 6 := Nat.pow_le_pow_right (by decide) (by omega)
    rw [netL_len, netL_tot]
    have : 2 ^ bits.toNat * xss.length ≤ 64 * 4 := Nat.mul_le_mul (by omega) h4
    omega
  · simp [tot]
theorem RowsRet.of_yes {b : Nat} {xss : List (List Int)} {w w' : World} {e : Ending} (hv : netB b xss = true) (h : NPts xss b w e w') : RowsRet (nptsL b xss) (netB b xss) w e w' := by
  obtain ⟨A, c, us, h1, h2, h3⟩ := h
  have e1 : nptsL b xss = netL xss (2 ^ b) := by rw [nptsL, if_pos hv]; simp
  have e2 : (nptsL b xss).length = 2 ^ b := by rw [e1, netL_len]
  exact ⟨A, c, us, by rw [e2, hv]; exact h1, by rw [e2, e1]; exact h2, h3⟩
theorem implNetPts_any (A : Option Addr) (c B : Nat) (bits : Int) (xss : List (List Int)) (w : World) (hx : RdII w B A xss) (hB : B ≤ w.heap.size) (hl : xss.length ≤ 1048576) (hm : tot xss ≤ 1048576) :
    Calls Try.prog 30 #[.agg #[.int .i64 bits, .slice A xss.length c]] w (RowsRet (nptsL bits xss) (netB bits xss) w) := by
  cases hv : netB bits xss with
  | false =>
    have hb0 : Below w.heap.size w (w.alloc (.cells #[.int .i64 bits, .slice A xss.length c] 49)) := (Below.refl _ _).alloc (Nat.le_refl _) _
    have HV := Lib.hid (implValidNet_any A c B bits xss _ (hx.below hb0 hB) (by simp; omega) hl hm)
    have HF := Lib.hid (show nptsL bits xss = [] by simp [nptsL, hv])
    have HB0 := Lib.hid hb0
    rw [hv] at HV
    clear hx hv hb0
    go_enter Try.func30, Try.ntmps30
    go_wp2_with fail
    refine HV.out.mono ?_
    rintro e w1 ⟨rfl, hb1⟩
    have HB1 := Lib.hid (HB0.out.trans (hb1.mono HB0.out.size))
    clear hb1
    go_wp2
    go_ret2
    rw [HF.out]
    exact ⟨none, 0, [], rfl, OwnII.nil _ _, HB1.out⟩
  | true =>
    obtain ⟨h1, h2, h3, h4, _⟩ := netB_true hv
    obtain ⟨b, rfl⟩ := Int.eq_ofNat_of_zero_le h1
    have := (implNetPts_yes A c B b xss w hx hB h4 (by omega) hv).mono fun e w' h => RowsRet.of_yes hv h
    rw [hv] at this
    exact this
end Go.Proofs.Ytjkcdnfmmfpbjaa.NetP

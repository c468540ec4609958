/- A net whose side is mixed, of the program and of the reference. -/
import Derived.Test.YtjkcdnfmmfpbjaaScr
import Derived.Test.YtjkcdnfmmfpbjaaDrawNet
import Derived.Test.YtjkcdnfmmfpbjaaRevLaw
import Derived.Deep.RegionHeld3
import Derived.Deep.AppendLies
namespace Go.Proofs.Ytjkcdnfmmfpbjaa.Scr
open Go.RowKit Go.Proofs.Ytjkcdnfmmfpbjaa Go.Proofs.Ytjkcdnfmmfpbjaa.Base Go.Proofs.Ytjkcdnfmmfpbjaa.Mem Go.Proofs.Ytjkcdnfmmfpbjaa.AllIn Go.Proofs.Ytjkcdnfmmfpbjaa.Pts Go.Proofs.Ytjkcdnfmmfpbjaa.NetV Go.Proofs.Ytjkcdnfmmfpbjaa.RevNet Go.Proofs.Ytjkcdnfmmfpbjaa.Bits Go.Proofs.Ytjkcdnfmmfpbjaa.Shift Go.Proofs.Ytjkcdnfmmfpbjaa.DrawN
set_option linter.unusedVariables false
/-- the masks of a lower matrix -/
def lowB (lower : List Int) : Bool := (List.range lower.length).all fun i => inR (lower.getD i 0) ((2 : Int) ^ i) (2 * (2 : Int) ^ i - 1)
theorem lowB_at {lower : List Int} (h : lowB lower = true) {i : Nat} (hi : i < lower.length) : inR (lower.getD i 0) ((2 : Int) ^ i) (2 * (2 : Int) ^ i - 1) = true := by
  unfold lowB at h
  rw [List.all_eq_true] at h
  exact h i (List.mem_range.2 hi)
theorem lowB_of {lower : List Int} (h : ∀ i, i < lower.length → inR (lower.getD i 0) ((2 : Int) ^ i) (2 * (2 : Int) ^ i - 1) = true) : lowB lower = true := by
  unfold lowB
  rw [List.all_eq_true]
  intro i hi
  exact h i (List.mem_range.1 hi)
theorem lowB_no {lower : List Int} {i : Nat} (hi : i < lower.length) (h : inR (lower.getD i 0) ((2 : Int) ^ i) (2 * (2 : Int) ^ i - 1) = false) : lowB lower = false := by
  cases hb : lowB lower with
  | false => rfl
  | true => rw [lowB_at hb hi] at h; cases h
def scB (bits : Int) (xss : List (List Int)) (side : Int) (lower : List Int) : Bool := netB bits xss && (inR side 0 ((xss.length : Int) - 1) && (decide ((lower.length : Int) = bits) && lowB lower))
def scL (xss : List (List Int)) (s : Nat) (lower : List Int) : List (List Int) := (List.range xss.length).map fun d => if d = s then mixR (xss.getD d []) lower else xss.getD d []
theorem scL_len (xss : List (List Int)) (s : Nat) (lower : List Int) : (scL xss s lower).length = xss.length := by simp [scL]
theorem scL_at (xss : List (List Int)) (s : Nat) (lower : List Int) (d : Nat) (h : d < xss.length) : (scL xss s lower).getD d [] = if d = s then mixR (xss.getD d []) lower else xss.getD d [] := by simp [scL, List.getD, h]
def ScRet (bits : Int) (xss : List (List Int)) (side : Int) (lower : List Int) (w : World) (e : Ending) (w' : World) : Prop :=
  (scB bits xss side lower = true → GNetRet bits true (scL xss side.toNat lower) w e w') ∧ (scB bits xss side lower = false → NoNet w e w')
theorem ScRet.no {bits side : Int} {xss : List (List Int)} {lower : List Int} {w w' : World} {e : Ending} (h : scB bits xss side lower = false) (hn : NoNet w e w') : ScRet bits xss side lower w e w' := ⟨fun h2 => (by rw [h] at h2; cases h2), fun _ => hn⟩
theorem ScRet.yes {bits side : Int} {xss : List (List Int)} {lower : List Int} {w w' : World} {e : Ending} (h : scB bits xss side lower = true) (hn : GNetRet bits true (scL xss side.toNat lower) w e w') : ScRet bits xss side lower w e w' := ⟨fun _ => hn, fun h2 => (by rw [h] at h2; cases h2)⟩
/-- the matrices so far -/
def ScRel (L : List (List Int)) (b : Int) (g : Nat) (w : World) (i : Value) (wr : World) : Prop :=
  ∃ (k : Nat) (A : Option Addr) (c : Nat) (us : List Value), k ≤ L.length ∧ i = .int .i64 (k : Int) ∧ OwnII wr w.heap.size (.slice A k c) (L.take k) us ∧ Box wr g b (.slice A k c) ∧ Below w.heap.size w wr
theorem ScRel.next {L : List (List Int)} {b : Int} {g k c : Nat} {A : Option Addr} {us : List Value} {w wo w2 w3 : World} {v' u : Value} (hk : k < L.length) (hO : OwnII wo w.heap.size (.slice A k c) (L.take k) us)
    (hbx : Box wo g b (.slice A k c)) (hgw : w.heap.size ≤ g) (hb : Below w.heap.size w wo) (hb2 : Below wo.heap.size wo w2) (ho : OwnI w2 wo.heap.size u (L.getD k []))
    (hown : w3.ownsRow w.heap.size 28 1 v' (k + 1) (us ++ [u])) (hg3 : w2.grownBy w3 (Value.slice A k c).ownBlock) :
    ScRel L b g w (.int .i64 ((k : Int) + 1)) (w3.setCell ⟨g, 1, none⟩ v') := by
  have hl : (L.take k).length = k := by rw [List.length_take]; omega
  have o1 := hO.below hb2
  have hrowlt : ∀ q, (Value.slice A k c).ownBlock = some q → w.heap.size ≤ q := fun q he => by
    obtain ⟨_, _, h3, _⟩ := ownsRow_block hO.outer he
    exact h3
  have o2 : OwnII w3 w.heap.size v' (L.take k ++ [L.getD k []]) (us ++ [u]) := OwnII.push2 (C := wo.heap.size) o1 (fun i q hi hq => hO.fits i q hi hq) ho hb.size (by rw [hl]; exact hown) hg3
  rw [← take_snoc L k [] hk] at o2
  have x1 := hbx.below hb2
  have y1 := Box.keptRow x1 hg3 (own_not_net o1.outer x1 (by decide))
  obtain ⟨A', c', e', _⟩ := o2.form
  have hl2 : (L.take (k + 1)).length = k + 1 := by rw [List.length_take]; omega
  rw [hl2] at e'
  subst e'
  have b1 := (hb.trans (hb2.mono hb.size)).trans (grown_below hg3 (fun q he => hrowlt q he) (Nat.le_trans hb.size hb2.size))
  exact ⟨k + 1, A', c', us ++ [u], hk, by simp, OwnII.setNet o2 y1 1 _, Box.set1 y1 _, b1.setCell hgw _⟩
theorem box_after {wo w2 w3 : World} {B0 g k c : Nat} {b : Int} {A : Option Addr} {L : List (List Int)} {us : List Value} (hO : OwnII wo B0 (.slice A k c) L us) (hbx : Box wo g b (.slice A k c)) (hb2 : Below wo.heap.size wo w2) (hg3 : w2.grownBy w3 (Value.slice A k c).ownBlock) : Box w3 g b (.slice A k c) :=
  Box.keptRow (hbx.below hb2) hg3 (own_not_net (hO.below hb2).outer (hbx.below hb2) (by decide))
end Go.Proofs.Ytjkcdnfmmfpbjaa.Scr

/- The source of choices: next, pick, one. -/
import Derived.Test.YtpjepheiagllgaaDoorMgFnJ00
import Derived.Laws.BitsAllLaws
import Derived.IntWalk
import Derived.BigRegion
import Derived.Test.YtpjepheiagllgaaDoorMgFnJ02
import Derived.Maps.AppendAt
import Derived.Deep.RegionHeld3
namespace Go.Proofs.YtpjepheiagllgaaDoor.Src
open Go.RowKit Go.Proofs.YtpjepheiagllgaaDoor Go.Proofs.YtpjepheiagllgaaDoor.Base Go.Proofs.YtpjepheiagllgaaDoor.Mem
set_option linter.unusedVariables false
structure Src (w : World) (p K : Nat) : Prop where
 ex : ∃ (A : Option Addr) (c : Nat) (zs : List Int) (at_ : Nat) (sd : Int), w.cell? ⟨p, 0, none⟩ = some (.slice A zs.length c) ∧ w.cell? ⟨p, 1, none⟩ = some (.int .i64 (at_ : Int)) ∧ w.cell? ⟨p, 2, none⟩ = some (.int .u64 sd) ∧
  (∀ i, w.frozen? ⟨p, i, none⟩ = false) ∧ at_ ≤ K ∧ 0 ≤ sd ∧ sd ≤ 18446744073709551615 ∧ zs.length ≤ 9223372036854775807 ∧ (∀ z ∈ zs, 0 ≤ z ∧ z ≤ 255) ∧ RdB w p A zs
theorem Src.lt {w : World} {p K : Nat} (h : Src w p K) : p < w.heap.size := by
 obtain ⟨A, c, zs, a, sd, h0, _⟩ := h.ex
 exact block_lt_of_cell h0
theorem RdB.keep {w w' : World} {B p : Nat} {A : Option Addr} {zs : List Int} (h : RdB w B A zs) (hB : B ≤ p) (hw : ∀ g, g < B → w'.heap[g]? = w.heap[g]?) : RdB w' B A zs := fun h0 => by
 obtain ⟨b, off, e, hlt, hc⟩ := h h0
 exact ⟨b, off, e, hlt, fun i hi => (World.cell?_of_block (a := ⟨b, off + i, none⟩) (hw b hlt)).trans (hc i hi)⟩
theorem Src.below {w w' : World} {p K : Nat} (h : Src w p K) (hb : Below w.heap.size w w') : Src w' p K := by
 have hp := h.lt
 obtain ⟨A, c, zs, a, sd, h0, h1, h2, hf, h3, h4, h5, h6, h7, h8⟩ := h.ex
 exact ⟨A, c, zs, a, sd, (hb.cell (p := ⟨p, 0, none⟩) hp).trans h0, (hb.cell (p := ⟨p, 1, none⟩) hp).trans h1, (hb.cell (p := ⟨p, 2, none⟩) hp).trans h2, fun i => (hb.frozen (p := ⟨p, i, none⟩) hp).trans (hf i), h3, h4, h5, h6, h7, h8.below hb (by omega)⟩
theorem Src.kept {w w' : World} {p K : Nat} {row : Option Nat} (h : Src w p K) (hg : w.grownBy w' row) (hr : ∀ g, row = some g → p < g) : Src w' p K := by
 have hp := h.lt
 have hk : ∀ g, g ≤ p → w'.heap[g]? = w.heap[g]? := fun g hgp => hg.block g (by omega) fun e => by have := hr g e.symm; omega
 obtain ⟨A, c, zs, a, sd, h0, h1, h2, hf, h3, h4, h5, h6, h7, h8⟩ := h.ex
 have hc : ∀ i, w'.cell? ⟨p, i, none⟩ = w.cell? ⟨p, i, none⟩ := fun i => World.cell?_of_block (a := ⟨p, i, none⟩) (hk p (Nat.le_refl _))
 exact ⟨A, c, zs, a, sd, (hc 0).trans h0, (hc 1).trans h1, (hc 2).trans h2, fun i => (World.frozen?_of_block (a := ⟨p, i, none⟩) (hk p (Nat.le_refl _))).trans (hf i), h3, h4, h5, h6, h7, RdB.keep h8 (Nat.le_refl _) fun g hg => hk g (by omega)⟩
theorem Src.more {w : World} {p K L : Nat} (h : Src w p K) (hKL : K ≤ L) : Src w p L := by
 obtain ⟨A, c, zs, a, sd, h0, h1, h2, hf, h3, h4⟩ := h.ex
 exact ⟨A, c, zs, a, sd, h0, h1, h2, hf, by omega, h4⟩
theorem grown_setCell (w : World) (a : Addr) (v : Value) : w.grownBy (w.setCell a v) (some a.block) := by
 refine ⟨rfl, rfl, rfl, by simp, fun k hk hne => ?_⟩
 have : k ≠ a.block := fun e => hne (by rw [e])
 simp [World.setCell, Array.getElem?_modify, Ne.symm this]
theorem grown_drewN (w : World) (n : Nat) (row : Option Nat) : w.grownBy (w.drewN n) row := ⟨rfl, rfl, rfl, Nat.le_refl _, fun _ _ _ => rfl⟩
theorem and255 (x : Int) (h0 : 0 ≤ x) (h : x ≤ 18446744073709551615) : bits .and .u64 x 255 = x % 256 := by
 have := u64_and_nat x.toNat 255 (by omega) (by omega)
 rw [show (255 : Nat) = 2 ^ 8 - 1 from rfl, Nat.and_two_pow_sub_one_eq_mod] at this
 have e : (x.toNat : Int) = x := by omega
 rw [e, show ((2 ^ 8 - 1 : Nat) : Int) = 255 from rfl] at this
 rw [this]; omega
theorem u64_rng (x : Int) : 0 ≤ IntKind.u64.wrap x ∧ IntKind.u64.wrap x ≤ 18446744073709551615 := by
 rw [IntKind.wrap_u64]; omega
def NextRet (p K m : Nat) (w : World) (e : Ending) (w' : World) : Prop := ∃ r : Nat, e = .returned (.int .i64 r) ∧ r < m ∧ Src w' p K ∧ w.grownBy w' (some p)
theorem Src.set {w : World} {p K L a2 : Nat} {sd2 : Int} (h : Src w p K) (hL : a2 ≤ L) (hs : 0 ≤ sd2 ∧ sd2 ≤ 18446744073709551615) : Src ((w.setCell ⟨p, 1, none⟩ (.int .i64 (a2 : Int))).setCell ⟨p, 2, none⟩ (.int .u64 sd2)) p L ∧
  w.grownBy ((w.setCell ⟨p, 1, none⟩ (.int .i64 (a2 : Int))).setCell ⟨p, 2, none⟩ (.int .u64 sd2)) (some p) := by
 have hg := grown_trans (grown_setCell w ⟨p, 1, none⟩ (.int .i64 (a2 : Int))) (grown_setCell _ ⟨p, 2, none⟩ (.int .u64 sd2))
 refine ⟨?_, hg⟩
 obtain ⟨A, c, zs, a, sd, h0, h1, h2, hf, h3, h4, h5, h6, h7, h8⟩ := h.ex
 refine ⟨A, c, zs, a2, sd2, ?_, ?_, ?_, fun i => by simpa using hf i, hL, hs.1, hs.2, h6, h7, ?_⟩
 ·rw [World.cell?_setCell_other _ _ _ _ (by simp), World.cell?_setCell_other _ _ _ _ (by simp)]; exact h0
 ·rw [World.cell?_setCell_other _ _ _ _ (by simp)]; exact World.cell?_setCell_same _ _ _ h1
 ·refine World.cell?_setCell_same (u := .int .u64 sd) _ _ _ ?_
  rw [World.cell?_setCell_other _ _ _ _ (by simp)]; exact h2
 ·exact RdB.keep h8 (Nat.le_refl _) fun g hgp => hg.block g (by have := h.lt; omega) fun e => by
   have : g = p := Option.some.inj e
   omega
theorem Src.put {w : World} {p K L a a2 n : Nat} {sd2 : Int} {v : Value} (h : Src w p K) (hv : w.cell? ⟨p, 0, none⟩ = some v) (hL : a2 ≤ L) (hs : 0 ≤ sd2 ∧ sd2 ≤ 18446744073709551615) (w2 : World) (h2 : ((w.drewN n).setCell ⟨p, 1, none⟩ (.int .i64 (a2 : Int))).setCell ⟨p, 2, none⟩ (.int .u64 sd2) = w2) :
  Src w2 p L ∧ w.grownBy w2 (some p) ∧ w2.cell? ⟨p, 0, none⟩ = some v ∧ w2.cell? ⟨p, 1, none⟩ = some (.int .i64 (a2 : Int)) ∧ w2.cell? ⟨p, 2, none⟩ = some (.int .u64 sd2) := by
 have hd : Src (w.drewN n) p K := h.below (below_drewN (Below.refl _ _) n)
 obtain ⟨g1, g2⟩ := hd.set hL hs
 rw [h2] at g1 g2
 refine ⟨g1, grown_trans (grown_drewN w n _) g2, ?_, ?_, ?_⟩
 all_goals subst h2
 ·rw [World.cell?_setCell_other _ _ _ _ (by simp), World.cell?_setCell_other _ _ _ _ (by simp)]; simpa using hv
 ·obtain ⟨A, c, zs, a', sd, _, h1, _⟩ := hd.ex
  rw [World.cell?_setCell_other _ _ _ _ (by simp)]; exact World.cell?_setCell_same _ _ _ h1
 ·obtain ⟨A, c, zs, a', sd, _, _, h1, _⟩ := hd.ex
  refine World.cell?_setCell_same (u := .int .u64 sd) _ _ _ ?_
  rw [World.cell?_setCell_other _ _ _ _ (by simp)]; exact h1
set_option maxHeartbeats 1000000 in
set_option maxRecDepth 100000 in
theorem next_any (p K : Nat) (w : World) (h : Src w p K) (hK : K ≤ 1099511627776) :
  Calls Tryd.prog 22 #[.pointer (some ⟨p, 0, none⟩)] w (NextRet p (K + 1) 256 w) := by
 have HS := Lib.hid h
 obtain ⟨A, c, zs, a, sd, h0, h1, h2, hf, h3, h4, h5, h6, h7, h8⟩ := h.ex
 have f0 := hf 0
 have f1 := hf 1
 have f2 := hf 2
 have HP := Lib.hid (fun n sd2 w2 hs => h.put (L := K + 1) (a := 0) (a2 := a + 1) (n := n) (sd2 := sd2) h0 (by omega) hs w2)
 have HU := Lib.hid u64_rng
 have hal : (a : Int) + 1 ≤ 1099511627777 := by omega
 by_cases hlt : a < zs.length
 ·obtain ⟨b, off, rfl, hbp, hc⟩ := h8 (by omega)
  have g := hc a hlt
  have hz := h7 (zs.getD a 0) (by simp [List.getD, hlt])
  have hbne : b ≠ p := by omega
  clear hc h7 h8 hf h
  generalize zs.getD a 0 = z at *
  obtain ⟨z0, z1⟩ := hz
  go_enter Tryd.func22, Tryd.ntmps22
  go_wp2
  go_quiet (fail)
  go_wp2
  go_quiet (fail)
  go_wp2
  have HR := Lib.hid (HU.out (IntKind.u64.wrap (IntKind.u64.wrap (sd * 6364136223846793005) + z) + 1442695040888963407))
  generalize IntKind.u64.wrap (IntKind.u64.wrap (IntKind.u64.wrap (sd * 6364136223846793005) + z) + 1442695040888963407) = sd2 at *
  generalize IntKind.u64.wrap (IntKind.u64.wrap (sd * 6364136223846793005) + z) = sd3 at *
  generalize IntKind.u64.wrap (sd * 6364136223846793005) = sd4 at *
  rw [show (a : Int) + 1 = ((a + 1 : Nat) : Int) by omega]
  generalize hw2 : ((w.drewN _).setCell ⟨p, 1, none⟩ _).setCell ⟨p, 2, none⟩ _ = w2
  obtain ⟨s2, gr, q0, q1, q2⟩ := HP.out _ _ _ HR.out hw2
  have HS2 := Lib.hid s2
  have HG := Lib.hid gr
  clear s2 gr hw2 h0 h1 h2 f0 f1 f2 g
  have hle : a + 1 ≤ zs.length := by omega
  obtain ⟨a1, ha1⟩ : ∃ a1, a1 = a + 1 := ⟨_, rfl⟩
  rw [← ha1] at q1 hle ⊢
  have HA1 := Lib.hid ha1
  clear ha1
  go_quiet (fail)
  go_wp2
  go_ret
  obtain ⟨Z, rfl⟩ := Int.eq_ofNat_of_zero_le z0
  exact ⟨Z, rfl, by omega, HS2.out.below (below_drewN (Below.refl _ _) _), grown_trans HG.out (grown_drewN _ _ _)⟩
 ·clear h7 h8 hf h
  go_enter Tryd.func22, Tryd.ntmps22
  go_wp2
  go_quiet (fail)
  go_wp2
  have HR := Lib.hid (HU.out (IntKind.u64.wrap (IntKind.u64.wrap (sd * 6364136223846793005)) + 1442695040888963407))
  generalize IntKind.u64.wrap (IntKind.u64.wrap (IntKind.u64.wrap (sd * 6364136223846793005)) + 1442695040888963407) = sd2 at *
  generalize IntKind.u64.wrap (IntKind.u64.wrap (sd * 6364136223846793005)) = sd3 at *
  generalize IntKind.u64.wrap (sd * 6364136223846793005) = sd4 at *
  rw [show (a : Int) + 1 = ((a + 1 : Nat) : Int) by omega]
  generalize hw2 : ((w.drewN _).setCell ⟨p, 1, none⟩ _).setCell ⟨p, 2, none⟩ _ = w2
  obtain ⟨s2, gr, q0, q1, q2⟩ := HP.out _ _ _ HR.out hw2
  have HS2 := Lib.hid s2
  have HG := Lib.hid gr
  clear s2 gr hw2 h0 h1 h2 f0 f1 f2
  have hle : ¬ a + 1 ≤ zs.length := by omega
  obtain ⟨a1, ha1⟩ : ∃ a1, a1 = a + 1 := ⟨_, rfl⟩
  rw [← ha1] at q1 hle ⊢
  have HA1 := Lib.hid ha1
  clear ha1
  obtain ⟨r0, r1⟩ := HR.out
  have hq := and255 (sd2 / 1099511627776) (by omega) (by omega)
  have HQ := Lib.hid hq
  clear hq
  go_quiet (fail)
  go_wp2
  go_ret
  refine ⟨(sd2 / 1099511627776 % 256).toNat, ret_int ?_, by omega, HS2.out.below (below_drewN (Below.refl _ _) _), grown_trans HG.out (grown_drewN _ _ _)⟩
  rw [HQ.out]
  simp only [wrap64]; omega
def PickRet (p K : Nat) (n : Int) (w : World) (e : Ending) (w' : World) : Prop := ∃ r : Nat, e = .returned (.int .i64 r) ∧ (r = 0 ∨ (r : Int) < n) ∧ Src w' p K ∧ w.grownBy w' (some p)
set_option maxHeartbeats 1000000 in
theorem pick_any (p K : Nat) (n : Int) (w : World) (h : Src w p K) (hK : K ≤ 1000000000000) :
  Calls Tryd.prog 11 #[.pointer (some ⟨p, 0, none⟩), .int .i64 n] w (PickRet p (K + 2) n w) := by
 have HS := Lib.hid h
 have HN := Lib.hid (next_any p K w h (by omega))
 clear h
 by_cases h1 : n ≤ 1
 ·go_enter Tryd.func11, Tryd.ntmps11
  go_wp2
  go_ret
  exact ⟨0, rfl, .inl rfl, HS.out.more (by omega), World.grownBy.refl _ _⟩
 ·obtain ⟨N, rfl⟩ := Int.eq_ofNat_of_zero_le (show 0 ≤ n by omega)
  by_cases h2 : (N : Int) > 200
  ·go_enter Tryd.func11, Tryd.ntmps11
   go_wp2_with fail
   refine HN.out.mono ?_
   rintro e w1 ⟨x, rfl, hx, s1, g1⟩
   have HN2 := Lib.hid (next_any p (K + 1) w1 s1 (by omega))
   have G1 := Lib.hid g1
   clear s1 g1
   go_wp2_with fail
   refine HN2.out.mono ?_
   rintro e w2 ⟨y, rfl, hy, s2, g2⟩
   have S2 := Lib.hid s2
   have G2 := Lib.hid g2
   have hm := Nat.mod_lt (x * 256 + y) (show N > 0 by omega)
   have HM := Lib.hid hm
   clear s2 g2 hm
   go_wp2
   go_ret
   exact ⟨(x * 256 + y) % N, by simp, .inr (by have := HM.out; omega), S2.out, grown_trans G1.out G2.out⟩
  ·go_enter Tryd.func11, Tryd.ntmps11
   go_wp2_with fail
   refine HN.out.mono ?_
   rintro e w1 ⟨x, rfl, hx, s1, g1⟩
   have S1 := Lib.hid (s1.more (L := K + 2) (by omega))
   have G1 := Lib.hid g1
   have HM := Lib.hid (Nat.mod_lt x (show N > 0 by omega))
   clear s1 g1
   go_wp2
   go_ret
   exact ⟨x % N, by simp, .inr (by have := HM.out; omega), S1.out, G1.out⟩
def OneRet (p K : Nat) (w : World) (e : Ending) (w' : World) : Prop := ∃ r : Bool, e = .returned (.bool r) ∧ Src w' p K ∧ w.grownBy w' (some p)
theorem one_any (p K : Nat) (n : Int) (w : World) (h : Src w p K) (hK : K ≤ 1000000000000) :
  Calls Tryd.prog 24 #[.pointer (some ⟨p, 0, none⟩), .int .i64 n] w (OneRet p (K + 2) w) := by
 have HP := Lib.hid (pick_any p K n w h hK)
 clear h
 go_enter Tryd.func24, Tryd.ntmps24
 go_wp2_with fail
 refine HP.out.mono ?_
 rintro e w1 ⟨r, rfl, _, s1, g1⟩
 have S1 := Lib.hid s1
 have G1 := Lib.hid g1
 clear s1 g1
 go_wp2
 go_ret
 exact ⟨_, rfl, S1.out, G1.out⟩
theorem from_any (A : Option Addr) (c B : Nat) (zs : List Int) (w : World) (hx : RdB w B A zs) (hB : B ≤ w.heap.size) (hl : zs.length ≤ 9223372036854775807) (hz : ∀ z ∈ zs, 0 ≤ z ∧ z ≤ 255) :
  Calls Tryd.prog 10 #[.slice A zs.length c] w fun e w' => e = .returned (.pointer (some ⟨w.heap.size, 0, none⟩)) ∧ Src w' w.heap.size 0 ∧ Below w.heap.size w w' := by
 have hb : Below w.heap.size w (w.alloc (.cells #[.slice A zs.length c, .int .i64 0, .int .u64 0] 58)) := (Below.refl _ _).alloc (Nat.le_refl _) _
 have HF : Hid (Src (w.alloc (.cells #[.slice A zs.length c, .int .i64 0, .int .u64 0] 58)) w.heap.size 0) := Lib.hid
  ⟨A, c, zs, 0, 0, by go_simp, by go_simp, by go_simp, fun i => by go_simp, Nat.le_refl _, by decide, by decide, hl, hz, (hx.below hb hB).more hB⟩
 have HB := Lib.hid hb
 clear hx hz hb
 go_enter Tryd.func10, Tryd.ntmps10
 go_wp2
 go_ret
 exact ⟨rfl, HF.out, HB.out⟩
end Go.Proofs.YtpjepheiagllgaaDoor.Src
namespace Go.Proofs.YtpjepheiagllgaaDoor.Rev
open Go.RowKit Go.Proofs.YtpjepheiagllgaaDoor Go.Proofs.YtpjepheiagllgaaDoor.Base Go.Proofs.YtpjepheiagllgaaDoor.Mem
set_option linter.unusedVariables false
end Go.Proofs.YtpjepheiagllgaaDoor.Rev
namespace Go.Proofs.YtpjepheiagllgaaDoor.AllIn
open Go.RowKit Go.Proofs.YtpjepheiagllgaaDoor Go.Proofs.YtpjepheiagllgaaDoor.Base Go.Proofs.YtpjepheiagllgaaDoor.Mem
set_option linter.unusedVariables false
end Go.Proofs.YtpjepheiagllgaaDoor.AllIn
namespace Go.Proofs.YtpjepheiagllgaaDoor.Pts
open Go.RowKit Go.Proofs.YtpjepheiagllgaaDoor Go.Proofs.YtpjepheiagllgaaDoor.Base Go.Proofs.YtpjepheiagllgaaDoor.Mem Go.Proofs.YtpjepheiagllgaaDoor.AllIn
set_option linter.unusedVariables false
end Go.Proofs.YtpjepheiagllgaaDoor.Pts
namespace Go.Proofs.YtpjepheiagllgaaDoor.RevNet
open Go.RowKit Go.Proofs.YtpjepheiagllgaaDoor Go.Proofs.YtpjepheiagllgaaDoor.Base Go.Proofs.YtpjepheiagllgaaDoor.Mem Go.Proofs.YtpjepheiagllgaaDoor.Pts
set_option linter.unusedVariables false
theorem beside {wr w2 : World} {B : Nat} {v u : Value} {xs ys : List Int} {o : Obj} (hO : OwnI wr B v xs) (hu : OwnI wr B u ys) (ha : ∀ g, v.ownBlock = some g → u.ownBlock ≠ some g) (hg : (wr.alloc o).grownBy w2 v.ownBlock) : OwnI w2 B u ys := by
 refine World.ownsRow.kept (World.ownsRow.alloc hu o) hg ?_
 rcases hv : u.ownBlock with _ | g
 ·exact .inl rfl
 ·exact .inr fun e => ha g e.symm hv
end Go.Proofs.YtpjepheiagllgaaDoor.RevNet
namespace Go.Proofs.YtpjepheiagllgaaDoor.NetV
open Go.RowKit Go.Proofs.YtpjepheiagllgaaDoor Go.Proofs.YtpjepheiagllgaaDoor.Base Go.Proofs.YtpjepheiagllgaaDoor.Mem Go.Proofs.YtpjepheiagllgaaDoor.AllIn Go.Proofs.YtpjepheiagllgaaDoor.Pts
set_option linter.unusedVariables false
end Go.Proofs.YtpjepheiagllgaaDoor.NetV
namespace Go.Proofs.YtpjepheiagllgaaDoor.Cpy
open Go.RowKit Go.Proofs.YtpjepheiagllgaaDoor Go.Proofs.YtpjepheiagllgaaDoor.Base Go.Proofs.YtpjepheiagllgaaDoor.Mem
set_option linter.unusedVariables false
end Go.Proofs.YtpjepheiagllgaaDoor.Cpy

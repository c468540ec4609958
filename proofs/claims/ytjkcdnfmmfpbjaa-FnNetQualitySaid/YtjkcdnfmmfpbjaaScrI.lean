/- A net whose side is mixed, of the program. -/
import Derived.Test.YtjkcdnfmmfpbjaaScrW
import Derived.Deep.RegionLaw
namespace Go.Proofs.Ytjkcdnfmmfpbjaa.Scr
open Go.RowKit Go.Proofs.Ytjkcdnfmmfpbjaa Go.Proofs.Ytjkcdnfmmfpbjaa.Base Go.Proofs.Ytjkcdnfmmfpbjaa.Mem Go.Proofs.Ytjkcdnfmmfpbjaa.AllIn Go.Proofs.Ytjkcdnfmmfpbjaa.Pts Go.Proofs.Ytjkcdnfmmfpbjaa.NetV Go.Proofs.Ytjkcdnfmmfpbjaa.RevNet Go.Proofs.Ytjkcdnfmmfpbjaa.Bits Go.Proofs.Ytjkcdnfmmfpbjaa.Shift Go.Proofs.Ytjkcdnfmmfpbjaa.DrawN
set_option linter.unusedVariables false
set_option maxHeartbeats 4000000 in
set_option maxRecDepth 100000 in
theorem implSc_pos (A A' : Option Addr) (c c' B s : Nat) (xss : List (List Int)) (lower : List Int) (w : World) (hx : RdII w B A xss) (hy : RdI w B A' lower) (hB : B ≤ w.heap.size) (hl : xss.length ≤ 1048576) (hm : tot xss ≤ 1048576) (hl' : lower.length ≤ 1048576)
    (hN : netB (lower.length : Int) xss = true) (hS : inR (s : Int) 0 ((xss.length : Int) - 1) = true) :
    Calls Try.prog 37 #[.agg #[.int .i64 (lower.length : Int), .slice A xss.length c], .int .i64 (s : Int), .slice A' lower.length c'] w (ScRet (lower.length : Int) xss (s : Int) lower w) := by
  obtain ⟨i0, hi, hz0, hz1, hz2⟩ := info_parts infoI
  obtain ⟨i1, ji, jz0, jz1, jz2⟩ := info_parts infoS
  obtain ⟨W1, hW1⟩ : ∃ W1, W1 = (w.alloc (.cells #[.int .i64 (lower.length : Int), .slice A xss.length c] 49)).alloc (.cells #[.int .i64 0, .slice none 0 0] 49) := ⟨_, rfl⟩
  have zW : W1.heap.size = w.heap.size + 2 := by rw [hW1]; simp
  have bW : Below w.heap.size w W1 := by rw [hW1]; exact ((Below.refl _ _).alloc (Nat.le_refl _) _).alloc (by simp) _
  have kN : Box W1 w.heap.size (lower.length : Int) (.slice A xss.length c) := by rw [hW1]; exact (Box.new w _ _).below ((Below.refl _ _).alloc (Nat.le_refl _) _)
  have kR : Box W1 (w.heap.size + 1) 0 (.slice none 0 0) := by
    have := Box.new (w.alloc (.cells #[.int .i64 (lower.length : Int), .slice A xss.length c] 49)) 0 (.slice none 0 0)
    rw [hW1]; simpa using this
  have HW := Lib.hid hW1
  have HZ := Lib.hid zW
  have BW := Lib.hid bW
  have KN := Lib.hid kN
  have KR := Lib.hid kR
  have HX := Lib.hid (hx.below bW hB)
  have HY := Lib.hid (hy.below bW hB)
  have HV := Lib.hid (fun W (hW : Below W1.heap.size W1 W) => implValidNet_any A c B (lower.length : Int) xss W (HX.out.below hW (by omega)) (by have := hW.size; omega) hl hm)
  have HS := Lib.hid (fun w => inRange_any (s : Int) 0 ((xss.length : Int) - 1) w)
  clear hW1 bW kN kR hx hy zW
  rw [hN] at HV
  rw [hS] at HS
  have HN := Lib.hid hN
  have HS2 := Lib.hid hS
  obtain ⟨n1, n2, n3, n4, n5⟩ := netB_true hN
  have hb6 : lower.length ≤ 6 := by omega
  have hwl : IntKind.i64.wrap ((xss.length : Int) - 1) = (xss.length : Int) - 1 := by rw [IntKind.wrap_i64]; omega
  have hs4 : s < xss.length := by have := (inR_true hS).2; omega
  have hneq : ((lower.length : Int) != (lower.length : Int)) = false := by simp
  simp only [Int.toNat_natCast] at n5
  have HRow := Lib.hid (fun d hd => row_at (d := d) n5 hd)
  have HSL := Lib.hid (scL_len xss s lower)
  have HSA := Lib.hid (scL_at xss s lower)
  clear hN hS n5
  go_enter Try.func37, Try.ntmps37
  go_wp2_with fail
  rw [← HW.out]
  (refine wp_region_below (by kernel_rfl) (by kernel_rfl) ?_; (repeat (refine wpQuiet_step (fun K hK => ?_); go_simp; first | (refine hK _ ?_; clear hK K) | (apply Exists.intro; refine ⟨fun wq hq => ?_, hK _ ?_⟩; (first | rfl | (have d0 := (KN.out.below hq).c0; have d1 := (KN.out.below hq).c1; first | (go_simp; done) | (go_simp; rfl) | (first | (go_at_call 58; refine (HV.out _ hq).mono ?_; rintro e w2 ⟨rfl, hb2⟩; exact ⟨rfl, Base.Below.nextA hq hb2⟩) | (go_at_call 45; refine (HS.out _).mono ?_; rintro e w' ⟨rfl, rfl⟩; exact ⟨rfl, hq⟩) | (go_at_call 54; refine (lenS_any _ _ _ _ (by omega)).mono ?_; rintro e w' ⟨rfl, rfl⟩; exact ⟨rfl, hq⟩) | (go_at_call 46; refine (lenI_any _ _ _ _ (by omega)).mono ?_; rintro e w' ⟨rfl, rfl⟩; exact ⟨rfl, hq⟩)))); clear hK K))); refine wpQuiet_nil ?_; intro wq hq)
  have KN1 := Lib.hid (KN.out.below hq)
  have KR1 := Lib.hid (KR.out.below hq)
  have d0 := KN1.out.c0
  have d1 := KN1.out.c1
  have r0 := KR1.out.c0
  have r1 := KR1.out.c1
  have q0 := Box.frz KR1.out 0
  have q1 := Box.frz KR1.out 1
  have hsz : w.heap.size + 2 ≤ wq.heap.size := by have := hq.size; have := HZ.out; omega
  have B1 := Lib.hid (BW.out.trans (hq.mono (by have := HZ.out; omega)))
  have HX1 := Lib.hid (HX.out.below hq (by have := HZ.out; omega))
  have HY1 := Lib.hid (HY.out.below hq (by have := HZ.out; omega))
  clear hq
  obtain ⟨w0, rfl⟩ : ∃ x, x = wq := ⟨_, rfl⟩
  go_wp2
  go_loopw [35] (fun i wr => ∃ k : Nat, k ≤ lower.length ∧ i = .int .i64 (k : Int) ∧ Below w0.heap.size w0 wr ∧ Hid (∀ j, j < k → inR (lower.getD j 0) ((2 : Int) ^ j) (2 * (2 : Int) ^ j - 1) = true)) (fun i _ => lower.length - (intOf i).toNat)
  case atStart => exact ⟨0, Nat.zero_le _, rfl, Below.refl _ _, Lib.hid fun j hj => absurd hj (Nat.not_lt_zero j)⟩
  case round =>
    obtain ⟨k, hk, rfl, hD, hall⟩ := hrel
    have hbD : Below w0.heap.size w0 wr := hD
    have KNr := Lib.hid (KN1.out.below hbD)
    have KRr := Lib.hid (KR1.out.below hbD)
    have BD := Lib.hid hbD
    have hsD := hbD.size
    have B1r := Lib.hid (B1.out.trans (hbD.mono (by omega)))
    clear hD hbD d0 d1 r0 r1 q0 q1
    have d0 := KNr.out.c0
    have d1 := KNr.out.c1
    have r0 := KRr.out.c0
    have r1 := KRr.out.c1
    have q0 := Box.frz KRr.out 0
    have q1 := Box.frz KRr.out 1
    by_cases hlt : k < lower.length
    · obtain ⟨p1, p2⟩ := pw_bd6 (b := k) (by omega)
      obtain ⟨bb, off, rfl, hbb, hc⟩ := (HY1.out.below BD.out (by omega)) (by omega)
      have g := hc k hlt
      clear hc
      have hw1 : IntKind.i64.wrap ((2 : Int) ^ k) = (2 : Int) ^ k := by rw [IntKind.wrap_i64]; omega
      have hw2 : IntKind.i64.wrap (2 * (2 : Int) ^ k) = 2 * (2 : Int) ^ k := by rw [IntKind.wrap_i64]; omega
      have hw3 : IntKind.i64.wrap (2 * (2 : Int) ^ k - 1) = 2 * (2 : Int) ^ k - 1 := by rw [IntKind.wrap_i64]; omega
      cases hr : inR (lower.getD k 0) ((2 : Int) ^ k) (2 * (2 : Int) ^ k - 1) with
      | false =>
        have HF := Lib.hid (lowB_no hlt hr)
        have HC := Lib.hid (fun w => inRange_any (lower.getD k 0) ((2 : Int) ^ k) (2 * (2 : Int) ^ k - 1) w)
        rw [hr] at HC
        clear hr
        generalize lower.getD k 0 = x at *
        go_wp2
        (refine wp_region_below (by kernel_rfl) (by kernel_rfl) ?_; (repeat (refine wpQuiet_step (fun K hK => ?_); go_simp; first | (refine hK _ ?_; clear hK K) | (apply Exists.intro; refine ⟨fun wq hq => ?_, hK _ ?_⟩; (first | rfl | (skip; first | (go_simp; done) | (go_simp; rfl) | (go_at_call 45; refine (HC.out _).mono ?_; rintro e w' ⟨rfl, rfl⟩; exact ⟨rfl, hq⟩))); clear hK K))); refine wpQuiet_nil ?_; intro wq hq)
        have KRq := Lib.hid (KRr.out.below hq)
        have B1q := Lib.hid (B1r.out.trans (hq.mono (by omega)))
        clear r0 r1 q0 q1 d0 d1 hq
        have r0 := KRq.out.c0
        have r1 := KRq.out.c1
        have q0 := Box.frz KRq.out 0
        have q1 := Box.frz KRq.out 1
        go_wp2
        refine bodyPost_ret (v := .tuple #[.agg #[.int .i64 0, .slice none 0 0], .bool false]) (by simp [results, Try.results37, go_sem, r0, r1]) rfl (ScRet.no (by simp [scB, HN.out, HS2.out, HF.out]) ⟨rfl, ((B1q.out).setCell (Nat.le_succ _) _).setCell (Nat.le_succ _) _⟩)
      | true =>
        have HC := Lib.hid (fun w => inRange_any (lower.getD k 0) ((2 : Int) ^ k) (2 * (2 : Int) ^ k - 1) w)
        rw [hr] at HC
        have hn : Hid (∀ j, j < k + 1 → inR (lower.getD j 0) ((2 : Int) ^ j) (2 * (2 : Int) ^ j - 1) = true) := Lib.hid fun j hj => by
          rcases Nat.lt_or_ge j k with h | h
          · exact hall.out j h
          · rw [show j = k by omega]; exact hr
        clear hr hall
        generalize lower.getD k 0 = x at *
        go_wp2
        (refine wp_region_below (by kernel_rfl) (by kernel_rfl) ?_; (repeat (refine wpQuiet_step (fun K hK => ?_); go_simp; first | (refine hK _ ?_; clear hK K) | (apply Exists.intro; refine ⟨fun wq hq => ?_, hK _ ?_⟩; (first | rfl | (skip; first | (go_simp; done) | (go_simp; rfl) | (go_at_call 45; refine (HC.out _).mono ?_; rintro e w' ⟨rfl, rfl⟩; exact ⟨rfl, hq⟩))); clear hK K))); refine wpQuiet_nil ?_; intro wq hq)
        go_wp2
        go_roundw
        case rel => exact ⟨k + 1, by omega, by go_num, Base.Below.nextA BD.out hq, hn⟩
        case measure => simp [intOf]; omega
    · obtain rfl : k = lower.length := by omega
      have HLow := Lib.hid (lowB_of hall.out)
      clear hall
      obtain ⟨w1, rfl⟩ : ∃ x, x = wr := ⟨_, rfl⟩
      have hlw : w.heap.size < w1.heap.size := by omega
      have HX2 := Lib.hid (HX1.out.below BD.out (by omega))
      have HY2 := Lib.hid (HY1.out.below BD.out (by omega))
      have H0 : Hid (ScRel (scL xss s lower) (lower.length : Int) w1.heap.size w1 (.int .i64 0) (w1.alloc (.cells #[.int .i64 (lower.length : Int), .slice none 0 0] 49))) :=
        Lib.hid ⟨0, none, 0, [], Nat.zero_le _, rfl, OwnII.nil _ _, Box.new _ _ _, (Below.refl _ _).alloc (Nat.le_refl _) _⟩
      go_wp2
      go_loopw [56] (fun i wr => ScRel (scL xss s lower) (lower.length : Int) w1.heap.size w1 i wr) (fun i _ => xss.length - (intOf i).toNat)
      case atStart => exact H0.out
      case round =>
        obtain ⟨k, A2, c2, us, hk, rfl, hO, hbx, hb⟩ := hrel
        obtain ⟨wo, rfl⟩ : ∃ x, x = wr := ⟨_, rfl⟩
        have HO := Lib.hid hO
        have HBx := Lib.hid hbx
        have HB := Lib.hid hb
        have hzo := hb.size
        have hzg := hbx.lt
        rw [HSL.out] at hk
        clear hO hbx hb r0 r1 q0 q1 d0 d1
        by_cases hlt : k < xss.length
        · obtain ⟨ro1, ro2⟩ := HRow.out k hlt
          obtain ⟨bb, off, rfl, hbB, hc⟩ := HX2.out (by omega)
          obtain ⟨A3, c3, g3, r3⟩ := hc k hlt
          have g4 := (HB.out.cell (p := ⟨bb, off + k, none⟩) (by show bb < w1.heap.size; omega)).trans g3
          have HLt := Lib.hid (show (scL xss s lower).getD k [] = if k = s then mixR (xss.getD k []) lower else xss.getD k [] from HSA.out k hlt)
          have HT := Lib.hid (fun W (hW : Below wo.heap.size wo W) => (timesRows_any A3 A' c3 c' B (xss.getD k []) lower W (r3.below (Base.Below.nextA HB.out hW) (by omega)) (HY2.out.below (Base.Below.nextA HB.out hW) (by omega)) (by have := hW.size; omega) (by omega) hb6 (fun i hi => by have := ro2 i (by omega); have := (pw_bd6 (b := lower.length) hb6).2; omega) (fun i hi => by have := inR_true (lowB_at HLow.out hi); have := pw_bd6 (b := i) (by omega); omega)).mono fun e w' h => ListMade.at h hW)
          have HCl := Lib.hid (fun W (hW : Below wo.heap.size wo W) => (clone_any A3 c3 B (xss.getD k []) W (r3.below (Base.Below.nextA HB.out hW) (by omega)) (by have := hW.size; omega) (by omega)).mono fun e w' h => ListMade.at h hW)
          have hlen : ((scL xss s lower).take k).length = k := by rw [List.length_take, HSL.out]; omega
          have HLn := Lib.hid hlen
          clear hc g3 r3 ro1 ro2 hlen
          generalize xss.getD k [] = xs at *
          have x0 := HBx.out.c1
          by_cases hks : k = s
          · have hkb : ((k : Int) == (s : Int)) = true := by simp [hks]
            rw [if_pos hks] at HLt
            clear hks
            go_wp2
            go_region_law (first
              | (go_simp; go_at_call 64; refine (HT.out _ (by first | exact Below.refl _ _ | exact (Below.refl _ _).drew)).mono ?_; rintro e w2 ⟨A4, c4, rfl, o4, b4⟩; have O4 := Lib.hid o4; have B4 := Lib.hid b4; have hs2 := b4.size; have hlt2w : w1.heap.size < w2.heap.size := (by omega); have x1 := (HBx.out.below b4).c1; have hown := World.ownsRow.alloc (ownsRow_below HO.out.outer b4) (.cells #[.slice A4 (mixR xs lower).length c4] 28); rw [HLn.out] at hown; have HWn := Lib.hid hown; clear hown o4 b4)
              | (refine step_append_lies _ (by rfl) _ _ _ (by rfl) w1.heap.size 28 i1 _ 1 24 Try.underlying42 ji jz0 jz1 jz2 rfl (by omega) (.slice A2 k c2) k _ (by rfl) HWn.out ⟨w2.heap.size, 0, none⟩ 1 1 [.slice A4 (mixR xs lower).length c4] (by rfl) (by rfl) (World.news_of_block (cs := #[.slice A4 (mixR xs lower).length c4]) (t := 28) (fr := (0, 0)) (heap_alloc_new w2 _)) one_slice (by omega) (by simp only [maxLen]; omega) (by omega) (by first | omega | (simp only [World.size_alloc]; omega)) (w2.heap.size + 1) (by simp) ?_; intro gg cap w3 hown' hg' hat hlt2; have HNx := Lib.hid (ScRel.next (b := (lower.length : Int)) (g := w1.heap.size) (w3 := w3) (by rw [HSL.out]; exact hlt) HO.out HBx.out (Nat.le_refl _) HB.out (B4.out.alloc B4.out.size (.cells #[.slice A4 (mixR xs lower).length c4] 28)) (by rw [HLt.out]; exact World.ownsRow.alloc O4.out _) hown' hg'); have y := box_after HO.out HBx.out (B4.out.alloc B4.out.size (.cells #[.slice A4 (mixR xs lower).length c4] 28)) hg'; have y1 := y.c1; have y2 := Box.frz y 1; clear hown' hg' hat y x0 x1))
            all_goals
              go_wp2
              go_roundw
              case rel => exact HNx.out
              case measure => simp [intOf]; omega
          · have hkb : ((k : Int) == (s : Int)) = false := by simp; omega
            rw [if_neg hks] at HLt
            clear hks
            go_wp2
            go_region_law (first
              | (go_simp; go_at_call 65; refine (HCl.out _ (by first | exact Below.refl _ _ | exact (Below.refl _ _).drew)).mono ?_; rintro e w2 ⟨A4, c4, rfl, o4, b4⟩; have O4 := Lib.hid o4; have B4 := Lib.hid b4; have hs2 := b4.size; have hlt2w : w1.heap.size < w2.heap.size := (by omega); have x1 := (HBx.out.below b4).c1; have hown := World.ownsRow.alloc (ownsRow_below HO.out.outer b4) (.cells #[.slice A4 (xs).length c4] 28); rw [HLn.out] at hown; have HWn := Lib.hid hown; clear hown o4 b4)
              | (refine step_append_lies _ (by rfl) _ _ _ (by rfl) w1.heap.size 28 i1 _ 1 24 Try.underlying42 ji jz0 jz1 jz2 rfl (by omega) (.slice A2 k c2) k _ (by rfl) HWn.out ⟨w2.heap.size, 0, none⟩ 1 1 [.slice A4 (xs).length c4] (by rfl) (by rfl) (World.news_of_block (cs := #[.slice A4 (xs).length c4]) (t := 28) (fr := (0, 0)) (heap_alloc_new w2 _)) one_slice (by omega) (by simp only [maxLen]; omega) (by omega) (by first | omega | (simp only [World.size_alloc]; omega)) (w2.heap.size + 1) (by simp) ?_; intro gg cap w3 hown' hg' hat hlt2; have HNx := Lib.hid (ScRel.next (b := (lower.length : Int)) (g := w1.heap.size) (w3 := w3) (by rw [HSL.out]; exact hlt) HO.out HBx.out (Nat.le_refl _) HB.out (B4.out.alloc B4.out.size (.cells #[.slice A4 (xs).length c4] 28)) (by rw [HLt.out]; exact World.ownsRow.alloc O4.out _) hown' hg'); have y := box_after HO.out HBx.out (B4.out.alloc B4.out.size (.cells #[.slice A4 (xs).length c4] 28)) hg'; have y1 := y.c1; have y2 := Box.frz y 1; clear hown' hg' hat y x0 x1))
            all_goals
              go_wp2
              go_roundw
              case rel => exact HNx.out
              case measure => simp [intOf]; omega
        · obtain rfl : k = xss.length := by omega
          have ho := HO.out
          rw [show (scL xss s lower).take xss.length = scL xss s lower from List.take_of_length_le (by rw [HSL.out]; exact Nat.le_refl _)] at ho
          have HP := Lib.hid ho
          have k1 := HBx.out.c0
          have k2 := HBx.out.c1
          have kr := KRr.out.below HB.out
          have k3 := kr.c0
          have k4 := kr.c1
          have k5 := Box.frz kr 0
          have k6 := Box.frz kr 1
          have hz7 := kr.lt
          have BE := Lib.hid (B1r.out.trans (HB.out.mono (by omega)))
          clear ho kr
          go_wp2
          refine bodyPost_ret (v := .tuple #[.agg #[.int .i64 (lower.length : Int), .slice A2 xss.length c2], .bool true]) (by simp [results, Try.results37, go_sem, k3, k4]) rfl ?_
          refine ScRet.yes (by simp [scB, HN.out, HS2.out, HLow.out]) ⟨A2, c2, us, ?_, ?_, (BE.out.setCell (Nat.le_succ _) _).setCell (Nat.le_succ _) _⟩
          · rw [Int.toNat_natCast, HSL.out]
          · rw [Int.toNat_natCast, HSL.out]
            exact ((HP.out.setLow (a := ⟨w.heap.size + 1, 0, none⟩) (by show w.heap.size + 1 < _; omega) _).setLow (a := ⟨w.heap.size + 1, 1, none⟩) (by show w.heap.size + 1 < _; omega) _).base (by omega)
end Go.Proofs.Ytjkcdnfmmfpbjaa.Scr

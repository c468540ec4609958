/- A net whose side is mixed, of the program; every case. -/
import Derived.Test.YtjkcdnfmmfpbjaaScrI
namespace Go.Proofs.Ytjkcdnfmmfpbjaa.Scr
open Go.RowKit Go.Proofs.Ytjkcdnfmmfpbjaa Go.Proofs.Ytjkcdnfmmfpbjaa.Base Go.Proofs.Ytjkcdnfmmfpbjaa.Mem Go.Proofs.Ytjkcdnfmmfpbjaa.AllIn Go.Proofs.Ytjkcdnfmmfpbjaa.Pts Go.Proofs.Ytjkcdnfmmfpbjaa.NetV Go.Proofs.Ytjkcdnfmmfpbjaa.RevNet Go.Proofs.Ytjkcdnfmmfpbjaa.Bits Go.Proofs.Ytjkcdnfmmfpbjaa.Shift Go.Proofs.Ytjkcdnfmmfpbjaa.DrawN
set_option linter.unusedVariables false
set_option maxHeartbeats 4000000 in
set_option maxRecDepth 100000 in
theorem implSc_any (A A' : Option Addr) (c c' B : Nat) (bits side : Int) (xss : List (List Int)) (lower : List Int) (w : World) (hx : RdII w B A xss) (hy : RdI w B A' lower) (hB : B ≤ w.heap.size) (hl : xss.length ≤ 1048576) (hm : tot xss ≤ 1048576) (hl' : lower.length ≤ 1048576) :
    Calls Try.prog 37 #[.agg #[.int .i64 bits, .slice A xss.length c], .int .i64 side, .slice A' lower.length c'] w (ScRet bits xss side lower w) := by
  obtain ⟨i0, hi, hz0, hz1, hz2⟩ := info_parts infoI
  obtain ⟨i1, ji, jz0, jz1, jz2⟩ := info_parts infoS
  obtain ⟨W1, hW1⟩ : ∃ W1, W1 = (w.alloc (.cells #[.int .i64 bits, .slice A xss.length c] 49)).alloc (.cells #[.int .i64 0, .slice none 0 0] 49) := ⟨_, rfl⟩
  have zW : W1.heap.size = w.heap.size + 2 := by rw [hW1]; simp
  have bW : Below w.heap.size w W1 := by rw [hW1]; exact ((Below.refl _ _).alloc (Nat.le_refl _) _).alloc (by simp) _
  have kN : Box W1 w.heap.size bits (.slice A xss.length c) := by rw [hW1]; exact (Box.new w _ _).below ((Below.refl _ _).alloc (Nat.le_refl _) _)
  have kR : Box W1 (w.heap.size + 1) 0 (.slice none 0 0) := by
    have := Box.new (w.alloc (.cells #[.int .i64 bits, .slice A xss.length c] 49)) 0 (.slice none 0 0)
    rw [hW1]; simpa using this
  have HW := Lib.hid hW1
  have HZ := Lib.hid zW
  have BW := Lib.hid bW
  have KN := Lib.hid kN
  have KR := Lib.hid kR
  have HX := Lib.hid (hx.below bW hB)
  have hx0 := hx
  have hy0 := hy
  have HY := Lib.hid (hy.below bW hB)
  have HV := Lib.hid (fun W (hW : Below W1.heap.size W1 W) => implValidNet_any A c B bits xss W (HX.out.below hW (by omega)) (by have := hW.size; omega) hl hm)
  have HS := Lib.hid (fun w => inRange_any side 0 ((xss.length : Int) - 1) w)
  clear hW1 bW kN kR hx hy zW
  cases hN : netB bits xss with
  | false =>
    rw [hN] at HV
    go_enter Try.func37, Try.ntmps37
    go_wp2_with fail
    rw [← HW.out]
    (refine wp_region_below (by kernel_rfl) (by kernel_rfl) ?_; (repeat (refine wpQuiet_step (fun K hK => ?_); go_simp; first | (refine hK _ ?_; clear hK K) | (apply Exists.intro; refine ⟨fun wq hq => ?_, hK _ ?_⟩; (first | rfl | (have d0 := (KN.out.below hq).c0; have d1 := (KN.out.below hq).c1; first | (go_simp; done) | (go_simp; rfl) | (first | (go_at_call 58; refine (HV.out _ hq).mono ?_; rintro e w2 ⟨rfl, hb2⟩; exact ⟨rfl, Base.Below.nextA hq hb2⟩) | (go_at_call 45; refine (HS.out _).mono ?_; rintro e w' ⟨rfl, rfl⟩; exact ⟨rfl, hq⟩) | (go_at_call 54; refine (lenS_any _ _ _ _ (by omega)).mono ?_; rintro e w' ⟨rfl, rfl⟩; exact ⟨rfl, hq⟩) | (go_at_call 46; refine (lenI_any _ _ _ _ (by omega)).mono ?_; rintro e w' ⟨rfl, rfl⟩; exact ⟨rfl, hq⟩)))); clear hK K))); refine wpQuiet_nil ?_; intro wq hq)
    have KN1 := Lib.hid (KN.out.below hq)
    have KR1 := Lib.hid (KR.out.below hq)
    have d0 := KN1.out.c0
    have d1 := KN1.out.c1
    have r0 := KR1.out.c0
    have r1 := KR1.out.c1
    have q0 := Box.frz KR1.out 0
    have q1 := Box.frz KR1.out 1
    have hsz : w.heap.size + 2 ≤ wq.heap.size := by have := hq.size; have := HZ.out; omega
    have B1 := Lib.hid (BW.out.trans (hq.mono (by have := HZ.out; omega)))
    clear hq
    go_wp2
    refine bodyPost_ret (v := .tuple #[.agg #[.int .i64 0, .slice none 0 0], .bool false]) (by simp [results, Try.results37, go_sem, r0, r1]) rfl (ScRet.no (by simp [scB, hN]) ⟨rfl, ((B1.out).setCell (Nat.le_succ _) _).setCell (Nat.le_succ _) _⟩)
  | true =>
    rw [hN] at HV
    obtain ⟨n1, n2, n3, n4, n5⟩ := netB_true hN
    obtain ⟨b, rfl⟩ := Int.eq_ofNat_of_zero_le n1
    have hb6 : b ≤ 6 := by omega
    have hwl : IntKind.i64.wrap ((xss.length : Int) - 1) = (xss.length : Int) - 1 := by rw [IntKind.wrap_i64]; omega
    cases hS : inR side 0 ((xss.length : Int) - 1) with
    | false =>
      rw [hS] at HS
      have HN := Lib.hid hN
      have HS2 := Lib.hid hS
      clear hN hS n5
      go_enter Try.func37, Try.ntmps37
      go_wp2_with fail
      rw [← HW.out]
      (refine wp_region_below (by kernel_rfl) (by kernel_rfl) ?_; (repeat (refine wpQuiet_step (fun K hK => ?_); go_simp; first | (refine hK _ ?_; clear hK K) | (apply Exists.intro; refine ⟨fun wq hq => ?_, hK _ ?_⟩; (first | rfl | (have d0 := (KN.out.below hq).c0; have d1 := (KN.out.below hq).c1; first | (go_simp; done) | (go_simp; rfl) | (first | (go_at_call 58; refine (HV.out _ hq).mono ?_; rintro e w2 ⟨rfl, hb2⟩; exact ⟨rfl, Base.Below.nextA hq hb2⟩) | (go_at_call 45; refine (HS.out _).mono ?_; rintro e w' ⟨rfl, rfl⟩; exact ⟨rfl, hq⟩) | (go_at_call 54; refine (lenS_any _ _ _ _ (by omega)).mono ?_; rintro e w' ⟨rfl, rfl⟩; exact ⟨rfl, hq⟩) | (go_at_call 46; refine (lenI_any _ _ _ _ (by omega)).mono ?_; rintro e w' ⟨rfl, rfl⟩; exact ⟨rfl, hq⟩)))); clear hK K))); refine wpQuiet_nil ?_; intro wq hq)
      have KN1 := Lib.hid (KN.out.below hq)
      have KR1 := Lib.hid (KR.out.below hq)
      have d0 := KN1.out.c0
      have d1 := KN1.out.c1
      have r0 := KR1.out.c0
      have r1 := KR1.out.c1
      have q0 := Box.frz KR1.out 0
      have q1 := Box.frz KR1.out 1
      have hsz : w.heap.size + 2 ≤ wq.heap.size := by have := hq.size; have := HZ.out; omega
      have B1 := Lib.hid (BW.out.trans (hq.mono (by have := HZ.out; omega)))
      clear hq
      go_wp2
      refine bodyPost_ret (v := .tuple #[.agg #[.int .i64 0, .slice none 0 0], .bool false]) (by simp [results, Try.results37, go_sem, r0, r1]) rfl (ScRet.no (by simp [scB, HN.out, HS2.out]) ⟨rfl, ((B1.out).setCell (Nat.le_succ _) _).setCell (Nat.le_succ _) _⟩)
    | true =>
      rw [hS] at HS
      have HN := Lib.hid hN
      have HS2 := Lib.hid hS
      by_cases hL : lower.length = b
      case neg =>
        have hneq : ((lower.length : Int) != (b : Int)) = true := by simp; omega
        have hL2 : decide ((lower.length : Int) = (b : Int)) = false := decide_eq_false (by omega)
        have HL2 := Lib.hid hL2
        clear hN hS n5 hL hL2
        go_enter Try.func37, Try.ntmps37
        go_wp2_with fail
        rw [← HW.out]
        (refine wp_region_below (by kernel_rfl) (by kernel_rfl) ?_; (repeat (refine wpQuiet_step (fun K hK => ?_); go_simp; first | (refine hK _ ?_; clear hK K) | (apply Exists.intro; refine ⟨fun wq hq => ?_, hK _ ?_⟩; (first | rfl | (have d0 := (KN.out.below hq).c0; have d1 := (KN.out.below hq).c1; first | (go_simp; done) | (go_simp; rfl) | (first | (go_at_call 58; refine (HV.out _ hq).mono ?_; rintro e w2 ⟨rfl, hb2⟩; exact ⟨rfl, Base.Below.nextA hq hb2⟩) | (go_at_call 45; refine (HS.out _).mono ?_; rintro e w' ⟨rfl, rfl⟩; exact ⟨rfl, hq⟩) | (go_at_call 54; refine (lenS_any _ _ _ _ (by omega)).mono ?_; rintro e w' ⟨rfl, rfl⟩; exact ⟨rfl, hq⟩) | (go_at_call 46; refine (lenI_any _ _ _ _ (by omega)).mono ?_; rintro e w' ⟨rfl, rfl⟩; exact ⟨rfl, hq⟩)))); clear hK K))); refine wpQuiet_nil ?_; intro wq hq)
        have KN1 := Lib.hid (KN.out.below hq)
        have KR1 := Lib.hid (KR.out.below hq)
        have d0 := KN1.out.c0
        have d1 := KN1.out.c1
        have r0 := KR1.out.c0
        have r1 := KR1.out.c1
        have q0 := Box.frz KR1.out 0
        have q1 := Box.frz KR1.out 1
        have hsz : w.heap.size + 2 ≤ wq.heap.size := by have := hq.size; have := HZ.out; omega
        have B1 := Lib.hid (BW.out.trans (hq.mono (by have := HZ.out; omega)))
        clear hq
        go_wp2
        refine bodyPost_ret (v := .tuple #[.agg #[.int .i64 0, .slice none 0 0], .bool false]) (by simp [results, Try.results37, go_sem, r0, r1]) rfl (ScRet.no (by simp [scB, HN.out, HS2.out, HL2.out]) ⟨rfl, ((B1.out).setCell (Nat.le_succ _) _).setCell (Nat.le_succ _) _⟩)
      case pos =>
        obtain ⟨s, rfl⟩ := Int.eq_ofNat_of_zero_le (inR_true hS).1
        subst hL
        exact implSc_pos A A' c c' B s xss lower w hx0 hy0 hB hl hm hl' HN.out HS2.out
end Go.Proofs.Ytjkcdnfmmfpbjaa.Scr

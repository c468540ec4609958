/- A net whose side is mixed, of the reference. -/
import Derived.Test.YtpflbcdbmainiaaScrW
namespace Go.Proofs.Ytpflbcdbmainiaa.Scr
open Go.RowKit Go.Proofs.Ytpflbcdbmainiaa Go.Proofs.Ytpflbcdbmainiaa.Base Go.Proofs.Ytpflbcdbmainiaa.Mem Go.Proofs.Ytpflbcdbmainiaa.AllIn Go.Proofs.Ytpflbcdbmainiaa.Pts Go.Proofs.Ytpflbcdbmainiaa.NetV Go.Proofs.Ytpflbcdbmainiaa.RevNet Go.Proofs.Ytpflbcdbmainiaa.Bits Go.Proofs.Ytpflbcdbmainiaa.Shift Go.Proofs.Ytpflbcdbmainiaa.DrawN
set_option linter.unusedVariables false
set_option maxHeartbeats 4000000 in
set_option maxRecDepth 100000 in
theorem specSc_any (A A' : Option Addr) (c c' B : Nat) (bits side : Int) (xss : List (List Int)) (lower : List Int) (w : World) (hx : RdII w B A xss) (hy : RdI w B A' lower) (hB : B ≤ w.heap.size) (hl : xss.length ≤ 1048576) (hm : tot xss ≤ 1048576) (hl' : lower.length ≤ 1048576) :
    Calls Try.prog 29 #[.agg #[.int .i64 bits, .slice A xss.length c], .int .i64 side, .slice A' lower.length c'] w (ScRet bits xss side lower w) := by
  obtain ⟨i0, hi, hz0, hz1, hz2⟩ := info_parts infoI
  obtain ⟨i1, ji, jz0, jz1, jz2⟩ := info_parts infoS
  obtain ⟨W1, hW1⟩ : ∃ W1, W1 = (w.alloc (.cells #[.int .i64 bits, .slice A xss.length c] 57)).alloc (.cells #[.int .i64 0, .slice none 0 0] 57) := ⟨_, rfl⟩
  have zW : W1.heap.size = w.heap.size + 2 := by rw [hW1]; simp
  have bW : Below w.heap.size w W1 := by rw [hW1]; exact ((Below.refl _ _).alloc (Nat.le_refl _) _).alloc (by simp) _
  have kN : Box W1 w.heap.size bits (.slice A xss.length c) := by rw [hW1]; exact (Box.new w _ _).below ((Below.refl _ _).alloc (Nat.le_refl _) _)
  have kR : Box W1 (w.heap.size + 1) 0 (.slice none 0 0) := by
    have := Box.new (w.alloc (.cells #[.int .i64 bits, .slice A xss.length c] 57)) 0 (.slice none 0 0)
    rw [hW1]; simpa using this
  have HW := Lib.hid hW1
  have BW := Lib.hid bW
  have KN := Lib.hid kN
  have KR := Lib.hid kR
  have HX := Lib.hid (hx.below bW hB)
  have HY := Lib.hid (hy.below bW hB)
  have HI := Lib.hid (l10Is_any w.heap.size A c B bits xss W1 HX.out kN.c0 kN.c1 hl hm)
  have HS := Lib.hid (fun w => l00In_any side 0 ((xss.length : Int) - 1) w)
  clear hW1 bW kN kR hx hy
  cases hN : netB bits xss with
  | false =>
    rw [hN] at HI
    go_enter Try.func29, Try.ntmps29
    go_wp2_with fail
    rw [← HW.out]
    refine HI.out.mono ?_
    rintro e w1 ⟨rfl, hD⟩
    have hb1 : Below W1.heap.size W1 w1 := hD.below
    have r0 := (KR.out.below hb1).c0
    have r1 := (KR.out.below hb1).c1
    have q0 := Box.frz (KR.out.below hb1) 0
    have q1 := Box.frz (KR.out.below hb1) 1
    have hsz := hb1.size
    have B1 := Lib.hid (BW.out.trans (hb1.mono (by omega)))
    clear hD hb1
    go_wp2
    refine bodyPost_ret (v := .tuple #[.agg #[.int .i64 0, .slice none 0 0], .bool false]) (by simp [results, Try.results29, go_sem, r0, r1]) rfl (ScRet.no (by simp [scB, hN]) ⟨rfl, ((B1.out).setCell (Nat.le_succ _) _).setCell (Nat.le_succ _) _⟩)
  | true =>
    rw [hN] at HI
    obtain ⟨n1, n2, n3, n4, n5⟩ := netB_true hN
    obtain ⟨b, rfl⟩ := Int.eq_ofNat_of_zero_le n1
    have hb6 : b ≤ 6 := by omega
    cases hS : inR side 0 ((xss.length : Int) - 1) with
    | false =>
      rw [hS] at HS
      have HN := Lib.hid hN
      have HS2 := Lib.hid hS
      clear hN hS n5
      go_enter Try.func29, Try.ntmps29
      go_wp2_with fail
      rw [← HW.out]
      refine HI.out.mono ?_
      rintro e w1 ⟨rfl, hD⟩
      have hb1 : Below W1.heap.size W1 w1 := hD.below
      have d0 := (KN.out.below hb1).c0
      have d1 := (KN.out.below hb1).c1
      have r0 := (KR.out.below hb1).c0
      have r1 := (KR.out.below hb1).c1
      have q0 := Box.frz (KR.out.below hb1) 0
      have q1 := Box.frz (KR.out.below hb1) 1
      have hsz := hb1.size
      have B1 := Lib.hid (BW.out.trans (hb1.mono (by omega)))
      clear hD hb1
      go_wp2_with fail
      refine (HS.out _).mono ?_
      rintro e w' ⟨rfl, rfl⟩
      go_wp2
      refine bodyPost_ret (v := .tuple #[.agg #[.int .i64 0, .slice none 0 0], .bool false]) (by simp [results, Try.results29, go_sem, r0, r1]) rfl (ScRet.no (by simp [scB, HN.out, HS2.out]) ⟨rfl, ((B1.out).setCell (Nat.le_succ _) _).setCell (Nat.le_succ _) _⟩)
    | true =>
      rw [hS] at HS
      have HN := Lib.hid hN
      have HS2 := Lib.hid hS
      by_cases hL : lower.length = b
      case neg =>
        have hneq : ((lower.length : Int) != (b : Int)) = true := by simp; omega
        have hL2 : decide ((lower.length : Int) = (b : Int)) = false := decide_eq_false (by omega)
        have HL2 := Lib.hid hL2
        clear hN hS n5 hL hL2
        go_enter Try.func29, Try.ntmps29
        go_wp2_with fail
        rw [← HW.out]
        refine HI.out.mono ?_
        rintro e w1 ⟨rfl, hD⟩
        have hb1 : Below W1.heap.size W1 w1 := hD.below
        have d0 := (KN.out.below hb1).c0
        have d1 := (KN.out.below hb1).c1
        have r0 := (KR.out.below hb1).c0
        have r1 := (KR.out.below hb1).c1
        have q0 := Box.frz (KR.out.below hb1) 0
        have q1 := Box.frz (KR.out.below hb1) 1
        have hsz := hb1.size
        have B1 := Lib.hid (BW.out.trans (hb1.mono (by omega)))
        clear hD hb1
        go_wp2_with fail
        refine (HS.out _).mono ?_
        rintro e w' ⟨rfl, rfl⟩
        go_wp2
        refine bodyPost_ret (v := .tuple #[.agg #[.int .i64 0, .slice none 0 0], .bool false]) (by simp [results, Try.results29, go_sem, r0, r1]) rfl (ScRet.no (by simp [scB, HN.out, HS2.out, HL2.out]) ⟨rfl, ((B1.out).setCell (Nat.le_succ _) _).setCell (Nat.le_succ _) _⟩)
      case pos =>
        obtain ⟨s, rfl⟩ := Int.eq_ofNat_of_zero_le (inR_true hS).1
        have hs4 : s < xss.length := by have := (inR_true hS).2; omega
        subst hL
        have hneq : ((lower.length : Int) != (lower.length : Int)) = false := by simp
        simp only [Int.toNat_natCast] at n5
        have HRow := Lib.hid (fun d hd => row_at (d := d) n5 hd)
        have HSL := Lib.hid (scL_len xss s lower)
        have HSA := Lib.hid (scL_at xss s lower)
        clear hN hS n5
        go_enter Try.func29, Try.ntmps29
        go_wp2_with fail
        rw [← HW.out]
        refine HI.out.mono ?_
        rintro e w1 ⟨rfl, hD⟩
        have hb1 : Below W1.heap.size W1 w1 := hD.below
        obtain ⟨mD, hmD⟩ := hD
        have hsz : w1.heap.size = w.heap.size + 2 := by rw [hmD]; exact zW
        have HSz := Lib.hid hsz
        have KN1 := Lib.hid (KN.out.below hb1)
        have KR1 := Lib.hid (KR.out.below hb1)
        have d0 := KN1.out.c0
        have d1 := KN1.out.c1
        have r0 := KR1.out.c0
        have r1 := KR1.out.c1
        have q0 := Box.frz KR1.out 0
        have q1 := Box.frz KR1.out 1
        have B1 := Lib.hid (BW.out.trans (hb1.mono (by omega)))
        have HX1 := Lib.hid (HX.out.below hb1 (by omega))
        have HY1 := Lib.hid (HY.out.below hb1 (by omega))
        clear hmD hb1 hsz
        go_wp2_with fail
        refine (HS.out _).mono ?_
        rintro e w' ⟨rfl, rfl⟩
        go_wp2
        go_loop [8] (fun i => ∃ k : Nat, k ≤ lower.length ∧ i = .int .i64 (k : Int) ∧ Hid (∀ j, j < k → inR (lower.getD j 0) ((2 : Int) ^ j) (2 * (2 : Int) ^ j - 1) = true)) (fun i => lower.length - (intOf i).toNat)
        case atStart => exact ⟨0, Nat.zero_le _, rfl, Lib.hid fun j hj => absurd hj (Nat.not_lt_zero j)⟩
        case round =>
          obtain ⟨k, hk, rfl, hall⟩ := hrel
          by_cases hlt : k < lower.length
          · obtain ⟨p1, p2⟩ := pw_bd6 (b := k) (by omega)
            obtain ⟨bb, off, rfl, _, hc⟩ := HY1.out (by omega)
            have g := hc k hlt
            clear hc
            cases hr : inR (lower.getD k 0) ((2 : Int) ^ k) (2 * (2 : Int) ^ k - 1) with
            | false =>
              have HF := Lib.hid (lowB_no hlt hr)
              have HC := Lib.hid (fun w => l00In_any (lower.getD k 0) ((2 : Int) ^ k) (2 * (2 : Int) ^ k - 1) w)
              rw [hr] at HC
              clear hr
              generalize lower.getD k 0 = x at *
              go_wp2_with fail
              refine (HC.out _).mono ?_
              rintro e w' ⟨rfl, rfl⟩
              go_wp2
              refine bodyPost_ret (v := .tuple #[.agg #[.int .i64 0, .slice none 0 0], .bool false]) (by simp [results, Try.results29, go_sem, r0, r1]) rfl (ScRet.no (by simp [scB, HN.out, HS2.out, HF.out]) ⟨rfl, ((B1.out).setCell (Nat.le_succ _) _).setCell (Nat.le_succ _) _⟩)
            | true =>
              have HC := Lib.hid (fun w => l00In_any (lower.getD k 0) ((2 : Int) ^ k) (2 * (2 : Int) ^ k - 1) w)
              rw [hr] at HC
              have hn : Hid (∀ j, j < k + 1 → inR (lower.getD j 0) ((2 : Int) ^ j) (2 * (2 : Int) ^ j - 1) = true) := Lib.hid fun j hj => by
                rcases Nat.lt_or_ge j k with h | h
                · exact hall.out j h
                · rw [show j = k by omega]; exact hr
              clear hr hall
              generalize lower.getD k 0 = x at *
              go_wp2_with fail
              refine (HC.out _).mono ?_
              rintro e w' ⟨rfl, rfl⟩
              go_wp2
              go_round
              case rel => exact ⟨k + 1, by omega, by go_num, hn⟩
              case measure => simp [intOf]; omega
          · obtain rfl : k = lower.length := by omega
            have HLow := Lib.hid (lowB_of hall.out)
            clear hall
            have H0 : Hid (ScRel (scL xss s lower) (lower.length : Int) (w1.heap.size + 1) w1 (.int .i64 0) ((w1.alloc (.cells #[] 55)).alloc (.cells #[.int .i64 (lower.length : Int), .slice (some ⟨w1.heap.size, 0, none⟩) 0 0] 57))) := Lib.hid (by
              have o := OwnII.lit0 (B := w1.heap.size) w1 (Nat.le_refl _) #[] rfl
              have o2 := o.below ((Below.refl _ _).alloc (Nat.le_refl _) (.cells #[.int .i64 (lower.length : Int), .slice (some ⟨w1.heap.size, 0, none⟩) 0 0] 57))
              have k1 := Box.new (w1.alloc (.cells #[] 55)) (lower.length : Int) (.slice (some ⟨w1.heap.size, 0, none⟩) 0 0)
              simp only [World.size_alloc] at o2 k1
              exact ⟨0, _, _, [], Nat.zero_le _, rfl, o2, k1, ((Below.refl _ _).alloc (Nat.le_refl _) _).alloc (by simp) _⟩)
            go_wp2
            go_loopw [10] (fun i wr => ScRel (scL xss s lower) (lower.length : Int) (w1.heap.size + 1) w1 i wr) (fun i _ => xss.length - (intOf i).toNat)
            case atStart => exact H0.out
            case round =>
              obtain ⟨k, A2, c2, us, hk, rfl, hO, hbx, hb⟩ := hrel
              obtain ⟨wo, rfl⟩ : ∃ x, x = wr := ⟨_, rfl⟩
              have HO := Lib.hid hO
              have HBx := Lib.hid hbx
              have HB := Lib.hid hb
              have hzo := hb.size
              have hzg := hbx.lt
              rw [HSL.out] at hk
              clear hO hbx hb r0 r1 q0 q1 d0 d1
              by_cases hlt : k < xss.length
              · obtain ⟨ro1, ro2⟩ := HRow.out k hlt
                obtain ⟨bb, off, rfl, hbB, hc⟩ := HX1.out (by omega)
                obtain ⟨A3, c3, g3, r3⟩ := hc k hlt
                have hbw : bb < w1.heap.size := by have := HSz.out; omega
                have G3 := Lib.hid g3
                have R3 := Lib.hid r3
                have d1 := (KN1.out.below HB.out).c1
                have g4 := (HB.out.cell (p := ⟨bb, off + k, none⟩) hbw).trans g3
                have HLt := Lib.hid (show (scL xss s lower).getD k [] = if k = s then mixR (xss.getD k []) lower else xss.getD k [] from HSA.out k hlt)
                have HOwn := Lib.hid (own_any A3 c3 B (xss.getD k []) wo (r3.below HB.out (by have := HSz.out; omega)) (by have := HSz.out; omega) (by omega))
                have HRo2 := Lib.hid ro2
                have HRo1 := Lib.hid ro1
                clear hc g3 r3 ro1 ro2
                generalize xss.getD k [] = xs at *
                go_wp2_with fail
                refine HOwn.out.mono ?_
                rintro e w2 ⟨A4, c4, rfl, o4, b4⟩
                have O4 := Lib.hid o4
                have B4 := Lib.hid b4
                have hs2 := b4.size
                clear o4 b4 d1 g4
                by_cases hks : k = s
                · have hkb : ((k : Int) == (s : Int)) = true := by simp [hks]
                  rw [if_pos hks] at HLt
                  clear hks
                  have HI0 := Lib.hid (IRel.start (mixR xs lower) w2)
                  have HML := Lib.hid (mixR_len xs lower)
                  go_wp2
                  go_loopw [11, 12] (fun p i wr => IRel (mixR xs lower) w2 p i wr) (fun _ i _ => lower.length - (intOf i).toNat)
                  case atStart => exact HI0.out
                  case round =>
                    obtain ⟨d, hd, rfl, hO2, hb2⟩ := hrel
                    obtain ⟨wp, rfl⟩ : ∃ x, x = wr := ⟨_, rfl⟩
                    have HO2 := Lib.hid hO2
                    have HB2 := Lib.hid hb2
                    have hsp := hb2.size
                    rw [HML.out] at hd
                    clear hO2 hb2
                    by_cases hdt : d < lower.length
                    · obtain ⟨b5, off5, rfl, hb5, hc5⟩ := HY1.out (by omega)
                      have g5 := hc5 d hdt
                      have hin := inR_true (lowB_at HLow.out hdt)
                      obtain ⟨x, hx⟩ := Int.eq_ofNat_of_zero_le (show 0 ≤ lower.getD d 0 by have := (pw_bd6 (b := d) (by omega)).1; omega)
                      have hx7 : x < 128 := by have := (pw_bd6 (b := d) (by omega)).2; omega
                      have HNx := Lib.hid (fun v' w3 w4 h0 h1 h2 => IRel.next (L := mixR xs lower) (w1 := w4) (v' := v') (w2 := w3) (by rw [HML.out]; exact hdt) HO2.out HB2.out h0 h1 h2)
                      rw [mixR_at xs lower d hdt, hx] at HNx
                      rw [hx] at g5
                      rw [show ((x : Int)).toNat = x by omega] at HNx
                      clear hin hx hc5
                      have bo := Lib.hid (Base.Below.nextA (Base.Below.nextA HB.out B4.out) HB2.out)
                      have d1 := (KN1.out.below bo.out).c1
                      have g4 := (bo.out.cell (p := ⟨bb, off + k, none⟩) hbw).trans G3.out
                      have g6 := (bo.out.cell (p := ⟨b5, off5 + d, none⟩) (by show b5 < w1.heap.size; have := HSz.out; omega)).trans g5
                      clear g5
                      have HRC := Lib.hid (fun W (hW : Below wp.heap.size wp W) => l08Row_any x A3 c3 B xs W hx7 (R3.out.below (Base.Below.nextA bo.out hW) (by have := HSz.out; omega)) (by have := HRo1.out; omega) (fun i hi => by have := HRo2.out i (by have := HRo1.out; omega); have := (pw_bd6 (b := lower.length) hb6).2; omega))
                      have hlen : ((mixR xs lower).take d).length = d := by rw [List.length_take, HML.out]; omega
                      have hown := World.ownsRow.alloc HO2.out (.cells #[.int .i64 (comb x xs xs.length)] 2)
                      rw [hlen] at hown
                      have HWn := Lib.hid hown
                      have lw : w.heap.size < w1.heap.size := by have := HSz.out; omega
                      have l1 : w.heap.size < wp.heap.size := by omega
                      have l2 : bb < wp.heap.size := by omega
                      have l3 : b5 < wp.heap.size := by have := HSz.out; omega
                      have hfar : ∀ q, q < w2.heap.size → u11.ownBlock ≠ some q := fun q hq he => by
                        obtain ⟨_, _, h3, _⟩ := ownsRow_block HO2.out he
                        omega
                      have a1 := hfar w.heap.size (by omega)
                      have a2 := hfar bb (by omega)
                      have a3 := hfar b5 (by have := HSz.out; omega)
                      have hxl := HRo1.out
                      clear hown hlen hfar
                      generalize comb x xs xs.length = C at *
                      have HXL := Lib.hid hxl
                      clear hxl
                      go_wp2_with fail
                      go_region_held3 (fun w' => w'.cell? ⟨w.heap.size, 1, none⟩ = some (.slice (some ⟨bb, off, none⟩) xss.length c) ∧ w'.cell? ⟨bb, off + k, none⟩ = some (.slice A3 xs.length c3) ∧ w'.cell? ⟨b5, off5 + d, none⟩ = some (.int .i64 x))
                        (first
                          | go_keep
                          | (go_split_ands
                             refine ⟨?_, ?_, ?_⟩
                             · (rw [hgrow.cell_far _ (by simp; omega) (Ne.symm a1)]; assumption)
                             · (rw [hgrow.cell_far _ (by simp; omega) (Ne.symm a2)]; assumption)
                             · (rw [hgrow.cell_far _ (by simp; omega) (Ne.symm a3)]; assumption)))
                        (first
                          | (go_at_call 89; refine (HRC.out _ (by first | exact Below.refl _ _ | exact (Below.refl _ _).drew)).mono ?_; rintro e w' ⟨rfl, rfl⟩)
                          | (refine step_append_lies _ (by rfl) _ _ _ (by rfl) w2.heap.size 2 i0 _ 1 8 Try.underlying55 hi hz0 hz1 hz2 rfl (by omega) u11 d _ (by rfl) ((HWn.out).drew)
                              ⟨wp.heap.size, 0, none⟩ 1 1 [.int .i64 C] (by rfl) (by rfl) (World.news_of_block (cs := #[.int .i64 C]) (t := 2) (fr := (0, 0)) (heap_alloc_new wp _)) (by simp [Value.oneCell'])
                              (by omega) (by simp only [maxLen]; omega) (by omega) (by simp; omega) (wp.heap.size + 1) (by simp) ?_; intro gg cap w3 hown1 hgrow hat hlt2))
                      have HQ2 := Lib.hid (HNx.out _ w3 (wp.alloc (.cells #[.int .i64 C] 2)).drew ((Below.refl _ _).alloc (Nat.le_refl _) _).drew hown1 hgrow)
                      clear hown1 hgrow hat
                      go_wp2
                      go_roundw
                      case rel => exact HQ2.out
                      case measure => simp [intOf]; omega
                    · obtain rfl : d = lower.length := by omega
                      have ho2 := HO2.out
                      rw [show (mixR xs lower).take lower.length = mixR xs lower from List.take_of_length_le (by rw [HML.out]; exact Nat.le_refl _)] at ho2
                      have HP := Lib.hid ho2
                      obtain ⟨Ap, cp, ep, _⟩ := ho2.form
                      subst ep
                      have bo2 := Lib.hid (Base.Below.nextA B4.out HB2.out)
                      have x1 := (HBx.out.below bo2.out).c1
                      have x2 := Box.frz (HBx.out.below bo2.out) 1
                      have hlen : ((scL xss s lower).take k).length = k := by rw [List.length_take, HSL.out]; omega
                      have hown := World.ownsRow.alloc (ownsRow_below HO.out.outer bo2.out) (.cells #[.slice Ap (mixR xs lower).length cp] 55)
                      rw [hlen] at hown
                      have HWn := Lib.hid hown
                      clear hown hlen ho2
                      go_wp2_with (at_builtin; refine wpList_append_own_at _ rfl (.tmp 93) (.tmp 95) 52 rfl w1.heap.size 55 i1 (.slice none 0 0) 1 24 Try.underlying52 ji jz0 jz1 jz2 rfl (by decide) _ _ _ rfl HWn.out ⟨wp.heap.size, 0, none⟩ 1 1 [.slice Ap (mixR xs lower).length cp] rfl rfl ?p1b ?p2b ?p3b ?p4b ?p5b ?_)
                      try case p1b => exact news_one _ _ _ (by simp)
                      try case p2b => first | exact one_slice | rfl | simp
                      try case p3b => first | (simp only [maxLen]; omega) | omega
                      try case p4b => omega
                      try case p5b => first | (simp only [World.size_alloc]; omega) | omega
                      intro v' w3 hown' hg' _ he
                      have HNx := Lib.hid (ScRel.next (b := (lower.length : Int)) (g := w1.heap.size + 1) (w3 := w3) (by rw [HSL.out]; exact hlt) HO.out HBx.out (Nat.le_succ _) HB.out (bo2.out.alloc bo2.out.size (.cells #[.slice Ap (mixR xs lower).length cp] 55)) (by rw [HLt.out]; exact World.ownsRow.alloc (ownsRow_base HP.out (by omega)) _) hown' hg')
                      have y := box_after HO.out HBx.out (bo2.out.alloc bo2.out.size (.cells #[.slice Ap (mixR xs lower).length cp] 55)) hg'
                      have y1 := y.c1
                      have y2 := Box.frz y 1
                      obtain ⟨A9, c9, e9, _⟩ := ownsRow_form hown'
                      subst e9
                      clear hown' hg' he y x1 x2
                      go_wp2
                      go_roundw
                      case rel => exact HNx.out
                      case measure => simp [intOf]; omega
                · have hkb : ((k : Int) == (s : Int)) = false := by simp; omega
                  rw [if_neg hks] at HLt
                  clear hks
                  have x1 := (HBx.out.below B4.out).c1
                  have x2 := Box.frz (HBx.out.below B4.out) 1
                  have hlen : ((scL xss s lower).take k).length = k := by rw [List.length_take, HSL.out]; omega
                  have hown := World.ownsRow.alloc (ownsRow_below HO.out.outer B4.out) (.cells #[.slice A4 xs.length c4] 55)
                  rw [hlen] at hown
                  have HWn := Lib.hid hown
                  clear hown hlen
                  go_wp2_with (at_builtin; refine wpList_append_own_at _ rfl (.tmp 93) (.tmp 95) 52 rfl w1.heap.size 55 i1 (.slice none 0 0) 1 24 Try.underlying52 ji jz0 jz1 jz2 rfl (by decide) _ _ _ rfl HWn.out ⟨w2.heap.size, 0, none⟩ 1 1 [.slice A4 xs.length c4] rfl rfl ?p1a ?p2a ?p3a ?p4a ?p5a ?_)
                  try case p1a => exact news_one _ _ _ (by simp)
                  try case p2a => first | exact one_slice | rfl | simp
                  try case p3a => first | (simp only [maxLen]; omega) | omega
                  try case p4a => omega
                  try case p5a => first | (simp only [World.size_alloc]; omega) | omega
                  intro v' w3 hown' hg' _ he
                  have HNx := Lib.hid (ScRel.next (b := (lower.length : Int)) (g := w1.heap.size + 1) (w3 := w3) (by rw [HSL.out]; exact hlt) HO.out HBx.out (Nat.le_succ _) HB.out (B4.out.alloc B4.out.size (.cells #[.slice A4 xs.length c4] 55)) (by rw [HLt.out]; exact World.ownsRow.alloc O4.out _) hown' hg')
                  have y := box_after HO.out HBx.out (B4.out.alloc B4.out.size (.cells #[.slice A4 xs.length c4] 55)) hg'
                  have y1 := y.c1
                  have y2 := Box.frz y 1
                  obtain ⟨A9, c9, e9, _⟩ := ownsRow_form hown'
                  subst e9
                  clear hown' hg' he y x1 x2
                  go_wp2
                  go_roundw
                  case rel => exact HNx.out
                  case measure => simp [intOf]; omega
              · obtain rfl : k = xss.length := by omega
                have ho := HO.out
                rw [show (scL xss s lower).take xss.length = scL xss s lower from List.take_of_length_le (by rw [HSL.out]; exact Nat.le_refl _)] at ho
                have HP := Lib.hid ho
                have k1 := HBx.out.c0
                have k2 := HBx.out.c1
                have kr := KR1.out.below HB.out
                have d1 := (KN1.out.below HB.out).c1
                have k3 := kr.c0
                have k4 := kr.c1
                have k5 := Box.frz kr 0
                have k6 := Box.frz kr 1
                have hz7 := kr.lt
                have BE := Lib.hid (B1.out.trans (HB.out.mono (by have := HSz.out; omega)))
                have hzz : w.heap.size + 2 ≤ w1.heap.size := by have := HSz.out; omega
                clear ho kr
                go_wp2
                refine bodyPost_ret (v := .tuple #[.agg #[.int .i64 (lower.length : Int), .slice A2 xss.length c2], .bool true]) (by simp [results, Try.results29, go_sem, k3, k4]) rfl ?_
                refine ScRet.yes (by simp [scB, HN.out, HS2.out, HLow.out]) ⟨A2, c2, us, ?_, ?_, (BE.out.setCell (Nat.le_succ _) _).setCell (Nat.le_succ _) _⟩
                · rw [Int.toNat_natCast, HSL.out]
                · rw [Int.toNat_natCast, HSL.out]
                  exact ((HP.out.setLow (a := ⟨w.heap.size + 1, 0, none⟩) (by show w.heap.size + 1 < _; omega) _).setLow (a := ⟨w.heap.size + 1, 1, none⟩) (by show w.heap.size + 1 < _; omega) _).base (by omega)
end Go.Proofs.Ytpflbcdbmainiaa.Scr

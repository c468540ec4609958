/- The program over all lists of rows (allRows), with the function of AverageDistance that is called with each. -/
import Derived.Test.YtionognmgcabbaaGreatMgBes11
import Derived.Deep.RegionLaw
import Derived.Deep.AppendLies
import Derived.Test.YtionognmgcabbaaGreatMgBes08
import Derived.Test.YtionognmgcabbaaGreatMgBes05
import Derived.Test.YtionognmgcabbaaGreatMgBes06
namespace Go.Proofs.YtionognmgcabbaaGreat.AllI
open Go Go.RowKit Go.Proofs.YtionognmgcabbaaGreat Go.Proofs.YtionognmgcabbaaGreat.Base Go.Proofs.YtionognmgcabbaaGreat.Mem Go.Proofs.YtionognmgcabbaaGreat.MemF Go.Proofs.YtionognmgcabbaaGreat.ChM Go.Proofs.YtionognmgcabbaaGreat.Ratio Go.Proofs.YtionognmgcabbaaGreat.NextM
set_option linter.unusedVariables false
set_option maxHeartbeats 4000000 in
set_option maxRecDepth 100000 in
theorem allRowsA_n1 {I : Nat → World → Prop} {b1 b2 b3 : Nat} {A : Option Addr} {c B m C : Nat} {fs : List Int} (w : World) (hC : 1 ≤ C) (hC3 : C ≤ 3) (hb : bitsQ fs m = 1) (hCN : C ≤ 8) (hx : RdF w B A m fs) (hB : B ≤ w.heap.size) (hm : m ≤ 1099511627776)
    (hI0 : I 0 w) (hmono : ∀ k W W', I k W → Below W.heap.size W W' → I k W')
    (hstep : ∀ k, k < 2 ^ C → ∀ W B' A' c', w.heap.size ≤ B' → I k W → OwnI W B' (.slice A' C c') (rowsOf C 1 k) → Calls Tryz.prog 71 #[.slice A' C c', .pointer (some ⟨b1, 0, none⟩), .pointer (some ⟨b2, 0, none⟩), .pointer (some ⟨b3, 0, none⟩)] W fun e w' => e = .returned (.tuple #[]) ∧ I (k + 1) w' ∧ W.heap.size ≤ w'.heap.size) :
    Calls Tryz.prog 70 #[.int .i64 (C : Int), .slice A m c, .func (Fn.func 71) #[] #[.pointer (some ⟨b1, 0, none⟩), .pointer (some ⟨b2, 0, none⟩), .pointer (some ⟨b3, 0, none⟩)]] w fun e w' => e = .returned (.bool true) ∧ I (2 ^ C) w' ∧ w.heap.size ≤ w'.heap.size := by
  obtain ⟨i0, hi, hz0, hz1, hz2⟩ := info_parts infoI
  have HS := Lib.hid (src_any (c := c) w hx hB hm)
  unfold SrcRet at HS
  rw [hb] at HS
  have HST := Lib.hid hstep
  have HM := Lib.hid hmono
  have HI := Lib.hid hI0
  clear hx hstep hmono hI0 hb
  have hr : inR (C : Int) 1 3 = true := by simp [inR]; omega
  have HIR := Lib.hid (fun W => inRange_qb hr W)
  clear hr
  have hT : 2 ^ C ≤ 256 := by have := pow_le (count := C) (n := 1) (by omega); rwa [Nat.mul_one] at this
  have hT1 : wrap64 ((2 : Int) ^ C) = ((2 ^ C : Nat) : Int) := by
    rw [show (2 : Int) ^ C = ((2 ^ C : Nat) : Int) by simp]
    exact Nat32.wrap64_nat _ (by omega)
  go_enter Tryz.func70, Tryz.ntmps70
  go_wp2_with fail
  refine HS.out.mono ?_
  rintro e w1 ⟨d, rfl, hd, hb1⟩
  obtain rfl := hd (by decide)
  rw [show decide ((1 : Nat) ≠ 0) = true from rfl]
  have HI1 := Lib.hid (HM.out _ _ _ HI.out hb1)
  have hs1 := hb1.size
  clear hd hb1 HI
  go_wp2_with fail
  refine (HIR.out _).mono ?_
  rintro e w' ⟨rfl, rfl⟩
  go_wp2_with fail

  rw [hT1]
  generalize hTT : 2 ^ C = T at *
  have HTT := Lib.hid hTT
  clear hTT hT1
  go_loopw [34] (fun iv wr => AlRel I T w.heap.size iv wr) (fun iv _ => T - (intOf iv).toNat)
  case atStart => exact ⟨0, Nat.zero_le _, rfl, HI1, hs1⟩
  case round =>
    obtain ⟨k, hk, rfl, HK, hsk⟩ := hrel
    obtain ⟨wo, rfl⟩ : ∃ x, x = wr := ⟨_, rfl⟩
    clear HI1 hs1 HS HIR
    by_cases hlt : k < T
    · have HQ := Lib.hid (RwRel.start C 1 k wo)
      go_wp2_with fail
      go_loopw [10, 11] (fun v iv wr => RwRel C 1 k wo v iv wr) (fun _ iv _ => (intOf iv + 1).toNat)
      case atStart => exact HQ.out
      case round =>
        obtain ⟨j, q, hjq, rfl, hO, hb⟩ := hrel
        obtain ⟨wp, rfl⟩ : ∃ x, x = wr := ⟨_, rfl⟩
        have HO2 := Lib.hid hO
        have HB2 := Lib.hid hb
        have hzp := hb.size
        clear hO hb HQ
        cases q with
        | zero =>
          obtain rfl : j = C := by omega
          have hO3 := HO2.out
          rw [List.take_of_length_le (by rw [rowsOf_len]; exact Nat.le_refl _)] at hO3
          obtain ⟨A', c', e', _⟩ := hO3.form
          rw [rowsOf_len] at e'
          subst e'
          have HC := Lib.hid (HST.out k hlt wp wo.heap.size A' c' hsk (HM.out k wo wp HK.out HB2.out) hO3)
          clear hO3 HST HK HB2 HO2
          rw [show (((0 : Nat) : Int) - 1) = -1 from rfl]
          go_wp2_with fail
          refine HC.out.mono ?_
          rintro e w2 ⟨rfl, hI2, hs2⟩
          have HI2 := Lib.hid hI2
          clear hI2 HC
          go_wp2
          go_roundw
          case rel => exact ⟨k + 1, hlt, by simp, HI2, by omega⟩
          case measure =>
            show T - (((k : Int) + 1)).toNat < T - ((k : Int)).toNat
            omega
        | succ q =>
          have HN := Lib.hid (fun v v' w1 w2 h1 h2 h3 h4 h5 => RwRel.next (C := C) (N := 1) (k := k) (w := wo) (wr := wp) (w1 := w1) (w2 := w2) (v := v) (v' := v') hjq h1 h2 h3 h4 h5)
          rw [show (((q + 1 : Nat) : Int) - 1) = (q : Int) by omega]
          have hlen : ((rowsOf C 1 k).take j).length = j := by rw [List.length_take, rowsOf_len]; omega
          obtain ⟨X, hX⟩ : ∃ X, X = k / 2 ^ q := ⟨_, rfl⟩
          obtain ⟨Y, hY⟩ : ∃ Y, Y = X % 2 ^ 1 := ⟨_, rfl⟩
          have hX2 : X ≤ k := by rw [hX]; exact Nat.div_le_self _ _
          have hX1 : X = k / 2 ^ (q * 1) := by rw [Nat.mul_one]; exact hX
          have hq60 : q * 1 ≤ 60 := by omega
          have hw2 : IntKind.i64.wrap (q : Int) = (q : Int) := by have := wr_at hq60; rw [Nat.mul_one] at this; rwa [show (q : Int) * ((1 : Nat) : Int) = (q : Int) from Int.mul_one _] at this
          have hsh := shr_at hX1 hq60
          rw [Nat.mul_one] at hsh
          have hand := and_at (n := 1) hY (show X ≤ 1000 by omega) (by decide)
          rw [show ((2 ^ 1 - 1 : Nat) : Int) = IntKind.i64.wrap (IntKind.i64.wrap 2 - 1) from by decide] at hand
          rw [← hw2] at hsh
          rw [← hX1, ← hY] at HN
          have HYk : Y ≤ k := by rw [hY]; exact Nat.le_trans (Nat.mod_le _ _) hX2
          have hown := World.ownsRow.alloc HO2.out (.cells #[.int .i64 (Y : Int)] 2)
          rw [hlen] at hown
          have HW := Lib.hid hown
          clear hown hlen hX hX1 hY hw2 hq60
          go_wp2_with fail
          go_region_law ((refine step_append_lies _ (by rfl) _ _ _ (by rfl) wo.heap.size 2 i0 _ 1 8 Tryz.underlying41 hi hz0 hz1 hz2 rfl (by omega) u10 j _ (by rfl) ((HW.out).drew) ⟨wp.heap.size, 0, none⟩ 1 1 [.int .i64 (Y : Int)] (by rfl) (by rfl) (World.news_of_block (cs := #[.int .i64 (Y : Int)]) (t := 2) (fr := (0, 0)) (heap_alloc_new wp _)) one_int (by omega) (by simp only [maxLen]; omega) (by omega) (by first | omega | (simp; omega)) (wp.heap.size + 1) (by simp) ?_; intro gg cap w3 hown1 hgrow hat hlt2; have HQ2 := Lib.hid (HN.out _ _ _ w3 HO2.out HB2.out (((Below.refl _ _).alloc (Nat.le_refl _) _).drew) hown1 hgrow); clear hown1 hgrow hat))
          all_goals
            go_wp2
            go_roundw
            case rel => exact HQ2.out
            case measure => first | (simp [intOf]; done) | (simp [intOf]; omega)
    · obtain rfl : k = T := by omega
      go_wp2
      go_ret
      exact ⟨rfl, by rw [HTT.out]; exact HK.out, hsk⟩
set_option maxHeartbeats 4000000 in
set_option maxRecDepth 100000 in
theorem allRowsA_n2 {I : Nat → World → Prop} {b1 b2 b3 : Nat} {A : Option Addr} {c B m C : Nat} {fs : List Int} (w : World) (hC : 1 ≤ C) (hC3 : C ≤ 3) (hb : bitsQ fs m = 2) (hCN : C * 2 ≤ 8) (hx : RdF w B A m fs) (hB : B ≤ w.heap.size) (hm : m ≤ 1099511627776)
    (hI0 : I 0 w) (hmono : ∀ k W W', I k W → Below W.heap.size W W' → I k W')
    (hstep : ∀ k, k < 2 ^ (C * 2) → ∀ W B' A' c', w.heap.size ≤ B' → I k W → OwnI W B' (.slice A' C c') (rowsOf C 2 k) → Calls Tryz.prog 71 #[.slice A' C c', .pointer (some ⟨b1, 0, none⟩), .pointer (some ⟨b2, 0, none⟩), .pointer (some ⟨b3, 0, none⟩)] W fun e w' => e = .returned (.tuple #[]) ∧ I (k + 1) w' ∧ W.heap.size ≤ w'.heap.size) :
    Calls Tryz.prog 70 #[.int .i64 (C : Int), .slice A m c, .func (Fn.func 71) #[] #[.pointer (some ⟨b1, 0, none⟩), .pointer (some ⟨b2, 0, none⟩), .pointer (some ⟨b3, 0, none⟩)]] w fun e w' => e = .returned (.bool true) ∧ I (2 ^ (C * 2)) w' ∧ w.heap.size ≤ w'.heap.size := by
  obtain ⟨i0, hi, hz0, hz1, hz2⟩ := info_parts infoI
  have HS := Lib.hid (src_any (c := c) w hx hB hm)
  unfold SrcRet at HS
  rw [hb] at HS
  have HST := Lib.hid hstep
  have HM := Lib.hid hmono
  have HI := Lib.hid hI0
  clear hx hstep hmono hI0 hb
  have hr : inR (C : Int) 1 3 = true := by simp [inR]; omega
  have HIR := Lib.hid (fun W => inRange_qb hr W)
  clear hr
  have hT : 2 ^ (C * 2) ≤ 256 := pow_le hCN
  have hT1 : wrap64 ((2 : Int) ^ (C * 2)) = ((2 ^ (C * 2) : Nat) : Int) := by
    rw [show (2 : Int) ^ (C * 2) = ((2 ^ (C * 2) : Nat) : Int) by simp]
    exact Nat32.wrap64_nat _ (by omega)
  go_enter Tryz.func70, Tryz.ntmps70
  go_wp2_with fail
  refine HS.out.mono ?_
  rintro e w1 ⟨d, rfl, hd, hb1⟩
  obtain rfl := hd (by decide)
  rw [show decide ((2 : Nat) ≠ 0) = true from rfl]
  have HI1 := Lib.hid (HM.out _ _ _ HI.out hb1)
  have hs1 := hb1.size
  clear hd hb1 HI
  go_wp2_with fail
  refine (HIR.out _).mono ?_
  rintro e w' ⟨rfl, rfl⟩
  go_wp2_with fail

  rw [hT1]
  generalize hTT : 2 ^ (C * 2) = T at *
  have HTT := Lib.hid hTT
  clear hTT hT1
  go_loopw [34] (fun iv wr => AlRel I T w.heap.size iv wr) (fun iv _ => T - (intOf iv).toNat)
  case atStart => exact ⟨0, Nat.zero_le _, rfl, HI1, hs1⟩
  case round =>
    obtain ⟨k, hk, rfl, HK, hsk⟩ := hrel
    obtain ⟨wo, rfl⟩ : ∃ x, x = wr := ⟨_, rfl⟩
    clear HI1 hs1 HS HIR
    by_cases hlt : k < T
    · have HQ := Lib.hid (RwRel.start C 2 k wo)
      go_wp2_with fail
      go_loopw [10, 11] (fun v iv wr => RwRel C 2 k wo v iv wr) (fun _ iv _ => (intOf iv + 1).toNat)
      case atStart => exact HQ.out
      case round =>
        obtain ⟨j, q, hjq, rfl, hO, hb⟩ := hrel
        obtain ⟨wp, rfl⟩ : ∃ x, x = wr := ⟨_, rfl⟩
        have HO2 := Lib.hid hO
        have HB2 := Lib.hid hb
        have hzp := hb.size
        clear hO hb HQ
        cases q with
        | zero =>
          obtain rfl : j = C := by omega
          have hO3 := HO2.out
          rw [List.take_of_length_le (by rw [rowsOf_len]; exact Nat.le_refl _)] at hO3
          obtain ⟨A', c', e', _⟩ := hO3.form
          rw [rowsOf_len] at e'
          subst e'
          have HC := Lib.hid (HST.out k hlt wp wo.heap.size A' c' hsk (HM.out k wo wp HK.out HB2.out) hO3)
          clear hO3 HST HK HB2 HO2
          rw [show (((0 : Nat) : Int) - 1) = -1 from rfl]
          go_wp2_with fail
          refine HC.out.mono ?_
          rintro e w2 ⟨rfl, hI2, hs2⟩
          have HI2 := Lib.hid hI2
          clear hI2 HC
          go_wp2
          go_roundw
          case rel => exact ⟨k + 1, hlt, by simp, HI2, by omega⟩
          case measure =>
            show T - (((k : Int) + 1)).toNat < T - ((k : Int)).toNat
            omega
        | succ q =>
          have HN := Lib.hid (fun v v' w1 w2 h1 h2 h3 h4 h5 => RwRel.next (C := C) (N := 2) (k := k) (w := wo) (wr := wp) (w1 := w1) (w2 := w2) (v := v) (v' := v') hjq h1 h2 h3 h4 h5)
          rw [show (((q + 1 : Nat) : Int) - 1) = (q : Int) by omega]
          have hlen : ((rowsOf C 2 k).take j).length = j := by rw [List.length_take, rowsOf_len]; omega
          obtain ⟨X, hX⟩ : ∃ X, X = k / 2 ^ (q * 2) := ⟨_, rfl⟩
          obtain ⟨Y, hY⟩ : ∃ Y, Y = X % 2 ^ 2 := ⟨_, rfl⟩
          have hX2 : X ≤ k := by rw [hX]; exact Nat.div_le_self _ _
          have hq60 : q * 2 ≤ 60 := by omega
          have hw2 : IntKind.i64.wrap ((q : Int) * 2) = ((q * 2 : Nat) : Int) := wr_at hq60
          have hsh := shr_at hX hq60
          have hand := and_at (n := 2) hY (show X ≤ 1000 by omega) (by decide)
          rw [show ((2 ^ 2 - 1 : Nat) : Int) = IntKind.i64.wrap (IntKind.i64.wrap 4 - 1) from by decide] at hand
          rw [← hw2] at hsh
          rw [← hX, ← hY] at HN
          have HYk : Y ≤ k := by rw [hY]; exact Nat.le_trans (Nat.mod_le _ _) hX2
          have hown := World.ownsRow.alloc HO2.out (.cells #[.int .i64 (Y : Int)] 2)
          rw [hlen] at hown
          have HW := Lib.hid hown
          clear hown hlen hX hY hw2 hq60
          go_wp2_with fail
          go_region_law ((refine step_append_lies _ (by rfl) _ _ _ (by rfl) wo.heap.size 2 i0 _ 1 8 Tryz.underlying41 hi hz0 hz1 hz2 rfl (by omega) u10 j _ (by rfl) ((HW.out).drew) ⟨wp.heap.size, 0, none⟩ 1 1 [.int .i64 (Y : Int)] (by rfl) (by rfl) (World.news_of_block (cs := #[.int .i64 (Y : Int)]) (t := 2) (fr := (0, 0)) (heap_alloc_new wp _)) one_int (by omega) (by simp only [maxLen]; omega) (by omega) (by first | omega | (simp; omega)) (wp.heap.size + 1) (by simp) ?_; intro gg cap w3 hown1 hgrow hat hlt2; have HQ2 := Lib.hid (HN.out _ _ _ w3 HO2.out HB2.out (((Below.refl _ _).alloc (Nat.le_refl _) _).drew) hown1 hgrow); clear hown1 hgrow hat))
          all_goals
            go_wp2
            go_roundw
            case rel => exact HQ2.out
            case measure => first | (simp [intOf]; done) | (simp [intOf]; omega)
    · obtain rfl : k = T := by omega
      go_wp2
      go_ret
      exact ⟨rfl, by rw [HTT.out]; exact HK.out, hsk⟩
set_option maxHeartbeats 4000000 in
set_option maxRecDepth 100000 in
theorem allRowsA_n3 {I : Nat → World → Prop} {b1 b2 b3 : Nat} {A : Option Addr} {c B m C : Nat} {fs : List Int} (w : World) (hC : 1 ≤ C) (hC3 : C ≤ 3) (hb : bitsQ fs m = 3) (hCN : C * 3 ≤ 8) (hx : RdF w B A m fs) (hB : B ≤ w.heap.size) (hm : m ≤ 1099511627776)
    (hI0 : I 0 w) (hmono : ∀ k W W', I k W → Below W.heap.size W W' → I k W')
    (hstep : ∀ k, k < 2 ^ (C * 3) → ∀ W B' A' c', w.heap.size ≤ B' → I k W → OwnI W B' (.slice A' C c') (rowsOf C 3 k) → Calls Tryz.prog 71 #[.slice A' C c', .pointer (some ⟨b1, 0, none⟩), .pointer (some ⟨b2, 0, none⟩), .pointer (some ⟨b3, 0, none⟩)] W fun e w' => e = .returned (.tuple #[]) ∧ I (k + 1) w' ∧ W.heap.size ≤ w'.heap.size) :
    Calls Tryz.prog 70 #[.int .i64 (C : Int), .slice A m c, .func (Fn.func 71) #[] #[.pointer (some ⟨b1, 0, none⟩), .pointer (some ⟨b2, 0, none⟩), .pointer (some ⟨b3, 0, none⟩)]] w fun e w' => e = .returned (.bool true) ∧ I (2 ^ (C * 3)) w' ∧ w.heap.size ≤ w'.heap.size := by
  obtain ⟨i0, hi, hz0, hz1, hz2⟩ := info_parts infoI
  have HS := Lib.hid (src_any (c := c) w hx hB hm)
  unfold SrcRet at HS
  rw [hb] at HS
  have HST := Lib.hid hstep
  have HM := Lib.hid hmono
  have HI := Lib.hid hI0
  clear hx hstep hmono hI0 hb
  have hr : inR (C : Int) 1 3 = true := by simp [inR]; omega
  have HIR := Lib.hid (fun W => inRange_qb hr W)
  clear hr
  have hT : 2 ^ (C * 3) ≤ 256 := pow_le hCN
  have hT1 : wrap64 ((2 : Int) ^ (C * 3)) = ((2 ^ (C * 3) : Nat) : Int) := by
    rw [show (2 : Int) ^ (C * 3) = ((2 ^ (C * 3) : Nat) : Int) by simp]
    exact Nat32.wrap64_nat _ (by omega)
  go_enter Tryz.func70, Tryz.ntmps70
  go_wp2_with fail
  refine HS.out.mono ?_
  rintro e w1 ⟨d, rfl, hd, hb1⟩
  obtain rfl := hd (by decide)
  rw [show decide ((3 : Nat) ≠ 0) = true from rfl]
  have HI1 := Lib.hid (HM.out _ _ _ HI.out hb1)
  have hs1 := hb1.size
  clear hd hb1 HI
  go_wp2_with fail
  refine (HIR.out _).mono ?_
  rintro e w' ⟨rfl, rfl⟩
  go_wp2_with fail

  rw [hT1]
  generalize hTT : 2 ^ (C * 3) = T at *
  have HTT := Lib.hid hTT
  clear hTT hT1
  go_loopw [34] (fun iv wr => AlRel I T w.heap.size iv wr) (fun iv _ => T - (intOf iv).toNat)
  case atStart => exact ⟨0, Nat.zero_le _, rfl, HI1, hs1⟩
  case round =>
    obtain ⟨k, hk, rfl, HK, hsk⟩ := hrel
    obtain ⟨wo, rfl⟩ : ∃ x, x = wr := ⟨_, rfl⟩
    clear HI1 hs1 HS HIR
    by_cases hlt : k < T
    · have HQ := Lib.hid (RwRel.start C 3 k wo)
      go_wp2_with fail
      go_loopw [10, 11] (fun v iv wr => RwRel C 3 k wo v iv wr) (fun _ iv _ => (intOf iv + 1).toNat)
      case atStart => exact HQ.out
      case round =>
        obtain ⟨j, q, hjq, rfl, hO, hb⟩ := hrel
        obtain ⟨wp, rfl⟩ : ∃ x, x = wr := ⟨_, rfl⟩
        have HO2 := Lib.hid hO
        have HB2 := Lib.hid hb
        have hzp := hb.size
        clear hO hb HQ
        cases q with
        | zero =>
          obtain rfl : j = C := by omega
          have hO3 := HO2.out
          rw [List.take_of_length_le (by rw [rowsOf_len]; exact Nat.le_refl _)] at hO3
          obtain ⟨A', c', e', _⟩ := hO3.form
          rw [rowsOf_len] at e'
          subst e'
          have HC := Lib.hid (HST.out k hlt wp wo.heap.size A' c' hsk (HM.out k wo wp HK.out HB2.out) hO3)
          clear hO3 HST HK HB2 HO2
          rw [show (((0 : Nat) : Int) - 1) = -1 from rfl]
          go_wp2_with fail
          refine HC.out.mono ?_
          rintro e w2 ⟨rfl, hI2, hs2⟩
          have HI2 := Lib.hid hI2
          clear hI2 HC
          go_wp2
          go_roundw
          case rel => exact ⟨k + 1, hlt, by simp, HI2, by omega⟩
          case measure =>
            show T - (((k : Int) + 1)).toNat < T - ((k : Int)).toNat
            omega
        | succ q =>
          have HN := Lib.hid (fun v v' w1 w2 h1 h2 h3 h4 h5 => RwRel.next (C := C) (N := 3) (k := k) (w := wo) (wr := wp) (w1 := w1) (w2 := w2) (v := v) (v' := v') hjq h1 h2 h3 h4 h5)
          rw [show (((q + 1 : Nat) : Int) - 1) = (q : Int) by omega]
          have hlen : ((rowsOf C 3 k).take j).length = j := by rw [List.length_take, rowsOf_len]; omega
          obtain ⟨X, hX⟩ : ∃ X, X = k / 2 ^ (q * 3) := ⟨_, rfl⟩
          obtain ⟨Y, hY⟩ : ∃ Y, Y = X % 2 ^ 3 := ⟨_, rfl⟩
          have hX2 : X ≤ k := by rw [hX]; exact Nat.div_le_self _ _
          have hq60 : q * 3 ≤ 60 := by omega
          have hw2 : IntKind.i64.wrap ((q : Int) * 3) = ((q * 3 : Nat) : Int) := wr_at hq60
          have hsh := shr_at hX hq60
          have hand := and_at (n := 3) hY (show X ≤ 1000 by omega) (by decide)
          rw [show ((2 ^ 3 - 1 : Nat) : Int) = IntKind.i64.wrap (IntKind.i64.wrap 8 - 1) from by decide] at hand
          rw [← hw2] at hsh
          rw [← hX, ← hY] at HN
          have HYk : Y ≤ k := by rw [hY]; exact Nat.le_trans (Nat.mod_le _ _) hX2
          have hown := World.ownsRow.alloc HO2.out (.cells #[.int .i64 (Y : Int)] 2)
          rw [hlen] at hown
          have HW := Lib.hid hown
          clear hown hlen hX hY hw2 hq60
          go_wp2_with fail
          go_region_law ((refine step_append_lies _ (by rfl) _ _ _ (by rfl) wo.heap.size 2 i0 _ 1 8 Tryz.underlying41 hi hz0 hz1 hz2 rfl (by omega) u10 j _ (by rfl) ((HW.out).drew) ⟨wp.heap.size, 0, none⟩ 1 1 [.int .i64 (Y : Int)] (by rfl) (by rfl) (World.news_of_block (cs := #[.int .i64 (Y : Int)]) (t := 2) (fr := (0, 0)) (heap_alloc_new wp _)) one_int (by omega) (by simp only [maxLen]; omega) (by omega) (by first | omega | (simp; omega)) (wp.heap.size + 1) (by simp) ?_; intro gg cap w3 hown1 hgrow hat hlt2; have HQ2 := Lib.hid (HN.out _ _ _ w3 HO2.out HB2.out (((Below.refl _ _).alloc (Nat.le_refl _) _).drew) hown1 hgrow); clear hown1 hgrow hat))
          all_goals
            go_wp2
            go_roundw
            case rel => exact HQ2.out
            case measure => first | (simp [intOf]; done) | (simp [intOf]; omega)
    · obtain rfl : k = T := by omega
      go_wp2
      go_ret
      exact ⟨rfl, by rw [HTT.out]; exact HK.out, hsk⟩
set_option maxHeartbeats 4000000 in
set_option maxRecDepth 100000 in
theorem allRowsA_n4 {I : Nat → World → Prop} {b1 b2 b3 : Nat} {A : Option Addr} {c B m C : Nat} {fs : List Int} (w : World) (hC : 1 ≤ C) (hC3 : C ≤ 3) (hb : bitsQ fs m = 4) (hCN : C * 4 ≤ 8) (hx : RdF w B A m fs) (hB : B ≤ w.heap.size) (hm : m ≤ 1099511627776)
    (hI0 : I 0 w) (hmono : ∀ k W W', I k W → Below W.heap.size W W' → I k W')
    (hstep : ∀ k, k < 2 ^ (C * 4) → ∀ W B' A' c', w.heap.size ≤ B' → I k W → OwnI W B' (.slice A' C c') (rowsOf C 4 k) → Calls Tryz.prog 71 #[.slice A' C c', .pointer (some ⟨b1, 0, none⟩), .pointer (some ⟨b2, 0, none⟩), .pointer (some ⟨b3, 0, none⟩)] W fun e w' => e = .returned (.tuple #[]) ∧ I (k + 1) w' ∧ W.heap.size ≤ w'.heap.size) :
    Calls Tryz.prog 70 #[.int .i64 (C : Int), .slice A m c, .func (Fn.func 71) #[] #[.pointer (some ⟨b1, 0, none⟩), .pointer (some ⟨b2, 0, none⟩), .pointer (some ⟨b3, 0, none⟩)]] w fun e w' => e = .returned (.bool true) ∧ I (2 ^ (C * 4)) w' ∧ w.heap.size ≤ w'.heap.size := by
  obtain ⟨i0, hi, hz0, hz1, hz2⟩ := info_parts infoI
  have HS := Lib.hid (src_any (c := c) w hx hB hm)
  unfold SrcRet at HS
  rw [hb] at HS
  have HST := Lib.hid hstep
  have HM := Lib.hid hmono
  have HI := Lib.hid hI0
  clear hx hstep hmono hI0 hb
  have hr : inR (C : Int) 1 3 = true := by simp [inR]; omega
  have HIR := Lib.hid (fun W => inRange_qb hr W)
  clear hr
  have hT : 2 ^ (C * 4) ≤ 256 := pow_le hCN
  have hT1 : wrap64 ((2 : Int) ^ (C * 4)) = ((2 ^ (C * 4) : Nat) : Int) := by
    rw [show (2 : Int) ^ (C * 4) = ((2 ^ (C * 4) : Nat) : Int) by simp]
    exact Nat32.wrap64_nat _ (by omega)
  go_enter Tryz.func70, Tryz.ntmps70
  go_wp2_with fail
  refine HS.out.mono ?_
  rintro e w1 ⟨d, rfl, hd, hb1⟩
  obtain rfl := hd (by decide)
  rw [show decide ((4 : Nat) ≠ 0) = true from rfl]
  have HI1 := Lib.hid (HM.out _ _ _ HI.out hb1)
  have hs1 := hb1.size
  clear hd hb1 HI
  go_wp2_with fail
  refine (HIR.out _).mono ?_
  rintro e w' ⟨rfl, rfl⟩
  go_wp2_with fail

  rw [hT1]
  generalize hTT : 2 ^ (C * 4) = T at *
  have HTT := Lib.hid hTT
  clear hTT hT1
  go_loopw [34] (fun iv wr => AlRel I T w.heap.size iv wr) (fun iv _ => T - (intOf iv).toNat)
  case atStart => exact ⟨0, Nat.zero_le _, rfl, HI1, hs1⟩
  case round =>
    obtain ⟨k, hk, rfl, HK, hsk⟩ := hrel
    obtain ⟨wo, rfl⟩ : ∃ x, x = wr := ⟨_, rfl⟩
    clear HI1 hs1 HS HIR
    by_cases hlt : k < T
    · have HQ := Lib.hid (RwRel.start C 4 k wo)
      go_wp2_with fail
      go_loopw [10, 11] (fun v iv wr => RwRel C 4 k wo v iv wr) (fun _ iv _ => (intOf iv + 1).toNat)
      case atStart => exact HQ.out
      case round =>
        obtain ⟨j, q, hjq, rfl, hO, hb⟩ := hrel
        obtain ⟨wp, rfl⟩ : ∃ x, x = wr := ⟨_, rfl⟩
        have HO2 := Lib.hid hO
        have HB2 := Lib.hid hb
        have hzp := hb.size
        clear hO hb HQ
        cases q with
        | zero =>
          obtain rfl : j = C := by omega
          have hO3 := HO2.out
          rw [List.take_of_length_le (by rw [rowsOf_len]; exact Nat.le_refl _)] at hO3
          obtain ⟨A', c', e', _⟩ := hO3.form
          rw [rowsOf_len] at e'
          subst e'
          have HC := Lib.hid (HST.out k hlt wp wo.heap.size A' c' hsk (HM.out k wo wp HK.out HB2.out) hO3)
          clear hO3 HST HK HB2 HO2
          rw [show (((0 : Nat) : Int) - 1) = -1 from rfl]
          go_wp2_with fail
          refine HC.out.mono ?_
          rintro e w2 ⟨rfl, hI2, hs2⟩
          have HI2 := Lib.hid hI2
          clear hI2 HC
          go_wp2
          go_roundw
          case rel => exact ⟨k + 1, hlt, by simp, HI2, by omega⟩
          case measure =>
            show T - (((k : Int) + 1)).toNat < T - ((k : Int)).toNat
            omega
        | succ q =>
          have HN := Lib.hid (fun v v' w1 w2 h1 h2 h3 h4 h5 => RwRel.next (C := C) (N := 4) (k := k) (w := wo) (wr := wp) (w1 := w1) (w2 := w2) (v := v) (v' := v') hjq h1 h2 h3 h4 h5)
          rw [show (((q + 1 : Nat) : Int) - 1) = (q : Int) by omega]
          have hlen : ((rowsOf C 4 k).take j).length = j := by rw [List.length_take, rowsOf_len]; omega
          obtain ⟨X, hX⟩ : ∃ X, X = k / 2 ^ (q * 4) := ⟨_, rfl⟩
          obtain ⟨Y, hY⟩ : ∃ Y, Y = X % 2 ^ 4 := ⟨_, rfl⟩
          have hX2 : X ≤ k := by rw [hX]; exact Nat.div_le_self _ _
          have hq60 : q * 4 ≤ 60 := by omega
          have hw2 : IntKind.i64.wrap ((q : Int) * 4) = ((q * 4 : Nat) : Int) := wr_at hq60
          have hsh := shr_at hX hq60
          have hand := and_at (n := 4) hY (show X ≤ 1000 by omega) (by decide)
          rw [show ((2 ^ 4 - 1 : Nat) : Int) = IntKind.i64.wrap (IntKind.i64.wrap 16 - 1) from by decide] at hand
          rw [← hw2] at hsh
          rw [← hX, ← hY] at HN
          have HYk : Y ≤ k := by rw [hY]; exact Nat.le_trans (Nat.mod_le _ _) hX2
          have hown := World.ownsRow.alloc HO2.out (.cells #[.int .i64 (Y : Int)] 2)
          rw [hlen] at hown
          have HW := Lib.hid hown
          clear hown hlen hX hY hw2 hq60
          go_wp2_with fail
          go_region_law ((refine step_append_lies _ (by rfl) _ _ _ (by rfl) wo.heap.size 2 i0 _ 1 8 Tryz.underlying41 hi hz0 hz1 hz2 rfl (by omega) u10 j _ (by rfl) ((HW.out).drew) ⟨wp.heap.size, 0, none⟩ 1 1 [.int .i64 (Y : Int)] (by rfl) (by rfl) (World.news_of_block (cs := #[.int .i64 (Y : Int)]) (t := 2) (fr := (0, 0)) (heap_alloc_new wp _)) one_int (by omega) (by simp only [maxLen]; omega) (by omega) (by first | omega | (simp; omega)) (wp.heap.size + 1) (by simp) ?_; intro gg cap w3 hown1 hgrow hat hlt2; have HQ2 := Lib.hid (HN.out _ _ _ w3 HO2.out HB2.out (((Below.refl _ _).alloc (Nat.le_refl _) _).drew) hown1 hgrow); clear hown1 hgrow hat))
          all_goals
            go_wp2
            go_roundw
            case rel => exact HQ2.out
            case measure => first | (simp [intOf]; done) | (simp [intOf]; omega)
    · obtain rfl : k = T := by omega
      go_wp2
      go_ret
      exact ⟨rfl, by rw [HTT.out]; exact HK.out, hsk⟩
end Go.Proofs.YtionognmgcabbaaGreat.AllI
/- The program over all lists of rows, for AverageDistance: for each number of bits. -/
namespace Go.Proofs.YtionognmgcabbaaGreat.AllI
open Go Go.RowKit Go.Proofs.YtionognmgcabbaaGreat Go.Proofs.YtionognmgcabbaaGreat.Base Go.Proofs.YtionognmgcabbaaGreat.Mem Go.Proofs.YtionognmgcabbaaGreat.MemF Go.Proofs.YtionognmgcabbaaGreat.ChM Go.Proofs.YtionognmgcabbaaGreat.Ratio Go.Proofs.YtionognmgcabbaaGreat.NextM
set_option linter.unusedVariables false
theorem allRowsA_any {I : Nat → World → Prop} {b1 b2 b3 : Nat} {A : Option Addr} {c B m C N : Nat} {fs : List Int} (w : World) (hC : 1 ≤ C) (hC3 : C ≤ 3) (hb : bitsQ fs m = N) (hN1 : 1 ≤ N) (hN4 : N ≤ 4) (hCN : C * N ≤ 8) (hx : RdF w B A m fs) (hB : B ≤ w.heap.size) (hm : m ≤ 1099511627776)
    (hI0 : I 0 w) (hmono : ∀ k W W', I k W → Below W.heap.size W W' → I k W')
    (hstep : ∀ k, k < 2 ^ (C * N) → ∀ W B' A' c', w.heap.size ≤ B' → I k W → OwnI W B' (.slice A' C c') (rowsOf C N k) → Calls Tryz.prog 71 #[.slice A' C c', .pointer (some ⟨b1, 0, none⟩), .pointer (some ⟨b2, 0, none⟩), .pointer (some ⟨b3, 0, none⟩)] W fun e w' => e = .returned (.tuple #[]) ∧ I (k + 1) w' ∧ W.heap.size ≤ w'.heap.size) :
    Calls Tryz.prog 70 #[.int .i64 (C : Int), .slice A m c, .func (Fn.func 71) #[] #[.pointer (some ⟨b1, 0, none⟩), .pointer (some ⟨b2, 0, none⟩), .pointer (some ⟨b3, 0, none⟩)]] w fun e w' => e = .returned (.bool true) ∧ I (2 ^ (C * N)) w' ∧ w.heap.size ≤ w'.heap.size := by
  have h4 : N = 1 ∨ N = 2 ∨ N = 3 ∨ N = 4 := by omega
  rcases h4 with rfl | rfl | rfl | rfl
  · rw [Nat.mul_one] at hstep hCN ⊢
    exact allRowsA_n1 w hC hC3 hb hCN hx hB hm hI0 hmono hstep
  · exact allRowsA_n2 w hC hC3 hb hCN hx hB hm hI0 hmono hstep
  · exact allRowsA_n3 w hC hC3 hb hCN hx hB hm hI0 hmono hstep
  · exact allRowsA_n4 w hC hC3 hb hCN hx hB hm hI0 hmono hstep
end Go.Proofs.YtionognmgcabbaaGreat.AllI
/- The program's lists of ratios of fractions of which nothing is known: they are made, whatever they are. -/
namespace Go.Proofs.YtionognmgcabbaaGreat.Ratio
open Go.RowKit Go.Proofs.YtionognmgcabbaaGreat Go.Proofs.YtionognmgcabbaaGreat.Base Go.Proofs.YtionognmgcabbaaGreat.Mem Go.Proofs.YtionognmgcabbaaGreat.NatM Go.Proofs.YtionognmgcabbaaGreat.Nat32 Go.Proofs.YtionognmgcabbaaGreat.RatM Go.Proofs.YtionognmgcabbaaGreat.Blk Go.Proofs.YtionognmgcabbaaGreat.MemF Go.Proofs.YtionognmgcabbaaGreat.GiveM Go.Proofs.YtionognmgcabbaaGreat.ChM
open Go.Proofs.YtionognmgcabbaaGreat.Inv (natOf natOf_eq len_pos Rat3 not_slice not_bool frz)
set_option linter.unusedVariables false
/-- some number of digits -/
def NatWild (w : World) (e : Ending) (w' : World) : Prop := ∃ A k c, e = .returned (.slice A k c) ∧ Below w.heap.size w w'
set_option maxHeartbeats 1000000 in
theorem naturalOf_wild (n : Int) (w : World) : Calls Tryz.prog 157 #[.int .i64 n] w (NatWild w) := by
  go_enter Tryz.func157, Tryz.ntmps157
  have hok : okN [(n % 4294967296).toNat, (n / 4294967296 % 4294967296).toNat] := by
    intro x hx
    simp only [List.mem_cons, List.not_mem_nil, or_false] at hx
    rcases hx with rfl | rfl <;> unfold B32 <;> omega
  have hW : RdU (w.alloc (.cells #[.int .u32 (n % 4294967296), .int .u32 (n / 4294967296 % 4294967296)] 186)) (w.heap.size + 1) (some ⟨w.heap.size, 0, none⟩) [(n % 4294967296).toNat, (n / 4294967296 % 4294967296).toNat] := fun _ => by
    refine ⟨w.heap.size, 0, rfl, Nat.lt_succ_self _, fun i hi => ?_⟩
    have hi2 : i < 2 := hi
    have : i = 0 ∨ i = 1 := by omega
    rcases this with rfl | rfl
    · rw [World.cell?_alloc_new]; simp; omega
    · rw [World.cell?_alloc_new]; simp; omega
  have HT := Lib.hid (trim_any (some ⟨w.heap.size, 0, none⟩) 2 (w.heap.size + 1) _ _ hW hok (by simp) (by simp) (by decide))
  have hB : Hid (Below w.heap.size w (w.alloc (.cells #[.int .u32 (n % 4294967296), .int .u32 (n / 4294967296 % 4294967296)] 186))) := Lib.hid ((Below.refl _ _).alloc (Nat.le_refl _) _)
  clear hok hW
  go_wp2_with fail
  refine HT.out.mono ?_
  rintro e w1 ⟨rfl, rfl⟩
  go_wp2
  go_ret
  exact ⟨_, _, _, rfl, hB.out⟩
theorem size_wild (n : Int) : ∃ m : Int, ∀ w : World, Calls Tryz.prog 153 #[.int .i64 n] w fun e w' => e = .returned (.int .i64 m) ∧ w = w' := by
  refine ⟨max n (wrap64 (-n)), fun w => ?_⟩
  go_enter Tryz.func153, Tryz.ntmps153
  go_wp2
  go_ret
  exact ⟨rfl, rfl⟩
def RtWild (w : World) (e : Ending) (w' : World) : Prop := ∃ s A k c A' k' c', e = .returned (.agg #[.bool s, .slice A k c, .slice A' k' c']) ∧ Below w.heap.size w w'
set_option maxHeartbeats 2000000 in
theorem ratioOf_wild (n d : Int) (w : World) : Calls Tryz.prog 107 #[.agg #[.int .i64 n, .int .i64 d]] w (RtWild w) := by
  have HQ := Lib.hid (QF.start n d w)
  obtain ⟨m, hSz⟩ := size_wild n
  have HSz := Lib.hid hSz
  clear hSz
  go_enter Tryz.func107, Tryz.ntmps107
  go_wp2_with fail
  have HN0 : Hid (∀ X, QF n d w X → Calls Tryz.prog 157 #[.int .i64 m] X fun e w' => ∃ A k c, e = .returned (.slice A k c) ∧ QF n d w w') := Lib.hid fun X hX => (naturalOf_wild m X).mono fun e w' ⟨A, k, c, h1, h3⟩ => ⟨A, k, c, h1, hX.below h3⟩
  have HN1 : Hid (∀ X, QF n d w X → Calls Tryz.prog 157 #[.int .i64 d] X fun e w' => ∃ A k c, e = .returned (.slice A k c) ∧ QF n d w w') := Lib.hid fun X hX => (naturalOf_wild d X).mono fun e w' ⟨A, k, c, h1, h3⟩ => ⟨A, k, c, h1, hX.below h3⟩
  go_region_held3 (fun w' => w'.cell? ⟨w.heap.size, 0, none⟩ = some (.int .i64 n) ∧ w'.cell? ⟨w.heap.size, 1, none⟩ = some (.int .i64 d))
    (first | go_keep | (exact ⟨by assumption, by assumption⟩))
    (first | (go_at_call 153; refine (HSz.out _).mono ?_; rintro e w1 ⟨rfl, rfl⟩) | (go_at_call 157; refine (HN1.out _ HQ1.out).mono ?_; rintro e w2 ⟨A2, k2, c2, rfl, hq2⟩; have HQ2 := Lib.hid hq2; clear d0 d1 p0 p1 p2 pf0 pf1 pf2; have d0 := hq2.1; have d1 := hq2.2.1; have p0 := hq2.2.2.1.c0; have p1 := hq2.2.2.1.c1; have p2 := hq2.2.2.1.c2; have pf0 := hq2.2.2.1.f0; have pf1 := hq2.2.2.1.f1; have pf2 := hq2.2.2.1.f2; clear hq2) | (go_at_call 157; refine (HN0.out _ HQ.out).mono ?_; rintro e w1 ⟨A1, k1, c1, rfl, hq1⟩; have HQ1 := Lib.hid hq1; have d0 := hq1.1; have d1 := hq1.2.1; have p0 := hq1.2.2.1.c0; have p1 := hq1.2.2.1.c1; have p2 := hq1.2.2.1.c2; have pf0 := hq1.2.2.1.f0; have pf1 := hq1.2.2.1.f1; have pf2 := hq1.2.2.1.f2; clear hq1))
  all_goals
    have hq := HQ2.out.2.2.1
    have m6 := hq.set0 (.bool (decide (n < 0)))
    have m7 := m6.set1 (.slice A1 k1 c1)
    have m8 := m7.set2 (.slice A2 k2 c2)
    have HR : Hid (RtWild w (.returned (.agg #[.bool (decide (n < 0)), .slice A1 k1 c1, .slice A2 k2 c2])) (((w2.setCell ⟨w.heap.size + 1, 0, none⟩ (.bool (decide (n < 0)))).setCell ⟨w.heap.size + 1, 1, none⟩ (.slice A1 k1 c1)).setCell ⟨w.heap.size + 1, 2, none⟩ (.slice A2 k2 c2))) := Lib.hid (by
      refine ⟨_, A1, k1, c1, A2, k2, c2, rfl, ?_⟩
      exact (((HQ2.out.2.2.2.1).setCell (Nat.le_succ _) _).setCell (Nat.le_succ _) _).setCell (Nat.le_succ _) _)
    have m80 := m8.c0
    have m81 := m8.c1
    have m82 := m8.c2
    clear hq m6 m7 m8
    go_wp2
    refine bodyPost_ret (v := .agg #[.bool (decide (n < 0)), .slice A1 k1 c1, .slice A2 k2 c2]) (by simp [results, Tryz.results107, go_sem, m80, m81, m82]) rfl HR.out
/-- some list of n ratios -/
def RsWild (n : Nat) (w : World) (e : Ending) (w' : World) : Prop := ∃ v cs, e = .returned v ∧ w'.ownsRow w.heap.size 87 3 v n cs ∧ Below w.heap.size w w'
def RwRel (n : Nat) (w : World) (iv ov : Value) (wr : World) : Prop :=
  ∃ (i : Nat) (cs : List Value), iv = .int .i64 (i : Int) ∧ i ≤ n ∧ Hid (wr.ownsRow w.heap.size 87 3 ov i cs) ∧ Hid (Below w.heap.size w wr)
theorem RwRel.next {n i : Nat} {w wr w1 w2 : World} {v v' : Value} {cs cs' : List Value} {ca : Array Value} {t : TypeId} (hi : i < n) (h : wr.ownsRow w.heap.size 87 3 v i cs) (hb : Below w.heap.size w wr) (h1 : Below wr.heap.size wr w1)
    (hown : w2.ownsRow w.heap.size 87 3 v' (i + 1) cs') (hg : (w1.alloc (.cells ca t)).grownBy w2 v.ownBlock) : RwRel n w (.int .i64 ((i : Int) + 1)) v' w2 := by
  have hb1 : Below wr.heap.size wr (w1.alloc (.cells ca t)) := h1.alloc h1.size _
  refine ⟨i + 1, _, by simp, hi, Lib.hid hown, Lib.hid ?_⟩
  exact (hb.trans (hb1.mono hb.size)).trans (grown_below hg (fun g e => (ownsRow_block h e).choose_spec.2.1) (Nat.le_trans hb.size hb1.size))
set_option maxHeartbeats 2000000 in
set_option maxRecDepth 100000 in
theorem ratios_wild {A : Option Addr} {c B n : Nat} {fs : List Int} (w : World) (hx : RdF w B A n fs) (hB : B ≤ w.heap.size) (hn : n ≤ 1048576) : Calls Tryz.prog 61 #[.slice A n c] w (RsWild n w) := by
  obtain ⟨iw, wi, wz0, wz1, wz2⟩ := info_parts infoR
  have HX := Lib.hid (hx.more hB)
  have H0 : Hid (RwRel n w (.int .i64 0) (.slice (some ⟨w.heap.size, 0, none⟩) 0 0) (w.alloc (.cells #[] 87))) := Lib.hid ⟨0, [], rfl, Nat.zero_le _, Lib.hid (OwnR.lit0 w (fun _ => 0)).row, Lib.hid ((Below.refl _ _).alloc (Nat.le_refl _) _)⟩
  clear hx
  go_enter Tryz.func61, Tryz.ntmps61
  go_wp2
  go_loopw [9, 3] (fun iv ov wr => RwRel n w iv ov wr) (fun iv _ _ => n - (intOf iv).toNat)
  case atStart => exact H0.out
  case round =>
    obtain ⟨i, cs, rfl, hi, HO, HB⟩ := hrel
    clear H0
    by_cases hlt : i < n
    · obtain ⟨b, off, rfl, hbl, g1, g2⟩ := (HX.out.below HB.out (Nat.le_refl _)).at hlt
      have HW := Lib.hid (fun W => ratioOf_wild (fs.getD (2 * i) 0) (fs.getD (2 * i + 1) 0) W)
      have HNX := Lib.hid (fun (w1 w2 : World) v' cs' ca t h1 hown hg => RwRel.next (w1 := w1) (w2 := w2) (v' := v') (cs' := cs') (ca := ca) (t := t) hlt HO.out HB.out h1 hown hg)
      generalize fs.getD (2 * i) 0 = x0 at *
      generalize fs.getD (2 * i + 1) 0 = x1 at *
      have hsz := HB.out.size
      go_upto_region 5 with (fail)
      obtain ⟨W1, hW1⟩ : ∃ W1, W1 = wr.alloc (.cells #[.int .i64 x0, .int .i64 x1] 43) := ⟨_, rfl⟩
      rw [← hW1]
      have K1 : Hid (Blk W1 wr.heap.size 43 #[.int .i64 x0, .int .i64 x1]) := Lib.hid (by rw [hW1]; exact Blk.new wr _ _)
      have HB1 : Hid (Below wr.heap.size wr W1) := Lib.hid (by rw [hW1]; exact (Below.refl _ _).alloc (Nat.le_refl _) _)
      have hs1 := HB1.out.size
      have y0 := K1.out.at 0 (v := .int .i64 x0) rfl
      have y1 := K1.out.at 1 (v := .int .i64 x1) rfl
      clear hW1 g1 g2
      go_wp2_with fail
      refine (HW.out _).mono ?_
      rintro e w2 ⟨s, A1, k1, c1, A2, k2, c2, rfl, hb2⟩
      have HB2 := Lib.hid (Base.Below.nextA HB1.out hb2)
      have hs2 := HB2.out.size
      have HNN := Lib.hid (fun w3 v' cs' ca t hown hg => HNX.out w2 w3 v' cs' ca t HB2.out hown hg)
      have HW0 := Lib.hid (fun o => World.ownsRow.alloc (ownsRow_below HO.out HB2.out) o)
      clear hb2 HO HB y0 y1 HW HNX
      have HW2 := Lib.hid (HW0.out (.cells #[.bool s, .slice A1 k1 c1, .slice A2 k2 c2] 87))
      clear HW0
      go_wp2_with (at_builtin; refine wpList_append_own_at _ rfl (.tmp 13) (.tmp 16) 89 rfl w.heap.size 87 iw (.agg #[.bool false, .slice none 0 0, .slice none 0 0]) 3 56 Tryz.underlying89 wi wz0 wz1 wz2 rfl (by decide) _ _ _ rfl HW2.out ⟨w2.heap.size, 0, none⟩ 1 1 [.bool s, .slice A1 k1 c1, .slice A2 k2 c2] rfl rfl ?p1a ?p2a ?p3a ?p4a ?p5a ?_)
      try case p1a => exact news_three _ _ (by simp)
      try case p2a => exact ones_three
      try case p3a => first | (simp only [maxLen]; omega) | omega
      try case p4a => omega
      try case p5a => first | (simp only [World.size_alloc]; omega) | omega
      intro v' w3 hown' hg' _ he
      have HN3 := Lib.hid (HNN.out w3 v' _ _ _ hown' hg')
      clear hown' hg' he HNN HW2
      go_wp2
      go_roundw
      case rel => exact HN3.out
      case measure => simp [intOf]; omega
    · obtain rfl : i = n := by omega
      obtain ⟨A', c', rfl, _⟩ := ownsRow_form HO.out
      have HR : Hid (RsWild i w (.returned (.slice A' i c')) wr) := Lib.hid ⟨_, cs, rfl, HO.out, HB.out⟩
      clear HO HB
      go_wp2
      go_ret
      exact HR.out
end Go.Proofs.YtionognmgcabbaaGreat.Ratio
/- The program: the average distance. -/
namespace Go.Proofs.YtionognmgcabbaaGreat.Ratio
open Go.RowKit Go.Proofs.YtionognmgcabbaaGreat Go.Proofs.YtionognmgcabbaaGreat.Base Go.Proofs.YtionognmgcabbaaGreat.Mem Go.Proofs.YtionognmgcabbaaGreat.NatM Go.Proofs.YtionognmgcabbaaGreat.Nat32 Go.Proofs.YtionognmgcabbaaGreat.RatM Go.Proofs.YtionognmgcabbaaGreat.Blk Go.Proofs.YtionognmgcabbaaGreat.MemF Go.Proofs.YtionognmgcabbaaGreat.ChM Go.Proofs.YtionognmgcabbaaGreat.GaussM Go.Proofs.YtionognmgcabbaaGreat.ExtM Go.Proofs.YtionognmgcabbaaGreat.RowN Go.Proofs.YtionognmgcabbaaGreat.NextM Go.Proofs.YtionognmgcabbaaGreat.GiveM
open Go.Proofs.YtionognmgcabbaaGreat.Inv (natOf natOf_eq len_pos Rat3 not_slice not_bool frz)
set_option linter.unusedVariables false
/-- a fraction that is returned, and whether there is one -/
def FrRet (P Q : Int) (ok : Bool) (w : World) (e : Ending) (w' : World) : Prop := e = .returned (.tuple #[.agg #[.int .i64 P, .int .i64 Q], .bool ok]) ∧ Below w.heap.size w w'
/-- the result's cells -/
theorem fr_put {w wq : World} {P Q : Int} {ok : Bool} {b : Nat} (hb : Below w.heap.size w wq) (hB : w.heap.size ≤ b) : FrRet P Q ok w (.returned (.tuple #[.agg #[.int .i64 P, .int .i64 Q], .bool ok])) ((wq.setCell ⟨b, 0, none⟩ (.int .i64 P)).setCell ⟨b, 1, none⟩ (.int .i64 Q)) :=
  ⟨rfl, (hb.setCell (p := ⟨b, 0, none⟩) hB _).setCell (p := ⟨b, 1, none⟩) hB _⟩
theorem nat_sz {T : Nat} (h : T ≤ 256) : szR ((T : Nat) : Rat) ≤ 200000 := by
  have : Dg (B32 ^ 1) ((T : Nat) : Rat) := ⟨by rw [Rat.num_natCast]; simp [B32]; omega, by rw [Rat.den_natCast]; decide⟩
  have h := dgb_sz this
  omega
theorem nat_rt {T : Nat} (h : 1 ≤ T) : ((T : Nat) : Rat).num = (T : Int) ∧ ((T : Nat) : Rat).den = 1 ∧ decide (((T : Nat) : Rat) < 0) = decide ((T : Int) < 0) := by
  refine ⟨Rat.num_natCast T, Rat.den_natCast T, ?_⟩
  have h1 : ¬ (((T : Nat) : Rat) < 0) := by
    have : (0 : Rat) ≤ ((T : Nat) : Rat) := Rat.natCast_nonneg
    exact Rat.not_lt.2 this
  rw [decide_eq_false h1, decide_eq_false (by omega)]
theorem nat_ne {T : Nat} (h : 1 ≤ T) : ((T : Nat) : Rat) ≠ 0 := fun e => by
  have := congrArg Rat.num e
  rw [Rat.num_natCast] at this
  have h0 : (0 : Rat).num = 0 := rfl
  omega
set_option maxHeartbeats 4000000 in
set_option maxRecDepth 100000 in
theorem implAvg_any {A : Option Addr} {c B n : Nat} {fs : List Int} (t : Int) (w : World) (hy : RdF w B A n fs) (hB : B ≤ w.heap.size) (hn : n ≤ 1048576) :
    Calls Tryz.prog 28 #[.int .i64 t, .slice A n c] w (FrRet (avP t fs n) (avD t fs n) (avB t fs n) w) := by
  have hb0 : Below w.heap.size w (w.alloc (.cells #[.int .i64 0, .int .i64 0] 43)) := (Below.refl _ _).alloc (Nat.le_refl _) _
  have KR0 : Hid (Blk (w.alloc (.cells #[.int .i64 0, .int .i64 0] 43)) w.heap.size 43 #[.int .i64 0, .int .i64 0]) := Lib.hid (Blk.new w _ _)
  have HB0 := Lib.hid hb0
  have HY := Lib.hid ((hy.below hb0 hB).more (Nat.le_trans hB hb0.size))
  clear hy hb0
  cases h : AllI.okA t fs n with
  | false =>
    obtain ⟨e1, e2, e3⟩ := av_no h
    rw [e1, e2, e3]
    clear e1 e2 e3
    have HOK := Lib.hid h
    clear h
    have HRS := Lib.hid (fun W (hb : Below (w.alloc (.cells #[.int .i64 0, .int .i64 0] 43)).heap.size (w.alloc (.cells #[.int .i64 0, .int .i64 0] 43)) W) => ratios_wild (c := c) W (HY.out.below hb (Nat.le_refl _)) hb.size hn)
    go_enter Tryz.func28, Tryz.ntmps28
    go_wp2_with fail
    refine (whole_rt 0 0 (by decide) ⟨rfl, rfl, by decide⟩ _).mono ?_
    rintro e w1 ⟨v, rfl, hv0, hb1⟩
    obtain ⟨s, A1, k1, c1, A2, k2, c2, rfl, hv⟩ := hv0.open
    have HB1 := Lib.hid (Base.Below.nextA HB0.out hb1)
    have HG1 := Lib.hid hb1
    have KR1 := Lib.hid (KR0.out.belowS hb1)
    have HR1 := Lib.hid (HRS.out _ hb1)
    have HYw := Lib.hid (HY.out.below hb1 (Nat.le_refl _))
    have HV1 := Lib.hid hv
    have hs1 := hb1.size
    clear hb1 hv0 hv HRS
    go_wp2_with fail
    refine HR1.out.mono ?_
    rintro e w2 ⟨u, cs, rfl, ho, hb2⟩
    obtain ⟨A3, c3, rfl, hA3⟩ := ownsRow_form ho
    have HB2 := Lib.hid (Base.Below.nextA HB1.out hb2)
    have HG2 := Lib.hid (Base.Below.nextA HG1.out hb2)
    have KR2 := Lib.hid (KR1.out.belowS hb2)
    have HY2 := Lib.hid ((HYw.out.below hb2 hs1))
    have HV2 := Lib.hid (HV1.out.below hb2)
    have hs2 := hb2.size
    skip
    clear ho hb2 HR1 HB1 KR1 HYw HV1
    go_upto_region 2 with (fail)
    obtain ⟨W3, hW3⟩ : ∃ W3, W3 = ((w2.alloc (.cells #[.bool s, .slice A1 k1 c1, .slice A2 k2 c2] 87)).alloc (.cells #[.int .i64 0] 2)).alloc (.cells #[.slice A3 n c3] 89) := ⟨_, rfl⟩
    rw [← hW3]
    obtain ⟨g, hg⟩ : ∃ g, g = w2.heap.size := ⟨_, rfl⟩
    rw [← hg]
    have hb3 : Below w2.heap.size w2 W3 := by rw [hW3]; exact (((Below.refl _ _).alloc (Nat.le_refl _) _).alloc (by simp) _).alloc (by simp; omega) _
    have hs3 := hb3.size
    have HB3 := Lib.hid (Base.Below.nextA HB2.out hb3)
    have HG3 := Lib.hid (Base.Below.nextA HG2.out hb3)
    have KR3 := Lib.hid (KR2.out.belowS hb3)
    have HY3 := Lib.hid (HY2.out.below hb3 (by omega))
    have HN := Lib.hid (AllI.allRows_no (c := c) (t := t) (fv := .func (Fn.func 71) #[] #[.pointer (some ⟨g, 0, none⟩), .pointer (some ⟨g + 1 + 1, 0, none⟩), .pointer (some ⟨g + 1, 0, none⟩)]) W3 HY3.out (by omega) (by omega) HOK.out)
    clear hW3 hg hb3 HOK HB2 KR2 HY2 HV2 HY3
    go_wp2_with fail
    refine HN.out.mono ?_
    rintro e w4 ⟨rfl, hb4⟩
    have KRq := KR3.out.belowS hb4
    have HBq := Base.Below.nextA HB3.out hb4
    clear hb4 HN HB3 KR3
    have z0 := (KRq).frz 0
    have z1 := (KRq).frz 1
    have c0 := (KRq).at 0 (v := .int .i64 0) rfl
    have c1 := (KRq).at 1 (v := .int .i64 0) rfl
    have HFIN := Lib.hid (fr_put (P := 0) (Q := 0) (ok := false) (HBq) (Nat.le_refl _))
    have SS := ((KRq).setTo 0 (.int .i64 0) rfl).setTo 1 (.int .i64 0) rfl
    have s0 := SS.at 0 rfl
    have s1 := SS.at 1 rfl
    clear SS
    go_wp2
    refine bodyPost_ret (v := .tuple #[.agg #[.int .i64 0, .int .i64 0], .bool false]) (by simp [results, Tryz.results28, go_sem, s0, s1]) rfl ?_
    exact HFIN.out
  | true =>
    obtain ⟨e1, e2, e3⟩ := av_yes h
    rw [e1, e2, e3]
    clear e1 e2 e3
    obtain ⟨C, rfl, hC1, hC3, hN1, hCN⟩ := AllI.okA_yes h
    have hch := bits_ch hN1
    obtain ⟨_, h16⟩ := chB_range hch
    have hv : AllVF fs n := vfAll_true.1 (by
      cases hvf : vfAll fs n with
      | true => rfl
      | false => rw [chB_vf hvf] at hch; cases hch)
    have hT : 2 ^ (C * bitsQ fs n) ≤ 256 := pow_le hCN
    have hN4 := AllI.bits_le fs n
    have HSZ := Lib.hid (fun k (hk : k ≤ 256) => sumC_sz (C := C) (N := bitsQ fs n) (k := k) hv h16 hC3 hk)
    have hQ : Hid (avQ (C : Int) fs n = sumR (2 ^ (C * bitsQ fs n)) (farC C (bitsQ fs n) fs n) * ((2 ^ (C * bitsQ fs n) : Nat) : Rat)⁻¹) := Lib.hid (by unfold avQ avT; rw [Int.toNat_natCast])
    have hT1 : 1 ≤ 2 ^ (C * bitsQ fs n) := Nat.pow_pos (by decide)
    rw [hQ.out]
    obtain ⟨P, hP⟩ : ∃ P, P = numQ (sumR (2 ^ (C * bitsQ fs n)) (farC C (bitsQ fs n) fs n) * ((2 ^ (C * bitsQ fs n) : Nat) : Rat)⁻¹) := ⟨_, rfl⟩
    obtain ⟨Q, hQ2⟩ : ∃ Q, Q = denQ (sumR (2 ^ (C * bitsQ fs n)) (farC C (bitsQ fs n) fs n) * ((2 ^ (C * bitsQ fs n) : Nat) : Rat)⁻¹) := ⟨_, rfl⟩
    obtain ⟨ok, hK2⟩ : ∃ ok, ok = smallQ (sumR (2 ^ (C * bitsQ fs n)) (farC C (bitsQ fs n) fs n) * ((2 ^ (C * bitsQ fs n) : Nat) : Rat)⁻¹) := ⟨_, rfl⟩
    rw [← hP, ← hQ2, ← hK2]
    have HP := Lib.hid hP
    have HQQ := Lib.hid hQ2
    have HKK := Lib.hid hK2
    clear hP hQ2 hK2 hQ
    clear h hch
    have HRS := Lib.hid (fun W (hb : Below (w.alloc (.cells #[.int .i64 0, .int .i64 0] 43)).heap.size (w.alloc (.cells #[.int .i64 0, .int .i64 0] 43)) W) => ratios_any (c := c) W (HY.out.below hb (Nat.le_refl _)) hb.size hv (by omega))
    go_enter Tryz.func28, Tryz.ntmps28
    go_wp2_with fail
    refine (whole_rt 0 0 (by decide) ⟨rfl, rfl, by decide⟩ _).mono ?_
    rintro e w1 ⟨v, rfl, hv0, hb1⟩
    obtain ⟨s, A1, k1, c1, A2, k2, c2, rfl, hv⟩ := hv0.open
    have HB1 := Lib.hid (Base.Below.nextA HB0.out hb1)
    have HG1 := Lib.hid hb1
    have KR1 := Lib.hid (KR0.out.belowS hb1)
    have HR1 := Lib.hid (HRS.out _ hb1)
    have HYw := Lib.hid (HY.out.below hb1 (Nat.le_refl _))
    have HV1 := Lib.hid hv
    have hs1 := hb1.size
    clear hb1 hv0 hv HRS
    go_wp2_with fail
    refine HR1.out.mono ?_
    rintro e w2 ⟨u, cs, rfl, ho, hb2⟩
    obtain ⟨A3, c3, rfl, hA3⟩ := ho.form
    have HB2 := Lib.hid (Base.Below.nextA HB1.out hb2)
    have HG2 := Lib.hid (Base.Below.nextA HG1.out hb2)
    have KR2 := Lib.hid (KR1.out.belowS hb2)
    have HY2 := Lib.hid ((HYw.out.below hb2 hs1))
    have HV2 := Lib.hid (HV1.out.below hb2)
    have hs2 := hb2.size
    have HRD := Lib.hid ho.rd
    clear ho hb2 HR1 HB1 KR1 HYw HV1
    go_upto_region 2 with (fail)
    obtain ⟨W3, hW3⟩ : ∃ W3, W3 = ((w2.alloc (.cells #[.bool s, .slice A1 k1 c1, .slice A2 k2 c2] 87)).alloc (.cells #[.int .i64 0] 2)).alloc (.cells #[.slice A3 n c3] 89) := ⟨_, rfl⟩
    rw [← hW3]
    obtain ⟨g, hg⟩ : ∃ g, g = w2.heap.size := ⟨_, rfl⟩
    rw [← hg]
    have hb3 : Below w2.heap.size w2 W3 := by rw [hW3]; exact (((Below.refl _ _).alloc (Nat.le_refl _) _).alloc (by simp) _).alloc (by simp; omega) _
    have hs3 := hb3.size
    have HB3 := Lib.hid (Base.Below.nextA HB2.out hb3)
    have HG3 := Lib.hid (Base.Below.nextA HG2.out hb3)
    have KR3 := Lib.hid (KR2.out.belowS hb3)
    have HY3 := Lib.hid (HY2.out.below hb3 (by omega))
    have HA3 := Lib.hid (fun a (e : A3 = some a) => show a.block ≠ g ∧ a.block ≠ g + 1 by
      rcases Nat.eq_zero_or_pos n with h0 | h0
      · omega
      · obtain ⟨g', e', _, hlt⟩ := hA3 h0
        rw [e'] at e
        injection e with e
        subst e
        exact ⟨by show g' ≠ g; omega, by show g' ≠ g + 1; omega⟩)
    have HI0 : Hid (AvJ (w.alloc (.cells #[.int .i64 0, .int .i64 0] 43)) g (g + 1 + 1) (g + 1) n c3 A3 fs (farC C (bitsQ fs n) fs n) 0 W3) := Lib.hid ⟨s, A1, k1, c1, A2, k2, c2, by
        rw [hW3, hg]; exact ((Blk.new w2 _ _).alloc _).alloc _, HV2.out.below hb3, by
        rw [hW3, hg]
        have := (Blk.new (w2.alloc (.cells #[.bool s, .slice A1 k1 c1, .slice A2 k2 c2] 87)) 2 #[.int .i64 0]).alloc (.cells #[.slice A3 n c3] 89)
        rw [World.size_alloc] at this
        exact this, by
        rw [hW3, hg]
        have := Blk.new ((w2.alloc (.cells #[.bool s, .slice A1 k1 c1, .slice A2 k2 c2] 87)).alloc (.cells #[.int .i64 0] 2)) 89 #[.slice A3 n c3]
        rw [World.size_alloc, World.size_alloc] at this
        exact this, HRD.out.below hb3, HG3.out⟩
    have hgw : (w.alloc (.cells #[.int .i64 0, .int .i64 0] 43)).heap.size ≤ g := by rw [hg]; exact HG2.out.size
    have HRI := Lib.hid (AllI.allRowsA_any (c := c) (C := C) (N := bitsQ fs n) (b1 := g) (b2 := g + 1 + 1) (b3 := g + 1) (I := fun k W => AvJ (w.alloc (.cells #[.int .i64 0, .int .i64 0] 43)) g (g + 1 + 1) (g + 1) n c3 A3 fs (farC C (bitsQ fs n) fs n) k W) W3 hC1 hC3 rfl hN1 hN4 hCN HY3.out (by omega) (by omega) HI0.out (fun k W W' h hb => h.mono hb)
      (fun k hk W B' A' c' hB' hI ho => by
        obtain ⟨_, _, hlt⟩ : ∃ x y : Nat, B' ≤ W.heap.size := ⟨0, 0, Nat.le_trans (Nat.le_refl _) (by
          obtain ⟨g', e', h1, h2⟩ := ho.form.choose_spec.choose_spec.2 (by rw [rowsOf_len]; exact hC1)
          omega)⟩
        exact avgC_any (c := c3) (c' := c') (C := C) (xs := rowsOf C (bitsQ fs n) k) W hI (by omega) (by omega) (by omega) hgw (by omega) HA3.out ho.rd (Nat.le_refl _) (rowsOf_len _ _ _) hC1 hC3
          (fun i hi => by
            rw [rowsOf_len] at hi
            have h1 := rowsOf_lt (n := bitsQ fs n) (code := k) hi
            have h2 : 2 ^ bitsQ fs n ≤ 2 ^ 4 := Nat.pow_le_pow_right (by decide) hN4
            omega) hv h16 rfl (by have := HSZ.out k (by omega); omega) (by omega)))
    have KR3b := KR3.out
    have HB3b := HB3.out
    clear hW3 hg hb3 HB2 KR2 HY2 HV2 HY3 HI0 HRD
    generalize 2 ^ (C * bitsQ fs n) = T at *
    generalize farC C (bitsQ fs n) fs n = f at *
    go_wp2_with fail
    refine HRI.out.mono ?_
    rintro e w4 ⟨rfl, hJ, hs4⟩
    obtain ⟨s, B1, j1, d1, B2, j2, d2, hJ⟩ := hJ
    have KS := Lib.hid hJ.sum
    have KM := Lib.hid hJ.many
    have HS := Lib.hid hJ.is
    have KR4 := Lib.hid (KR0.out.belowS hJ.below)
    have HB4 := Lib.hid (Base.Below.nextA HB0.out hJ.below)
    have HZ : Hid (szR (sumR T f) ≤ 200000 ∧ szR ((T : Nat) : Rat) ≤ 200000) := Lib.hid ⟨by have := HSZ.out T hT; omega, nat_sz hT⟩
    have HTQ := Lib.hid (nat_rt hT1)
    have HTZ := Lib.hid (nat_ne hT1)
    clear hJ HRI HSZ KR3 HB3 KR3b HB3b HG1 HG2 HG3 KR0 HB0 HY HA3
    generalize sumR T f = S at *
    go_upto_region 4 with (fail)
    refine Rel.wp_region_rel 7 (by kernel_rfl) (by kernel_rfl) (fun F hF => ?_)
    simp only [List.take_succ_cons, List.take_zero, List.drop_succ_cons, List.drop_zero, Rel.putL] at hF ⊢
    have HF := Lib.hid hF
    clear hF
    have uv := @Rel.upon_value Tryz.prog
    have ue := @Rel.upon_enter Tryz.prog
    apply Rel.rel_pure
    apply Exists.intro
    refine ⟨fun vs wq hq hdp R hR => ?_, ?_⟩
    · (rw [HF.out, Rel.stepAt_eq]; clear hdp; have x0 := (KS.out.belowS hq).at 0 (v := .bool s) rfl; have x1 := (KS.out.belowS hq).at 1 (v := .slice B1 j1 d1) rfl; have x2 := (KS.out.belowS hq).at 2 (v := .slice B2 j2 d2) rfl; go_simp; exact hR)
    apply Rel.rel_pure
    apply Exists.intro
    refine ⟨fun vs wq hq hdp R hR => ?_, ?_⟩
    · (rw [HF.out, Rel.stepAt_eq]; clear hdp; have y0 := (KM.out.belowS hq).at 0 (v := .int .i64 (T : Int)) rfl; go_simp; exact hR)
    refine Rel.rel_law (S := fun v w' => IsRt w' ((T : Nat) : Rat) v) (isRt_mono _) (fun vs wq hq hdp => ?_) ?_
    · (rw [HF.out, Rel.stepAt_eq]; have qd1 : vs 1 = _ := Rel.dep hdp 1 (by kernel_rfl); clear hdp; skip; go_simp; refine (whole_rt (T : Int) ((T : Nat) : Rat) (by omega) HTQ.out wq).mono ?_; rintro e w7 ⟨v, rfl, hv, hb⟩; exact ⟨_, rfl, hv, hb⟩)
    refine Rel.rel_law (S := fun v w' => IsRt w' (S * ((T : Nat) : Rat)⁻¹) v) (isRt_mono _) (fun vs wq hq hdp => ?_) ?_
    · (rw [HF.out, Rel.stepAt_eq]; have qd0 : vs 0 = _ := Rel.dep hdp 0 (by kernel_rfl); have qd2 : IsRt wq _ (vs 2) := Rel.dep hdp 2 (by kernel_rfl); clear hdp; skip; go_simp; refine (ratOver wq (HS.out.below hq) qd2 HZ.out.1 HZ.out.2 HTZ.out).mono ?_; rintro e w7 h; obtain ⟨v, rfl, hv, hb⟩ := h.is; exact ⟨_, rfl, hv, hb⟩)
    apply Rel.rel_same
    apply Exists.intro
    refine ⟨fun vs wq hq hdp => ?_, ?_⟩
    · (rw [HF.out, Rel.stepAt_eq]; have qd3 : IsRt wq _ (vs 3) := Rel.dep hdp 3 (by kernel_rfl); clear hdp; skip; go_simp; refine (ratFraction wq qd3).mono ?_; rintro e w7 ⟨rfl, hb⟩; exact ⟨_, rfl, rfl, hb⟩)
    apply Rel.rel_pure
    apply Exists.intro
    refine ⟨fun vs wq hq hdp R hR => ?_, ?_⟩
    · (rw [HF.out, Rel.stepAt_eq]; have qd4 : vs 4 = _ := Rel.dep hdp 4 (by kernel_rfl); clear hdp; skip; go_simp; exact hR)
    apply Rel.rel_pure
    apply Exists.intro
    refine ⟨fun vs wq hq hdp R hR => ?_, ?_⟩
    · (rw [HF.out, Rel.stepAt_eq]; have qd4 : vs 4 = _ := Rel.dep hdp 4 (by kernel_rfl); clear hdp; skip; go_simp; exact hR)
    refine Rel.rel_end (fun vs wq hq hall => ?_)
    rw [HF.out]
    have qe0 : vs 0 = _ := Rel.fin hall 0 (by decide)
    have qe1 : vs 1 = _ := Rel.fin hall 1 (by decide)
    have qe2 : IsRt wq _ (vs 2) := Rel.fin hall 2 (by decide)
    have qe3 : IsRt wq _ (vs 3) := Rel.fin hall 3 (by decide)
    have qe4 : vs 4 = _ := Rel.fin hall 4 (by decide)
    have qe5 : vs 5 = _ := Rel.fin hall 5 (by decide)
    have qe6 : vs 6 = _ := Rel.fin hall 6 (by decide)
    clear hall HF uv ue
    have KRq := KR4.out.belowS hq
    have HBq := Base.Below.nextA HB4.out hq
    rw [← HP.out, ← HQQ.out, ← HKK.out] at qe4
    rw [← HP.out, ← HQQ.out] at qe5
    rw [← HKK.out] at qe6
    clear qe2 qe3 hq KS KM HS HZ HTQ HTZ KR4 HB4 HP HQQ HKK
    have z0 := (KRq).frz 0
    have z1 := (KRq).frz 1
    have c0 := (KRq).at 0 (v := .int .i64 0) rfl
    have c1 := (KRq).at 1 (v := .int .i64 0) rfl
    have HFIN := Lib.hid (fr_put (P := P) (Q := Q) (ok := ok) (HBq) (Nat.le_refl _))
    have SS := ((KRq).setTo 0 (.int .i64 P) rfl).setTo 1 (.int .i64 Q) rfl
    have s0 := SS.at 0 rfl
    have s1 := SS.at 1 rfl
    clear SS
    go_wp2
    refine bodyPost_ret (v := .tuple #[.agg #[.int .i64 P, .int .i64 Q], .bool ok]) (by simp [results, Tryz.results28, go_sem, s0, s1]) rfl ?_
    exact HFIN.out
end Go.Proofs.YtionognmgcabbaaGreat.Ratio

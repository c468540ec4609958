/- The program over all lists of rows (allRows), with the function of BestRows that is called with each. -/
import Derived.Test.YtionognmgcabbaaGreatMgBes11
import Derived.Deep.RegionLaw
import Derived.Deep.AppendLies
import Derived.Test.YtionognmgcabbaaGreatMgBes12
import Derived.Test.YtionognmgcabbaaGreatMgBes07
namespace Go.Proofs.YtionognmgcabbaaGreat.AllI
open Go Go.RowKit Go.Proofs.YtionognmgcabbaaGreat Go.Proofs.YtionognmgcabbaaGreat.Base Go.Proofs.YtionognmgcabbaaGreat.Mem Go.Proofs.YtionognmgcabbaaGreat.MemF Go.Proofs.YtionognmgcabbaaGreat.ChM Go.Proofs.YtionognmgcabbaaGreat.Ratio Go.Proofs.YtionognmgcabbaaGreat.NextM
set_option linter.unusedVariables false
set_option maxHeartbeats 4000000 in
set_option maxRecDepth 100000 in
theorem allRowsB_n1 {I : Nat → World → Prop} {b1 b2 b3 : Nat} {A : Option Addr} {c B m C : Nat} {fs : List Int} (w : World) (hC : 1 ≤ C) (hC3 : C ≤ 3) (hb : bitsQ fs m = 1) (hCN : C ≤ 8) (hx : RdF w B A m fs) (hB : B ≤ w.heap.size) (hm : m ≤ 1099511627776)
    (hI0 : I 0 w) (hmono : ∀ k W W', I k W → Below W.heap.size W W' → I k W')
    (hstep : ∀ k, k < 2 ^ C → ∀ W B' A' c', w.heap.size ≤ B' → I k W → OwnI W B' (.slice A' C c') (rowsOf C 1 k) → Calls Tryz.prog 75 #[.slice A' C c', .pointer (some ⟨b1, 0, none⟩), .pointer (some ⟨b2, 0, none⟩), .pointer (some ⟨b3, 0, none⟩)] W fun e w' => e = .returned (.tuple #[]) ∧ I (k + 1) w' ∧ W.heap.size ≤ w'.heap.size) :
    Calls Tryz.prog 70 #[.int .i64 (C : Int), .slice A m c, .func (Fn.func 75) #[] #[.pointer (some ⟨b1, 0, none⟩), .pointer (some ⟨b2, 0, none⟩), .pointer (some ⟨b3, 0, none⟩)]] w fun e w' => e = .returned (.bool true) ∧ I (2 ^ C) w' ∧ w.heap.size ≤ w'.heap.size := by
  obtain ⟨i0, hi, hz0, hz1, hz2⟩ := info_parts infoI
  have HS := Lib.hid (src_any (c := c) w hx hB hm)
  unfold SrcRet at HS
  rw [hb] at HS
  have HST := Lib.hid hstep
  have HM := Lib.hid hmono
  have HI := Lib.hid hI0
  clear hx hstep hmono hI0 hb
  have hr : inR (C : Int) 1 3 = true := by simp [inR]; omega
  have HIR := Lib.hid (fun W => inRange_qb hr W)
  clear hr
  have hT : 2 ^ C ≤ 256 := by have := pow_le (count := C) (n := 1) (by omega); rwa [Nat.mul_one] at this
  have hT1 : wrap64 ((2 : Int) ^ C) = ((2 ^ C : Nat) : Int) := by
    rw [show (2 : Int) ^ C = ((2 ^ C : Nat) : Int) by simp]
    exact Nat32.wrap64_nat _ (by omega)
  go_enter Tryz.func70, Tryz.ntmps70
  go_wp2_with fail
  refine HS.out.mono ?_
  rintro e w1 ⟨d, rfl, hd, hb1⟩
  obtain rfl := hd (by decide)
  rw [show decide ((1 : Nat) ≠ 0) = true from rfl]
  have HI1 := Lib.hid (HM.out _ _ _ HI.out hb1)
  have hs1 := hb1.size
  clear hd hb1 HI
  go_wp2_with fail
  refine (HIR.out _).mono ?_
  rintro e w' ⟨rfl, rfl⟩
  go_wp2_with fail

  rw [hT1]
  generalize hTT : 2 ^ C = T at *
  have HTT := Lib.hid hTT
  clear hTT hT1
  go_loopw [34] (fun iv wr => AlRel I T w.heap.size iv wr) (fun iv _ => T - (intOf iv).toNat)
  case atStart => exact ⟨0, Nat.zero_le _, rfl, HI1, hs1⟩
  case round =>
    obtain ⟨k, hk, rfl, HK, hsk⟩ := hrel
    obtain ⟨wo, rfl⟩ : ∃ x, x = wr := ⟨_, rfl⟩
    clear HI1 hs1 HS HIR
    by_cases hlt : k < T
    · have HQ := Lib.hid (RwRel.start C 1 k wo)
      go_wp2_with fail
      go_loopw [10, 11] (fun v iv wr => RwRel C 1 k wo v iv wr) (fun _ iv _ => (intOf iv + 1).toNat)
      case atStart => exact HQ.out
      case round =>
        obtain ⟨j, q, hjq, rfl, hO, hb⟩ := hrel
        obtain ⟨wp, rfl⟩ : ∃ x, x = wr := ⟨_, rfl⟩
        have HO2 := Lib.hid hO
        have HB2 := Lib.hid hb
        have hzp := hb.size
        clear hO hb HQ
        cases q with
        | zero =>
          obtain rfl : j = C := by omega
          have hO3 := HO2.out
          rw [List.take_of_length_le (by rw [rowsOf_len]; exact Nat.le_refl _)] at hO3
          obtain ⟨A', c', e', _⟩ := hO3.form
          rw [rowsOf_len] at e'
          subst e'
          have HC := Lib.hid (HST.out k hlt wp wo.heap.size A' c' hsk (HM.out k wo wp HK.out HB2.out) hO3)
          clear hO3 HST HK HB2 HO2
          rw [show (((0 : Nat) : Int) - 1) = -1 from rfl]
          go_wp2_with fail
          refine HC.out.mono ?_
          rintro e w2 ⟨rfl, hI2, hs2⟩
          have HI2 := Lib.hid hI2
          clear hI2 HC
          go_wp2
          go_roundw
          case rel => exact ⟨k + 1, hlt, by simp, HI2, by omega⟩
          case measure =>
            show T - (((k : Int) + 1)).toNat < T - ((k : Int)).toNat
            omega
        | succ q =>
          have HN := Lib.hid (fun v v' w1 w2 h1 h2 h3 h4 h5 => RwRel.next (C := C) (N := 1) (k := k) (w := wo) (wr := wp) (w1 := w1) (w2 := w2) (v := v) (v' := v') hjq h1 h2 h3 h4 h5)
          rw [show (((q + 1 : Nat) : Int) - 1) = (q : Int) by omega]
          have hlen : ((rowsOf C 1 k).take j).length = j := by rw [List.length_take, rowsOf_len]; omega
          obtain ⟨X, hX⟩ : ∃ X, X = k / 2 ^ q := ⟨_, rfl⟩
          obtain ⟨Y, hY⟩ : ∃ Y, Y = X % 2 ^ 1 := ⟨_, rfl⟩
          have hX2 : X ≤ k := by rw [hX]; exact Nat.div_le_self _ _
          have hX1 : X = k / 2 ^ (q * 1) := by rw [Nat.mul_one]; exact hX
          have hq60 : q * 1 ≤ 60 := by omega
          have hw2 : IntKind.i64.wrap (q : Int) = (q : Int) := by have := wr_at hq60; rw [Nat.mul_one] at this; rwa [show (q : Int) * ((1 : Nat) : Int) = (q : Int) from Int.mul_one _] at this
          have hsh := shr_at hX1 hq60
          rw [Nat.mul_one] at hsh
          have hand := and_at (n := 1) hY (show X ≤ 1000 by omega) (by decide)
          rw [show ((2 ^ 1 - 1 : Nat) : Int) = IntKind.i64.wrap (IntKind.i64.wrap 2 - 1) from by decide] at hand
          rw [← hw2] at hsh
          rw [← hX1, ← hY] at HN
          have HYk : Y ≤ k := by rw [hY]; exact Nat.le_trans (Nat.mod_le _ _) hX2
          have hown := World.ownsRow.alloc HO2.out (.cells #[.int .i64 (Y : Int)] 2)
          rw [hlen] at hown
          have HW := Lib.hid hown
          clear hown hlen hX hX1 hY hw2 hq60
          go_wp2_with fail
          go_region_law ((refine step_append_lies _ (by rfl) _ _ _ (by rfl) wo.heap.size 2 i0 _ 1 8 Tryz.underlying41 hi hz0 hz1 hz2 rfl (by omega) u10 j _ (by rfl) ((HW.out).drew) ⟨wp.heap.size, 0, none⟩ 1 1 [.int .i64 (Y : Int)] (by rfl) (by rfl) (World.news_of_block (cs := #[.int .i64 (Y : Int)]) (t := 2) (fr := (0, 0)) (heap_alloc_new wp _)) one_int (by omega) (by simp only [maxLen]; omega) (by omega) (by first | omega | (simp; omega)) (wp.heap.size + 1) (by simp) ?_; intro gg cap w3 hown1 hgrow hat hlt2; have HQ2 := Lib.hid (HN.out _ _ _ w3 HO2.out HB2.out (((Below.refl _ _).alloc (Nat.le_refl _) _).drew) hown1 hgrow); clear hown1 hgrow hat))
          all_goals
            go_wp2
            go_roundw
            case rel => exact HQ2.out
            case measure => first | (simp [intOf]; done) | (simp [intOf]; omega)
    · obtain rfl : k = T := by omega
      go_wp2
      go_ret
      exact ⟨rfl, by rw [HTT.out]; exact HK.out, hsk⟩
set_option maxHeartbeats 4000000 in
set_option maxRecDepth 100000 in
theorem allRowsB_n2 {I : Nat → World → Prop} {b1 b2 b3 : Nat} {A : Option Addr} {c B m C : Nat} {fs : List Int} (w : World) (hC : 1 ≤ C) (hC3 : C ≤ 3) (hb : bitsQ fs m = 2) (hCN : C * 2 ≤ 8) (hx : RdF w B A m fs) (hB : B ≤ w.heap.size) (hm : m ≤ 1099511627776)
    (hI0 : I 0 w) (hmono : ∀ k W W', I k W → Below W.heap.size W W' → I k W')
    (hstep : ∀ k, k < 2 ^ (C * 2) → ∀ W B' A' c', w.heap.size ≤ B' → I k W → OwnI W B' (.slice A' C c') (rowsOf C 2 k) → Calls Tryz.prog 75 #[.slice A' C c', .pointer (some ⟨b1, 0, none⟩), .pointer (some ⟨b2, 0, none⟩), .pointer (some ⟨b3, 0, none⟩)] W fun e w' => e = .returned (.tuple #[]) ∧ I (k + 1) w' ∧ W.heap.size ≤ w'.heap.size) :
    Calls Tryz.prog 70 #[.int .i64 (C : Int), .slice A m c, .func (Fn.func 75) #[] #[.pointer (some ⟨b1, 0, none⟩), .pointer (some ⟨b2, 0, none⟩), .pointer (some ⟨b3, 0, none⟩)]] w fun e w' => e = .returned (.bool true) ∧ I (2 ^ (C * 2)) w' ∧ w.heap.size ≤ w'.heap.size := by
  obtain ⟨i0, hi, hz0, hz1, hz2⟩ := info_parts infoI
  have HS := Lib.hid (src_any (c := c) w hx hB hm)
  unfold SrcRet at HS
  rw [hb] at HS
  have HST := Lib.hid hstep
  have HM := Lib.hid hmono
  have HI := Lib.hid hI0
  clear hx hstep hmono hI0 hb
  have hr : inR (C : Int) 1 3 = true := by simp [inR]; omega
  have HIR := Lib.hid (fun W => inRange_qb hr W)
  clear hr
  have hT : 2 ^ (C * 2) ≤ 256 := pow_le hCN
  have hT1 : wrap64 ((2 : Int) ^ (C * 2)) = ((2 ^ (C * 2) : Nat) : Int) := by
    rw [show (2 : Int) ^ (C * 2) = ((2 ^ (C * 2) : Nat) : Int) by simp]
    exact Nat32.wrap64_nat _ (by omega)
  go_enter Tryz.func70, Tryz.ntmps70
  go_wp2_with fail
  refine HS.out.mono ?_
  rintro e w1 ⟨d, rfl, hd, hb1⟩
  obtain rfl := hd (by decide)
  rw [show decide ((2 : Nat) ≠ 0) = true from rfl]
  have HI1 := Lib.hid (HM.out _ _ _ HI.out hb1)
  have hs1 := hb1.size
  clear hd hb1 HI
  go_wp2_with fail
  refine (HIR.out _).mono ?_
  rintro e w' ⟨rfl, rfl⟩
  go_wp2_with fail

  rw [hT1]
  generalize hTT : 2 ^ (C * 2) = T at *
  have HTT := Lib.hid hTT
  clear hTT hT1
  go_loopw [34] (fun iv wr => AlRel I T w.heap.size iv wr) (fun iv _ => T - (intOf iv).toNat)
  case atStart => exact ⟨0, Nat.zero_le _, rfl, HI1, hs1⟩
  case round =>
    obtain ⟨k, hk, rfl, HK, hsk⟩ := hrel
    obtain ⟨wo, rfl⟩ : ∃ x, x = wr := ⟨_, rfl⟩
    clear HI1 hs1 HS HIR
    by_cases hlt : k < T
    · have HQ := Lib.hid (RwRel.start C 2 k wo)
      go_wp2_with fail
      go_loopw [10, 11] (fun v iv wr => RwRel C 2 k wo v iv wr) (fun _ iv _ => (intOf iv + 1).toNat)
      case atStart => exact HQ.out
      case round =>
        obtain ⟨j, q, hjq, rfl, hO, hb⟩ := hrel
        obtain ⟨wp, rfl⟩ : ∃ x, x = wr := ⟨_, rfl⟩
        have HO2 := Lib.hid hO
        have HB2 := Lib.hid hb
        have hzp := hb.size
        clear hO hb HQ
        cases q with
        | zero =>
          obtain rfl : j = C := by omega
          have hO3 := HO2.out
          rw [List.take_of_length_le (by rw [rowsOf_len]; exact Nat.le_refl _)] at hO3
          obtain ⟨A', c', e', _⟩ := hO3.form
          rw [rowsOf_len] at e'
          subst e'
          have HC := Lib.hid (HST.out k hlt wp wo.heap.size A' c' hsk (HM.out k wo wp HK.out HB2.out) hO3)
          clear hO3 HST HK HB2 HO2
          rw [show (((0 : Nat) : Int) - 1) = -1 from rfl]
          go_wp2_with fail
          refine HC.out.mono ?_
          rintro e w2 ⟨rfl, hI2, hs2⟩
          have HI2 := Lib.hid hI2
          clear hI2 HC
          go_wp2
          go_roundw
          case rel => exact ⟨k + 1, hlt, by simp, HI2, by omega⟩
          case measure =>
            show T - (((k : Int) + 1)).toNat < T - ((k : Int)).toNat
            omega
        | succ q =>
          have HN := Lib.hid (fun v v' w1 w2 h1 h2 h3 h4 h5 => RwRel.next (C := C) (N := 2) (k := k) (w := wo) (wr := wp) (w1 := w1) (w2 := w2) (v := v) (v' := v') hjq h1 h2 h3 h4 h5)
          rw [show (((q + 1 : Nat) : Int) - 1) = (q : Int) by omega]
          have hlen : ((rowsOf C 2 k).take j).length = j := by rw [List.length_take, rowsOf_len]; omega
          obtain ⟨X, hX⟩ : ∃ X, X = k / 2 ^ (q * 2) := ⟨_, rfl⟩
          obtain ⟨Y, hY⟩ : ∃ Y, Y = X % 2 ^ 2 := ⟨_, rfl⟩
          have hX2 : X ≤ k := by rw [hX]; exact Nat.div_le_self _ _
          have hq60 : q * 2 ≤ 60 := by omega
          have hw2 : IntKind.i64.wrap ((q : Int) * 2) = ((q * 2 : Nat) : Int) := wr_at hq60
          have hsh := shr_at hX hq60
          have hand := and_at (n := 2) hY (show X ≤ 1000 by omega) (by decide)
          rw [show ((2 ^ 2 - 1 : Nat) : Int) = IntKind.i64.wrap (IntKind.i64.wrap 4 - 1) from by decide] at hand
          rw [← hw2] at hsh
          rw [← hX, ← hY] at HN
          have HYk : Y ≤ k := by rw [hY]; exact Nat.le_trans (Nat.mod_le _ _) hX2
          have hown := World.ownsRow.alloc HO2.out (.cells #[.int .i64 (Y : Int)] 2)
          rw [hlen] at hown
          have HW := Lib.hid hown
          clear hown hlen hX hY hw2 hq60
          go_wp2_with fail
          go_region_law ((refine step_append_lies _ (by rfl) _ _ _ (by rfl) wo.heap.size 2 i0 _ 1 8 Tryz.underlying41 hi hz0 hz1 hz2 rfl (by omega) u10 j _ (by rfl) ((HW.out).drew) ⟨wp.heap.size, 0, none⟩ 1 1 [.int .i64 (Y : Int)] (by rfl) (by rfl) (World.news_of_block (cs := #[.int .i64 (Y : Int)]) (t := 2) (fr := (0, 0)) (heap_alloc_new wp _)) one_int (by omega) (by simp only [maxLen]; omega) (by omega) (by first | omega | (simp; omega)) (wp.heap.size + 1) (by simp) ?_; intro gg cap w3 hown1 hgrow hat hlt2; have HQ2 := Lib.hid (HN.out _ _ _ w3 HO2.out HB2.out (((Below.refl _ _).alloc (Nat.le_refl _) _).drew) hown1 hgrow); clear hown1 hgrow hat))
          all_goals
            go_wp2
            go_roundw
            case rel => exact HQ2.out
            case measure => first | (simp [intOf]; done) | (simp [intOf]; omega)
    · obtain rfl : k = T := by omega
      go_wp2
      go_ret
      exact ⟨rfl, by rw [HTT.out]; exact HK.out, hsk⟩
set_option maxHeartbeats 4000000 in
set_option maxRecDepth 100000 in
theorem allRowsB_n3 {I : Nat → World → Prop} {b1 b2 b3 : Nat} {A : Option Addr} {c B m C : Nat} {fs : List Int} (w : World) (hC : 1 ≤ C) (hC3 : C ≤ 3) (hb : bitsQ fs m = 3) (hCN : C * 3 ≤ 8) (hx : RdF w B A m fs) (hB : B ≤ w.heap.size) (hm : m ≤ 1099511627776)
    (hI0 : I 0 w) (hmono : ∀ k W W', I k W → Below W.heap.size W W' → I k W')
    (hstep : ∀ k, k < 2 ^ (C * 3) → ∀ W B' A' c', w.heap.size ≤ B' → I k W → OwnI W B' (.slice A' C c') (rowsOf C 3 k) → Calls Tryz.prog 75 #[.slice A' C c', .pointer (some ⟨b1, 0, none⟩), .pointer (some ⟨b2, 0, none⟩), .pointer (some ⟨b3, 0, none⟩)] W fun e w' => e = .returned (.tuple #[]) ∧ I (k + 1) w' ∧ W.heap.size ≤ w'.heap.size) :
    Calls Tryz.prog 70 #[.int .i64 (C : Int), .slice A m c, .func (Fn.func 75) #[] #[.pointer (some ⟨b1, 0, none⟩), .pointer (some ⟨b2, 0, none⟩), .pointer (some ⟨b3, 0, none⟩)]] w fun e w' => e = .returned (.bool true) ∧ I (2 ^ (C * 3)) w' ∧ w.heap.size ≤ w'.heap.size := by
  obtain ⟨i0, hi, hz0, hz1, hz2⟩ := info_parts infoI
  have HS := Lib.hid (src_any (c := c) w hx hB hm)
  unfold SrcRet at HS
  rw [hb] at HS
  have HST := Lib.hid hstep
  have HM := Lib.hid hmono
  have HI := Lib.hid hI0
  clear hx hstep hmono hI0 hb
  have hr : inR (C : Int) 1 3 = true := by simp [inR]; omega
  have HIR := Lib.hid (fun W => inRange_qb hr W)
  clear hr
  have hT : 2 ^ (C * 3) ≤ 256 := pow_le hCN
  have hT1 : wrap64 ((2 : Int) ^ (C * 3)) = ((2 ^ (C * 3) : Nat) : Int) := by
    rw [show (2 : Int) ^ (C * 3) = ((2 ^ (C * 3) : Nat) : Int) by simp]
    exact Nat32.wrap64_nat _ (by omega)
  go_enter Tryz.func70, Tryz.ntmps70
  go_wp2_with fail
  refine HS.out.mono ?_
  rintro e w1 ⟨d, rfl, hd, hb1⟩
  obtain rfl := hd (by decide)
  rw [show decide ((3 : Nat) ≠ 0) = true from rfl]
  have HI1 := Lib.hid (HM.out _ _ _ HI.out hb1)
  have hs1 := hb1.size
  clear hd hb1 HI
  go_wp2_with fail
  refine (HIR.out _).mono ?_
  rintro e w' ⟨rfl, rfl⟩
  go_wp2_with fail

  rw [hT1]
  generalize hTT : 2 ^ (C * 3) = T at *
  have HTT := Lib.hid hTT
  clear hTT hT1
  go_loopw [34] (fun iv wr => AlRel I T w.heap.size iv wr) (fun iv _ => T - (intOf iv).toNat)
  case atStart => exact ⟨0, Nat.zero_le _, rfl, HI1, hs1⟩
  case round =>
    obtain ⟨k, hk, rfl, HK, hsk⟩ := hrel
    obtain ⟨wo, rfl⟩ : ∃ x, x = wr := ⟨_, rfl⟩
    clear HI1 hs1 HS HIR
    by_cases hlt : k < T
    · have HQ := Lib.hid (RwRel.start C 3 k wo)
      go_wp2_with fail
      go_loopw [10, 11] (fun v iv wr => RwRel C 3 k wo v iv wr) (fun _ iv _ => (intOf iv + 1).toNat)
      case atStart => exact HQ.out
      case round =>
        obtain ⟨j, q, hjq, rfl, hO, hb⟩ := hrel
        obtain ⟨wp, rfl⟩ : ∃ x, x = wr := ⟨_, rfl⟩
        have HO2 := Lib.hid hO
        have HB2 := Lib.hid hb
        have hzp := hb.size
        clear hO hb HQ
        cases q with
        | zero =>
          obtain rfl : j = C := by omega
          have hO3 := HO2.out
          rw [List.take_of_length_le (by rw [rowsOf_len]; exact Nat.le_refl _)] at hO3
          obtain ⟨A', c', e', _⟩ := hO3.form
          rw [rowsOf_len] at e'
          subst e'
          have HC := Lib.hid (HST.out k hlt wp wo.heap.size A' c' hsk (HM.out k wo wp HK.out HB2.out) hO3)
          clear hO3 HST HK HB2 HO2
          rw [show (((0 : Nat) : Int) - 1) = -1 from rfl]
          go_wp2_with fail
          refine HC.out.mono ?_
          rintro e w2 ⟨rfl, hI2, hs2⟩
          have HI2 := Lib.hid hI2
          clear hI2 HC
          go_wp2
          go_roundw
          case rel => exact ⟨k + 1, hlt, by simp, HI2, by omega⟩
          case measure =>
            show T - (((k : Int) + 1)).toNat < T - ((k : Int)).toNat
            omega
        | succ q =>
          have HN := Lib.hid (fun v v' w1 w2 h1 h2 h3 h4 h5 => RwRel.next (C := C) (N := 3) (k := k) (w := wo) (wr := wp) (w1 := w1) (w2 := w2) (v := v) (v' := v') hjq h1 h2 h3 h4 h5)
          rw [show (((q + 1 : Nat) : Int) - 1) = (q : Int) by omega]
          have hlen : ((rowsOf C 3 k).take j).length = j := by rw [List.length_take, rowsOf_len]; omega
          obtain ⟨X, hX⟩ : ∃ X, X = k / 2 ^ (q * 3) := ⟨_, rfl⟩
          obtain ⟨Y, hY⟩ : ∃ Y, Y = X % 2 ^ 3 := ⟨_, rfl⟩
          have hX2 : X ≤ k := by rw [hX]; exact Nat.div_le_self _ _
          have hq60 : q * 3 ≤ 60 := by omega
          have hw2 : IntKind.i64.wrap ((q : Int) * 3) = ((q * 3 : Nat) : Int) := wr_at hq60
          have hsh := shr_at hX hq60
          have hand := and_at (n := 3) hY (show X ≤ 1000 by omega) (by decide)
          rw [show ((2 ^ 3 - 1 : Nat) : Int) = IntKind.i64.wrap (IntKind.i64.wrap 8 - 1) from by decide] at hand
          rw [← hw2] at hsh
          rw [← hX, ← hY] at HN
          have HYk : Y ≤ k := by rw [hY]; exact Nat.le_trans (Nat.mod_le _ _) hX2
          have hown := World.ownsRow.alloc HO2.out (.cells #[.int .i64 (Y : Int)] 2)
          rw [hlen] at hown
          have HW := Lib.hid hown
          clear hown hlen hX hY hw2 hq60
          go_wp2_with fail
          go_region_law ((refine step_append_lies _ (by rfl) _ _ _ (by rfl) wo.heap.size 2 i0 _ 1 8 Tryz.underlying41 hi hz0 hz1 hz2 rfl (by omega) u10 j _ (by rfl) ((HW.out).drew) ⟨wp.heap.size, 0, none⟩ 1 1 [.int .i64 (Y : Int)] (by rfl) (by rfl) (World.news_of_block (cs := #[.int .i64 (Y : Int)]) (t := 2) (fr := (0, 0)) (heap_alloc_new wp _)) one_int (by omega) (by simp only [maxLen]; omega) (by omega) (by first | omega | (simp; omega)) (wp.heap.size + 1) (by simp) ?_; intro gg cap w3 hown1 hgrow hat hlt2; have HQ2 := Lib.hid (HN.out _ _ _ w3 HO2.out HB2.out (((Below.refl _ _).alloc (Nat.le_refl _) _).drew) hown1 hgrow); clear hown1 hgrow hat))
          all_goals
            go_wp2
            go_roundw
            case rel => exact HQ2.out
            case measure => first | (simp [intOf]; done) | (simp [intOf]; omega)
    · obtain rfl : k = T := by omega
      go_wp2
      go_ret
      exact ⟨rfl, by rw [HTT.out]; exact HK.out, hsk⟩
set_option maxHeartbeats 4000000 in
set_option maxRecDepth 100000 in
theorem allRowsB_n4 {I : Nat → World → Prop} {b1 b2 b3 : Nat} {A : Option Addr} {c B m C : Nat} {fs : List Int} (w : World) (hC : 1 ≤ C) (hC3 : C ≤ 3) (hb : bitsQ fs m = 4) (hCN : C * 4 ≤ 8) (hx : RdF w B A m fs) (hB : B ≤ w.heap.size) (hm : m ≤ 1099511627776)
    (hI0 : I 0 w) (hmono : ∀ k W W', I k W → Below W.heap.size W W' → I k W')
    (hstep : ∀ k, k < 2 ^ (C * 4) → ∀ W B' A' c', w.heap.size ≤ B' → I k W → OwnI W B' (.slice A' C c') (rowsOf C 4 k) → Calls Tryz.prog 75 #[.slice A' C c', .pointer (some ⟨b1, 0, none⟩), .pointer (some ⟨b2, 0, none⟩), .pointer (some ⟨b3, 0, none⟩)] W fun e w' => e = .returned (.tuple #[]) ∧ I (k + 1) w' ∧ W.heap.size ≤ w'.heap.size) :
    Calls Tryz.prog 70 #[.int .i64 (C : Int), .slice A m c, .func (Fn.func 75) #[] #[.pointer (some ⟨b1, 0, none⟩), .pointer (some ⟨b2, 0, none⟩), .pointer (some ⟨b3, 0, none⟩)]] w fun e w' => e = .returned (.bool true) ∧ I (2 ^ (C * 4)) w' ∧ w.heap.size ≤ w'.heap.size := by
  obtain ⟨i0, hi, hz0, hz1, hz2⟩ := info_parts infoI
  have HS := Lib.hid (src_any (c := c) w hx hB hm)
  unfold SrcRet at HS
  rw [hb] at HS
  have HST := Lib.hid hstep
  have HM := Lib.hid hmono
  have HI := Lib.hid hI0
  clear hx hstep hmono hI0 hb
  have hr : inR (C : Int) 1 3 = true := by simp [inR]; omega
  have HIR := Lib.hid (fun W => inRange_qb hr W)
  clear hr
  have hT : 2 ^ (C * 4) ≤ 256 := pow_le hCN
  have hT1 : wrap64 ((2 : Int) ^ (C * 4)) = ((2 ^ (C * 4) : Nat) : Int) := by
    rw [show (2 : Int) ^ (C * 4) = ((2 ^ (C * 4) : Nat) : Int) by simp]
    exact Nat32.wrap64_nat _ (by omega)
  go_enter Tryz.func70, Tryz.ntmps70
  go_wp2_with fail
  refine HS.out.mono ?_
  rintro e w1 ⟨d, rfl, hd, hb1⟩
  obtain rfl := hd (by decide)
  rw [show decide ((4 : Nat) ≠ 0) = true from rfl]
  have HI1 := Lib.hid (HM.out _ _ _ HI.out hb1)
  have hs1 := hb1.size
  clear hd hb1 HI
  go_wp2_with fail
  refine (HIR.out _).mono ?_
  rintro e w' ⟨rfl, rfl⟩
  go_wp2_with fail

  rw [hT1]
  generalize hTT : 2 ^ (C * 4) = T at *
  have HTT := Lib.hid hTT
  clear hTT hT1
  go_loopw [34] (fun iv wr => AlRel I T w.heap.size iv wr) (fun iv _ => T - (intOf iv).toNat)
  case atStart => exact ⟨0, Nat.zero_le _, rfl, HI1, hs1⟩
  case round =>
    obtain ⟨k, hk, rfl, HK, hsk⟩ := hrel
    obtain ⟨wo, rfl⟩ : ∃ x, x = wr := ⟨_, rfl⟩
    clear HI1 hs1 HS HIR
    by_cases hlt : k < T
    · have HQ := Lib.hid (RwRel.start C 4 k wo)
      go_wp2_with fail
      go_loopw [10, 11] (fun v iv wr => RwRel C 4 k wo v iv wr) (fun _ iv _ => (intOf iv + 1).toNat)
      case atStart => exact HQ.out
      case round =>
        obtain ⟨j, q, hjq, rfl, hO, hb⟩ := hrel
        obtain ⟨wp, rfl⟩ : ∃ x, x = wr := ⟨_, rfl⟩
        have HO2 := Lib.hid hO
        have HB2 := Lib.hid hb
        have hzp := hb.size
        clear hO hb HQ
        cases q with
        | zero =>
          obtain rfl : j = C := by omega
          have hO3 := HO2.out
          rw [List.take_of_length_le (by rw [rowsOf_len]; exact Nat.le_refl _)] at hO3
          obtain ⟨A', c', e', _⟩ := hO3.form
          rw [rowsOf_len] at e'
          subst e'
          have HC := Lib.hid (HST.out k hlt wp wo.heap.size A' c' hsk (HM.out k wo wp HK.out HB2.out) hO3)
          clear hO3 HST HK HB2 HO2
          rw [show (((0 : Nat) : Int) - 1) = -1 from rfl]
          go_wp2_with fail
          refine HC.out.mono ?_
          rintro e w2 ⟨rfl, hI2, hs2⟩
          have HI2 := Lib.hid hI2
          clear hI2 HC
          go_wp2
          go_roundw
          case rel => exact ⟨k + 1, hlt, by simp, HI2, by omega⟩
          case measure =>
            show T - (((k : Int) + 1)).toNat < T - ((k : Int)).toNat
            omega
        | succ q =>
          have HN := Lib.hid (fun v v' w1 w2 h1 h2 h3 h4 h5 => RwRel.next (C := C) (N := 4) (k := k) (w := wo) (wr := wp) (w1 := w1) (w2 := w2) (v := v) (v' := v') hjq h1 h2 h3 h4 h5)
          rw [show (((q + 1 : Nat) : Int) - 1) = (q : Int) by omega]
          have hlen : ((rowsOf C 4 k).take j).length = j := by rw [List.length_take, rowsOf_len]; omega
          obtain ⟨X, hX⟩ : ∃ X, X = k / 2 ^ (q * 4) := ⟨_, rfl⟩
          obtain ⟨Y, hY⟩ : ∃ Y, Y = X % 2 ^ 4 := ⟨_, rfl⟩
          have hX2 : X ≤ k := by rw [hX]; exact Nat.div_le_self _ _
          have hq60 : q * 4 ≤ 60 := by omega
          have hw2 : IntKind.i64.wrap ((q : Int) * 4) = ((q * 4 : Nat) : Int) := wr_at hq60
          have hsh := shr_at hX hq60
          have hand := and_at (n := 4) hY (show X ≤ 1000 by omega) (by decide)
          rw [show ((2 ^ 4 - 1 : Nat) : Int) = IntKind.i64.wrap (IntKind.i64.wrap 16 - 1) from by decide] at hand
          rw [← hw2] at hsh
          rw [← hX, ← hY] at HN
          have HYk : Y ≤ k := by rw [hY]; exact Nat.le_trans (Nat.mod_le _ _) hX2
          have hown := World.ownsRow.alloc HO2.out (.cells #[.int .i64 (Y : Int)] 2)
          rw [hlen] at hown
          have HW := Lib.hid hown
          clear hown hlen hX hY hw2 hq60
          go_wp2_with fail
          go_region_law ((refine step_append_lies _ (by rfl) _ _ _ (by rfl) wo.heap.size 2 i0 _ 1 8 Tryz.underlying41 hi hz0 hz1 hz2 rfl (by omega) u10 j _ (by rfl) ((HW.out).drew) ⟨wp.heap.size, 0, none⟩ 1 1 [.int .i64 (Y : Int)] (by rfl) (by rfl) (World.news_of_block (cs := #[.int .i64 (Y : Int)]) (t := 2) (fr := (0, 0)) (heap_alloc_new wp _)) one_int (by omega) (by simp only [maxLen]; omega) (by omega) (by first | omega | (simp; omega)) (wp.heap.size + 1) (by simp) ?_; intro gg cap w3 hown1 hgrow hat hlt2; have HQ2 := Lib.hid (HN.out _ _ _ w3 HO2.out HB2.out (((Below.refl _ _).alloc (Nat.le_refl _) _).drew) hown1 hgrow); clear hown1 hgrow hat))
          all_goals
            go_wp2
            go_roundw
            case rel => exact HQ2.out
            case measure => first | (simp [intOf]; done) | (simp [intOf]; omega)
    · obtain rfl : k = T := by omega
      go_wp2
      go_ret
      exact ⟨rfl, by rw [HTT.out]; exact HK.out, hsk⟩
end Go.Proofs.YtionognmgcabbaaGreat.AllI
/- The program over all lists of rows, for BestRows: for each number of bits. -/
namespace Go.Proofs.YtionognmgcabbaaGreat.AllI
open Go Go.RowKit Go.Proofs.YtionognmgcabbaaGreat Go.Proofs.YtionognmgcabbaaGreat.Base Go.Proofs.YtionognmgcabbaaGreat.Mem Go.Proofs.YtionognmgcabbaaGreat.MemF Go.Proofs.YtionognmgcabbaaGreat.ChM Go.Proofs.YtionognmgcabbaaGreat.Ratio Go.Proofs.YtionognmgcabbaaGreat.NextM
set_option linter.unusedVariables false
theorem allRowsB_any {I : Nat → World → Prop} {b1 b2 b3 : Nat} {A : Option Addr} {c B m C N : Nat} {fs : List Int} (w : World) (hC : 1 ≤ C) (hC3 : C ≤ 3) (hb : bitsQ fs m = N) (hN1 : 1 ≤ N) (hN4 : N ≤ 4) (hCN : C * N ≤ 8) (hx : RdF w B A m fs) (hB : B ≤ w.heap.size) (hm : m ≤ 1099511627776)
    (hI0 : I 0 w) (hmono : ∀ k W W', I k W → Below W.heap.size W W' → I k W')
    (hstep : ∀ k, k < 2 ^ (C * N) → ∀ W B' A' c', w.heap.size ≤ B' → I k W → OwnI W B' (.slice A' C c') (rowsOf C N k) → Calls Tryz.prog 75 #[.slice A' C c', .pointer (some ⟨b1, 0, none⟩), .pointer (some ⟨b2, 0, none⟩), .pointer (some ⟨b3, 0, none⟩)] W fun e w' => e = .returned (.tuple #[]) ∧ I (k + 1) w' ∧ W.heap.size ≤ w'.heap.size) :
    Calls Tryz.prog 70 #[.int .i64 (C : Int), .slice A m c, .func (Fn.func 75) #[] #[.pointer (some ⟨b1, 0, none⟩), .pointer (some ⟨b2, 0, none⟩), .pointer (some ⟨b3, 0, none⟩)]] w fun e w' => e = .returned (.bool true) ∧ I (2 ^ (C * N)) w' ∧ w.heap.size ≤ w'.heap.size := by
  have h4 : N = 1 ∨ N = 2 ∨ N = 3 ∨ N = 4 := by omega
  rcases h4 with rfl | rfl | rfl | rfl
  · rw [Nat.mul_one] at hstep hCN ⊢
    exact allRowsB_n1 w hC hC3 hb hCN hx hB hm hI0 hmono hstep
  · exact allRowsB_n2 w hC hC3 hb hCN hx hB hm hI0 hmono hstep
  · exact allRowsB_n3 w hC hC3 hb hCN hx hB hm hI0 hmono hstep
  · exact allRowsB_n4 w hC hC3 hb hCN hx hB hm hI0 hmono hstep
end Go.Proofs.YtionognmgcabbaaGreat.AllI
/- The program: the best rows. -/
namespace Go.Proofs.YtionognmgcabbaaGreat.Ratio
open Go.RowKit Go.Proofs.YtionognmgcabbaaGreat Go.Proofs.YtionognmgcabbaaGreat.Base Go.Proofs.YtionognmgcabbaaGreat.Mem Go.Proofs.YtionognmgcabbaaGreat.NatM Go.Proofs.YtionognmgcabbaaGreat.Nat32 Go.Proofs.YtionognmgcabbaaGreat.RatM Go.Proofs.YtionognmgcabbaaGreat.Blk Go.Proofs.YtionognmgcabbaaGreat.MemF Go.Proofs.YtionognmgcabbaaGreat.ChM Go.Proofs.YtionognmgcabbaaGreat.GaussM Go.Proofs.YtionognmgcabbaaGreat.ExtM Go.Proofs.YtionognmgcabbaaGreat.RowN Go.Proofs.YtionognmgcabbaaGreat.NextM Go.Proofs.YtionognmgcabbaaGreat.GiveM
open Go.Proofs.YtionognmgcabbaaGreat.Inv (natOf natOf_eq len_pos Rat3 not_slice not_bool frz)
set_option linter.unusedVariables false
/-- rows, a fraction and whether there are some -/
def BsRet (L : List Int) (P Q : Int) (ok : Bool) (w : World) (e : Ending) (w' : World) : Prop := ∃ A c, e = .returned (.tuple #[.slice A L.length c, .agg #[.int .i64 P, .int .i64 Q], .bool ok]) ∧ OwnI w' w.heap.size (.slice A L.length c) L ∧ Below w.heap.size w w'
theorem bs_none {w wq : World} {b : Nat} (hb : Below w.heap.size w wq) (hB : w.heap.size ≤ b) : BsRet [] 0 0 false w (.returned (.tuple #[.slice none 0 0, .agg #[.int .i64 0, .int .i64 0], .bool false])) ((wq.setCell ⟨b, 0, none⟩ (.int .i64 0)).setCell ⟨b, 1, none⟩ (.int .i64 0)) :=
  ⟨none, 0, rfl, World.ownsRow_nil _ _ _ _, (hb.setCell (p := ⟨b, 0, none⟩) hB _).setCell (p := ⟨b, 1, none⟩) hB _⟩
theorem okA_bs {t : Int} {fs : List Int} {n : Nat} (h : AllI.okA t fs n = false) : bsB t fs n = false := by unfold bsB; rw [h]; rfl
set_option maxHeartbeats 4000000 in
set_option maxRecDepth 100000 in
theorem implBest_any {A : Option Addr} {c B n : Nat} {fs : List Int} (t : Int) (w : World) (hy : RdF w B A n fs) (hB : B ≤ w.heap.size) (hn : n ≤ 1048576) :
    Calls Tryz.prog 30 #[.int .i64 t, .slice A n c] w (BsRet (bsL t fs n) (bsP t fs n) (bsD t fs n) (bsB t fs n) w) := by
  have hb0 : Below w.heap.size w (w.alloc (.cells #[.int .i64 0, .int .i64 0] 43)) := (Below.refl _ _).alloc (Nat.le_refl _) _
  have KR0 : Hid (Blk (w.alloc (.cells #[.int .i64 0, .int .i64 0] 43)) w.heap.size 43 #[.int .i64 0, .int .i64 0]) := Lib.hid (Blk.new w _ _)
  have HB0 := Lib.hid hb0
  have HY := Lib.hid ((hy.below hb0 hB).more (Nat.le_trans hB hb0.size))
  clear hy hb0
  cases h : AllI.okA t fs n with
  | false =>
    have hb := okA_bs h
    obtain ⟨e1, e2, e3⟩ := bs_no hb
    rw [e1, e2, e3, hb]
    clear e1 e2 e3 hb
    have HOK := Lib.hid h
    clear h
    have HRS := Lib.hid (fun W (hb : Below (w.alloc (.cells #[.int .i64 0, .int .i64 0] 43)).heap.size (w.alloc (.cells #[.int .i64 0, .int .i64 0] 43)) W) => ratios_wild (c := c) W (HY.out.below hb (Nat.le_refl _)) hb.size hn)
    go_enter Tryz.func30, Tryz.ntmps30
    go_wp2_with fail
    refine (whole_rt 0 0 (by decide) ⟨rfl, rfl, by decide⟩ _).mono ?_
    rintro e w1 ⟨v, rfl, hv0, hb1⟩
    obtain ⟨s, A1, k1, c1, A2, k2, c2, rfl, hv⟩ := hv0.open
    have HB1 := Lib.hid (Base.Below.nextA HB0.out hb1)
    have HG1 := Lib.hid hb1
    have KR1 := Lib.hid (KR0.out.belowS hb1)
    have HR1 := Lib.hid (HRS.out _ hb1)
    have HYw := Lib.hid (HY.out.below hb1 (Nat.le_refl _))
    have HV1 := Lib.hid hv
    have hs1 := hb1.size
    clear hb1 hv0 hv HRS
    go_wp2_with fail
    refine HR1.out.mono ?_
    rintro e w2 ⟨u, cs, rfl, ho, hb2⟩
    obtain ⟨A3, c3, rfl, hA3⟩ := ownsRow_form ho
    have HB2 := Lib.hid (Base.Below.nextA HB1.out hb2)
    have HG2 := Lib.hid (Base.Below.nextA HG1.out hb2)
    have KR2 := Lib.hid (KR1.out.belowS hb2)
    have HY2 := Lib.hid ((HYw.out.below hb2 hs1))
    have HV2 := Lib.hid (HV1.out.below hb2)
    have hs2 := hb2.size
    skip
    clear ho hb2 HR1 HB1 KR1 HYw HV1
    go_upto_region 2 with (fail)
    obtain ⟨W3, hW3⟩ : ∃ W3, W3 = ((w2.alloc (.cells #[.slice none 0 0] 41)).alloc (.cells #[.bool s, .slice A1 k1 c1, .slice A2 k2 c2] 87)).alloc (.cells #[.slice A3 n c3] 89) := ⟨_, rfl⟩
    rw [← hW3]
    obtain ⟨g, hg⟩ : ∃ g, g = w2.heap.size := ⟨_, rfl⟩
    rw [← hg]
    have hb3 : Below w2.heap.size w2 W3 := by rw [hW3]; exact (((Below.refl _ _).alloc (Nat.le_refl _) _).alloc (by simp) _).alloc (by simp; omega) _
    have hs3 := hb3.size
    have HB3 := Lib.hid (Base.Below.nextA HB2.out hb3)
    have HG3 := Lib.hid (Base.Below.nextA HG2.out hb3)
    have KR3 := Lib.hid (KR2.out.belowS hb3)
    have HY3 := Lib.hid (HY2.out.below hb3 (by omega))
    have HN := Lib.hid (AllI.allRows_no (c := c) (t := t) (fv := .func (Fn.func 75) #[] #[.pointer (some ⟨g + 1 + 1, 0, none⟩), .pointer (some ⟨g, 0, none⟩), .pointer (some ⟨g + 1, 0, none⟩)]) W3 HY3.out (by omega) (by omega) HOK.out)
    clear hW3 hg hb3 HOK HB2 KR2 HY2 HV2 HY3
    go_wp2_with fail
    refine HN.out.mono ?_
    rintro e w4 ⟨rfl, hb4⟩
    have KRq := KR3.out.belowS hb4
    have HBq := Base.Below.nextA HB3.out hb4
    clear hb4 HN HB3 KR3
    have z0 := (KRq).frz 0
    have z1 := (KRq).frz 1
    have c0 := (KRq).at 0 (v := .int .i64 0) rfl
    have c1 := (KRq).at 1 (v := .int .i64 0) rfl
    have HFIN := Lib.hid (bs_none HBq (Nat.le_refl _))
    have SS := ((KRq).setTo 0 (.int .i64 0) rfl).setTo 1 (.int .i64 0) rfl
    have s0 := SS.at 0 rfl
    have s1 := SS.at 1 rfl
    clear SS
    go_wp2
    refine bodyPost_ret (v := .tuple #[.slice none 0 0, .agg #[.int .i64 0, .int .i64 0], .bool false]) (by simp [results, Tryz.results30, go_sem, s0, s1]) rfl ?_
    exact HFIN.out
  | true =>
    obtain ⟨C, rfl, hC1, hC3, hN1, hCN⟩ := AllI.okA_yes h
    have hch := bits_ch hN1
    obtain ⟨_, h16⟩ := chB_range hch
    have hv : AllVF fs n := vfAll_true.1 (by
      cases hvf : vfAll fs n with
      | true => rfl
      | false => rw [chB_vf hvf] at hch; cases hch)
    have hT : 2 ^ (C * bitsQ fs n) ≤ 256 := pow_le hCN
    have hN4 := AllI.bits_le fs n
    have hT1 : 1 ≤ 2 ^ (C * bitsQ fs n) := Nat.pow_pos (by decide)
    have HQ : Hid (bsQ (C : Int) fs n = bst (farC C (bitsQ fs n) fs n) (2 ^ (C * bitsQ fs n))) := Lib.hid (by unfold bsQ avT; rw [Int.toNat_natCast])
    have HFQ : Hid (bsF (C : Int) fs n = farC C (bitsQ fs n) fs n (bst (farC C (bitsQ fs n) fs n) (2 ^ (C * bitsQ fs n)))) := Lib.hid (by unfold bsF; rw [HQ.out, Int.toNat_natCast])
    have HBB : Hid (bsB (C : Int) fs n = smallQ (farC C (bitsQ fs n) fs n (bst (farC C (bitsQ fs n) fs n) (2 ^ (C * bitsQ fs n))))) := Lib.hid (by unfold bsB; rw [h, HFQ.out]; rfl)
    have HNO := Lib.hid (fun hs : smallQ (farC C (bitsQ fs n) fs n (bst (farC C (bitsQ fs n) fs n) (2 ^ (C * bitsQ fs n)))) = false => bs_no (HBB.out.trans hs))
    have HYE : Hid (smallQ (farC C (bitsQ fs n) fs n (bst (farC C (bitsQ fs n) fs n) (2 ^ (C * bitsQ fs n)))) = true → bsL (C : Int) fs n = rowsOf C (bitsQ fs n) (bst (farC C (bitsQ fs n) fs n) (2 ^ (C * bitsQ fs n))) ∧ bsP (C : Int) fs n = numQ (farC C (bitsQ fs n) fs n (bst (farC C (bitsQ fs n) fs n) (2 ^ (C * bitsQ fs n)))) ∧ bsD (C : Int) fs n = denQ (farC C (bitsQ fs n) fs n (bst (farC C (bitsQ fs n) fs n) (2 ^ (C * bitsQ fs n))))) := Lib.hid (fun hs => by
      obtain ⟨a1, a2, a3⟩ := bs_yes (HBB.out.trans hs)
      rw [a1, a2, a3, HFQ.out, HQ.out, Int.toNat_natCast]
      exact ⟨rfl, rfl, rfl⟩)
    clear h hch HQ HFQ
    generalize bsL (C : Int) fs n = L at *
    generalize bsP (C : Int) fs n = P at *
    generalize bsD (C : Int) fs n = Q at *
    generalize bsB (C : Int) fs n = ok at *
    have HRS := Lib.hid (fun W (hb : Below (w.alloc (.cells #[.int .i64 0, .int .i64 0] 43)).heap.size (w.alloc (.cells #[.int .i64 0, .int .i64 0] 43)) W) => ratios_any (c := c) W (HY.out.below hb (Nat.le_refl _)) hb.size hv (by omega))
    go_enter Tryz.func30, Tryz.ntmps30
    go_wp2_with fail
    refine (whole_rt 0 0 (by decide) ⟨rfl, rfl, by decide⟩ _).mono ?_
    rintro e w1 ⟨v, rfl, hv0, hb1⟩
    obtain ⟨s, A1, k1, c1, A2, k2, c2, rfl, hv⟩ := hv0.open
    have HB1 := Lib.hid (Base.Below.nextA HB0.out hb1)
    have HG1 := Lib.hid hb1
    have KR1 := Lib.hid (KR0.out.belowS hb1)
    have HR1 := Lib.hid (HRS.out _ hb1)
    have HYw := Lib.hid (HY.out.below hb1 (Nat.le_refl _))
    have HV1 := Lib.hid hv
    have hs1 := hb1.size
    clear hb1 hv0 hv HRS
    go_wp2_with fail
    refine HR1.out.mono ?_
    rintro e w2 ⟨u, cs, rfl, ho, hb2⟩
    obtain ⟨A3, c3, rfl, hA3⟩ := ho.form
    have HB2 := Lib.hid (Base.Below.nextA HB1.out hb2)
    have HG2 := Lib.hid (Base.Below.nextA HG1.out hb2)
    have KR2 := Lib.hid (KR1.out.belowS hb2)
    have HY2 := Lib.hid ((HYw.out.below hb2 hs1))
    have HV2 := Lib.hid (HV1.out.below hb2)
    have hs2 := hb2.size
    have HRD := Lib.hid ho.rd
    clear ho hb2 HR1 HB1 KR1 HYw HV1
    go_upto_region 2 with (fail)
    obtain ⟨W3, hW3⟩ : ∃ W3, W3 = ((w2.alloc (.cells #[.slice none 0 0] 41)).alloc (.cells #[.bool s, .slice A1 k1 c1, .slice A2 k2 c2] 87)).alloc (.cells #[.slice A3 n c3] 89) := ⟨_, rfl⟩
    rw [← hW3]
    obtain ⟨g, hg⟩ : ∃ g, g = w2.heap.size := ⟨_, rfl⟩
    rw [← hg]
    have hb3 : Below w2.heap.size w2 W3 := by rw [hW3]; exact (((Below.refl _ _).alloc (Nat.le_refl _) _).alloc (by simp) _).alloc (by simp; omega) _
    have hs3 := hb3.size
    have HB3 := Lib.hid (Base.Below.nextA HB2.out hb3)
    have HG3 := Lib.hid (Base.Below.nextA HG2.out hb3)
    have KR3 := Lib.hid (KR2.out.belowS hb3)
    have HY3 := Lib.hid (HY2.out.below hb3 (by omega))
    have HA3 := Lib.hid (fun a (e : A3 = some a) => show a.block ≠ g + 1 ∧ a.block ≠ g by
      rcases Nat.eq_zero_or_pos n with h0 | h0
      · omega
      · obtain ⟨g', e', _, hlt⟩ := hA3 h0
        rw [e'] at e
        injection e with e
        subst e
        exact ⟨by show g' ≠ g + 1; omega, by show g' ≠ g; omega⟩)
    have HI0 : Hid (BsJ (w.alloc (.cells #[.int .i64 0, .int .i64 0] 43)) W3.heap.size g (g + 1) (g + 1 + 1) n c3 C (bitsQ fs n) A3 fs (farC C (bitsQ fs n) fs n) 0 W3) := Lib.hid ⟨.slice none 0 0, s, A1, k1, c1, A2, k2, c2, by
        rw [hW3, hg]; exact ((Blk.new w2 _ _).alloc _).alloc _, .inl ⟨rfl, rfl⟩, by
        rw [hW3, hg]
        have := (Blk.new (w2.alloc (.cells #[.slice none 0 0] 41)) 87 #[.bool s, .slice A1 k1 c1, .slice A2 k2 c2]).alloc (.cells #[.slice A3 n c3] 89)
        rw [World.size_alloc] at this
        exact this, fun h => absurd h (Nat.lt_irrefl 0), by
        rw [hW3, hg]
        have := Blk.new ((w2.alloc (.cells #[.slice none 0 0] 41)).alloc (.cells #[.bool s, .slice A1 k1 c1, .slice A2 k2 c2] 87)) 89 #[.slice A3 n c3]
        rw [World.size_alloc, World.size_alloc] at this
        exact this, HRD.out.below hb3, HG3.out⟩
    have hgw : (w.alloc (.cells #[.int .i64 0, .int .i64 0] 43)).heap.size ≤ g := by rw [hg]; exact HG2.out.size
    have hW3s : W3.heap.size = g + 1 + 1 + 1 := by rw [hW3, hg]; simp
    have HRI := Lib.hid (AllI.allRowsB_any (c := c) (C := C) (N := bitsQ fs n) (b1 := g + 1 + 1) (b2 := g) (b3 := g + 1) (I := fun k W => BsJ (w.alloc (.cells #[.int .i64 0, .int .i64 0] 43)) W3.heap.size g (g + 1) (g + 1 + 1) n c3 C (bitsQ fs n) A3 fs (farC C (bitsQ fs n) fs n) k W) W3 hC1 hC3 rfl hN1 hN4 hCN HY3.out (by omega) (by omega) HI0.out (fun k W W' h hb => h.mono hb)
      (fun k hk W B' A' c' hB' hI ho => bestC_any (c := c3) (c' := c') (C := C) (N := bitsQ fs n) W hI (by omega) (by omega) (by omega) (by omega) (by omega) (by omega) (by omega) (by omega) HA3.out (ownsRow_base ho hB') hC1 hC3 hN4 hv h16))
    have hwW3 := HB3.out.size
    clear hW3 hg hb3 HB2 KR2 HY2 HV2 HY3 HI0 HRD
    generalize 2 ^ (C * bitsQ fs n) = T at *
    generalize farC C (bitsQ fs n) fs n = f at *
    go_wp2_with fail
    refine HRI.out.mono ?_
    rintro e w4 ⟨rfl, hJ, hs4⟩
    obtain ⟨vb, s, B1, j1, d1, B2, j2, d2, hJ⟩ := hJ
    obtain ⟨gr, cb, hvb, hrow⟩ : ∃ gr cb, vb = .slice (some ⟨gr, 0, none⟩) C cb ∧ OwnI w4 W3.heap.size (.slice (some ⟨gr, 0, none⟩) C cb) (rowsOf C (bitsQ fs n) (bst f T)) := by
      rcases hJ.rows with ⟨h0, _⟩ | ⟨_, gr, cb, h1, h2⟩
      · omega
      · exact ⟨gr, cb, h1, h2⟩
    subst hvb
    have KB := Lib.hid hJ.best
    have HROW := Lib.hid hrow
    have hwlt : w.heap.size < W3.heap.size := by
      have := hgw
      rw [World.size_alloc] at this
      omega
    have KR4 := Lib.hid (KR0.out.belowS hJ.below)
    have HB4 := Lib.hid (Base.Below.nextA HB0.out hJ.below)
    have HF := Lib.hid (ratFraction w4 (hJ.is (by omega)))
    have x0 := hJ.least.at 0 (v := .bool s) rfl
    have x1 := hJ.least.at 1 (v := .slice B1 j1 d1) rfl
    have x2 := hJ.least.at 2 (v := .slice B2 j2 d2) rfl
    clear hJ hrow HRI KR3 HB3 HG1 HG2 HG3 KR0 HB0 HY HA3
    generalize f (bst f T) = q at *
    have hRl : (rowsOf C (bitsQ fs n) (bst f T)).length = C := rowsOf_len _ _ _
    generalize rowsOf C (bitsQ fs n) (bst f T) = R at *
    have HNO2 := Lib.hid (fun hs => And.intro (HNO.out hs) (HBB.out.trans hs))
    have HYE2 := Lib.hid (fun hs => And.intro (HYE.out hs) (HBB.out.trans hs))
    clear HNO HYE HBB
    generalize numQ q = p1 at *
    generalize denQ q = p2 at *
    generalize smallQ q = sm at *
    go_wp2_with fail
    clear x0 x1 x2
    refine HF.out.mono ?_
    rintro e w5 ⟨rfl, hb5⟩
    obtain ⟨W6, hW6⟩ : ∃ W6, W6 = w5.alloc (.cells #[.int .i64 p1, .int .i64 p2] 43) := ⟨_, rfl⟩
    have hb6 : Below w5.heap.size w5 W6 := by rw [hW6]; exact (Below.refl _ _).alloc (Nat.le_refl _) _
    have hb56 := Base.Below.nextA hb5 hb6
    have KRq := KR4.out.belowS hb56
    have HBq := Base.Below.nextA HB4.out hb56
    have KB6 := Lib.hid (KB.out.belowS hb56)
    have HR6 := Lib.hid (OwnI.below HROW.out hb56)
    have KX : Hid (Blk W6 w5.heap.size 43 #[.int .i64 p1, .int .i64 p2]) := Lib.hid (by rw [hW6]; exact Blk.new w5 _ _)
    have HW6 := Lib.hid hW6
    clear hW6 hb6 hb56 hb5 KR4 HB4 KB HROW HF
    go_upto_region 5 with (fail)
    rw [← HW6.out]
    cases sm with
    | false =>
      obtain ⟨⟨e1, e2, e3⟩, e4⟩ := HNO2.out rfl
      subst e1 e2 e3 e4
      clear HNO2 HYE2 KB6 HR6 KX HW6
      have z0 := (KRq).frz 0
      have z1 := (KRq).frz 1
      have c0 := (KRq).at 0 (v := .int .i64 0) rfl
      have c1 := (KRq).at 1 (v := .int .i64 0) rfl
      have HFIN := Lib.hid (bs_none HBq (Nat.le_refl _))
      have SS := ((KRq).setTo 0 (.int .i64 0) rfl).setTo 1 (.int .i64 0) rfl
      have s0 := SS.at 0 rfl
      have s1 := SS.at 1 rfl
      clear SS
      go_wp2
      refine bodyPost_ret (v := .tuple #[.slice none 0 0, .agg #[.int .i64 0, .int .i64 0], .bool false]) (by simp [results, Tryz.results30, go_sem, s0, s1]) rfl ?_
      exact HFIN.out
    | true =>
      obtain ⟨⟨e1, e2, e3⟩, e4⟩ := HYE2.out rfl
      subst e1 e2 e3 e4
      have z0 := (KRq).frz 0
      have z1 := (KRq).frz 1
      have c0' := (KRq).at 0 (v := .int .i64 0) rfl
      have c1' := (KRq).at 1 (v := .int .i64 0) rfl
      have y0 := KX.out.at 0 (v := .int .i64 P) rfl
      have y1 := KX.out.at 1 (v := .int .i64 Q) rfl
      have b0 := KB6.out.at 0 (v := .slice (some ⟨gr, 0, none⟩) C cb) rfl
      have HFIN : Hid (BsRet L P Q true w (.returned (.tuple #[.slice (some ⟨gr, 0, none⟩) C cb, .agg #[.int .i64 P, .int .i64 Q], .bool true])) ((W6.setCell ⟨w.heap.size, 0, none⟩ (.int .i64 P)).setCell ⟨w.heap.size, 1, none⟩ (.int .i64 Q)).drew) := Lib.hid (by
        have h1 := ownsRow_setCell_below HR6.out (a := ⟨w.heap.size, 0, none⟩) hwlt (.int .i64 P)
        have h2 := ownsRow_setCell_below h1 (a := ⟨w.heap.size, 1, none⟩) hwlt (.int .i64 Q)
        have h3 := ownsRow_base h2 (Nat.le_of_lt hwlt)
        refine ⟨some ⟨gr, 0, none⟩, cb, by rw [hRl], ?_, ((HBq.setCell (p := ⟨w.heap.size, 0, none⟩) (Nat.le_refl _) _).setCell (p := ⟨w.heap.size, 1, none⟩) (Nat.le_refl _) _).drew⟩
        rw [hRl]
        exact OwnI.below h3 ((Below.refl _ _).drew))
      have SS := ((KRq).setTo 0 (.int .i64 P) rfl).setTo 1 (.int .i64 Q) rfl
      have s0 := SS.at 0 rfl
      have s1 := SS.at 1 rfl
      clear SS HNO2 HYE2 HR6 KB6 KX HW6
      go_wp2_with fail
      go_region
      all_goals
        go_wp2
        refine bodyPost_ret (v := .tuple #[.slice (some ⟨gr, 0, none⟩) C cb, .agg #[.int .i64 P, .int .i64 Q], .bool true]) (by simp [results, Tryz.results30, go_sem, s0, s1]) rfl ?_
        exact HFIN.out
end Go.Proofs.YtionognmgcabbaaGreat.Ratio
/- The reference's small fractions: products. -/
namespace Go.Proofs.YtionognmgcabbaaGreat.Fine
open Go.RowKit Go.Proofs.YtionognmgcabbaaGreat Go.Proofs.YtionognmgcabbaaGreat.Base Go.Proofs.YtionognmgcabbaaGreat.Mem Go.Proofs.YtionognmgcabbaaGreat.RatM Go.Proofs.YtionognmgcabbaaGreat.Two Go.Proofs.YtionognmgcabbaaGreat.Blk
set_option linter.unusedVariables false
/-- the rational of a result, if it is small -/
def FRet (q : Rat) (w : World) (e : Ending) (w' : World) : Prop := e = .returned (.tuple #[.agg #[.int .i64 (numQ q), .int .i64 (denQ q)], .bool (smallQ q)]) ∧ Below w.heap.size w w'
theorem mul_parts {n1 d1 n2 d2 : Int} (h1 : VF n1 d1) (h2 : VF n2 d2) :
    ∃ N1 N2 : Int, ∃ D1 D2 : Nat, lowV n1 d2.toNat = .agg #[.int .i64 N1, .int .i64 (D2 : Int)] ∧ lowV n2 d1.toNat = .agg #[.int .i64 N2, .int .i64 (D1 : Int)] ∧
      -1000000000000000000 ≤ N1 ∧ N1 ≤ 1000000000000000000 ∧ -1000000000000000000 ≤ N2 ∧ N2 ≤ 1000000000000000000 ∧ D1 ≤ 1000000000000000000 ∧ D2 ≤ 1000000000000000000 ∧
      (qf n1 d1 * qf n2 d2).num.natAbs = N1.natAbs * N2.natAbs ∧ (qf n1 d1 * qf n2 d2).den = D2 * D1 ∧
      (decide (N1 < 0) = decide (N2 < 0) → (qf n1 d1 * qf n2 d2).num = ((N1.natAbs * N2.natAbs : Nat) : Int)) ∧ (decide (N1 < 0) ≠ decide (N2 < 0) → (qf n1 d1 * qf n2 d2).num = -((N1.natAbs * N2.natAbs : Nat) : Int)) := by
  obtain ⟨a1, a2, a3, a4, a5⟩ := h1
  obtain ⟨b1, b2, b3, b4, b5⟩ := h2
  have hd1 : 0 < d1.toNat := by omega
  have hd2 : 0 < d2.toNat := by omega
  have p1 : 0 < Nat.gcd n1.natAbs d2.toNat := Nat.gcd_pos_of_pos_right _ hd2
  have p2 : 0 < Nat.gcd n2.natAbs d1.toNat := Nat.gcd_pos_of_pos_right _ hd1
  obtain ⟨_, q1, s1⟩ := exact_div (Nat.gcd_dvd_left n1.natAbs d2.toNat) p1
  obtain ⟨_, q2, s2⟩ := exact_div (Nat.gcd_dvd_left n2.natAbs d1.toNat) p2
  have hc := prod_cop hd1 hd2 a5 b5
  have hv := prod_val (decide (n1 < 0) != decide (n2 < 0)) (n1 := n1.natAbs) (n2 := n2.natAbs) hd1 hd2
  have hm := qv_mul (decide (n1 < 0)) (decide (n2 < 0)) (n := n1.natAbs) (n' := n2.natAbs) (d := d1.toNat) (d' := d2.toNat) (by omega) (by omega)
  have hne : d2.toNat / Nat.gcd n1.natAbs d2.toNat * (d1.toNat / Nat.gcd n2.natAbs d1.toNat) ≠ 0 := by
    refine Nat.mul_ne_zero ?_ ?_
    · exact Nat.ne_of_gt (Nat.div_pos (Nat.gcd_le_right _ hd2) p1)
    · exact Nat.ne_of_gt (Nat.div_pos (Nat.gcd_le_right _ hd1) p2)
  have e : qf n1 d1 * qf n2 d2 = qv (decide (n1 < 0) != decide (n2 < 0)) (n1.natAbs / Nat.gcd n1.natAbs d2.toNat * (n2.natAbs / Nat.gcd n2.natAbs d1.toNat)) (d2.toNat / Nat.gcd n1.natAbs d2.toNat * (d1.toNat / Nat.gcd n2.natAbs d1.toNat)) := by
    rw [hv, hm]; rfl
  obtain ⟨l1, l2⟩ := low_of (s := decide (n1 < 0) != decide (n2 < 0)) hne hc
  have l0 := (own_num (s := decide (n1 < 0) != decide (n2 < 0)) hne hc).1
  refine ⟨_, _, d1.toNat / Nat.gcd n2.natAbs d1.toNat, d2.toNat / Nat.gcd n1.natAbs d2.toNat, rfl, rfl, ?_, ?_, ?_, ?_, ?_, ?_, ?_, ?_, ?_, ?_⟩
  · have := Nat.div_le_self n1.natAbs (Nat.gcd n1.natAbs d2.toNat); omega
  · have := Nat.div_le_self n1.natAbs (Nat.gcd n1.natAbs d2.toNat); omega
  · have := Nat.div_le_self n2.natAbs (Nat.gcd n2.natAbs d1.toNat); omega
  · have := Nat.div_le_self n2.natAbs (Nat.gcd n2.natAbs d1.toNat); omega
  · have := Nat.div_le_self d1.toNat (Nat.gcd n2.natAbs d1.toNat); omega
  · have := Nat.div_le_self d2.toNat (Nat.gcd n1.natAbs d2.toNat); omega
  · rw [e, l0, q1, q2]
  · rw [e, l2]
  · intro hs
    rw [e, l1, q1, q2]
    simp only [s1, s2] at hs
    rw [hs, bne_self_eq_false]; rfl
  · intro hs
    rw [e, l1, q1, q2]
    simp only [s1, s2] at hs
    have : (decide (n1 < 0) != decide (n2 < 0)) = true := by simpa using hs
    rw [this]; rfl
theorem smallE (t : Nat) : ∃ (i : Int) (b : Bool), b = decide (t ≤ 1000000000000000000) ∧ (b = true → i = (t : Int)) ∧ Hid (∀ w, Calls Tryz.prog 170 #[two t] w fun e w' => e = .returned (.tuple #[.int .i64 i, .bool b]) ∧ Below w.heap.size w w') :=
  ⟨_, _, rfl, fun h => by rw [if_pos (of_decide_eq_true h)], Lib.hid (fun w => small_any t w)⟩
set_option maxHeartbeats 4000000 in
set_option maxRecDepth 100000 in
theorem fMul_any {n1 d1 n2 d2 : Int} (h1 : VF n1 d1) (h2 : VF n2 d2) (w : World) : Calls Tryz.prog 132 #[.agg #[.int .i64 n1, .int .i64 d1], .agg #[.int .i64 n2, .int .i64 d2]] w (FRet (qf n1 d1 * qf n2 d2) w) := by
  obtain ⟨N1, N2, D1, D2, ea, eb, r1, r2, r3, r4, r5, r6, hnum, hden, hsame, hdiff⟩ := mul_parts h1 h2
  have HM1 := Lib.hid (fun W => fMakeG n1 d2.toNat h1.2.2.1 h1.2.2.2.1 (by have := h2.1; omega) (by have := h2.2.1; omega) W)
  have HM2 := Lib.hid (fun W => fMakeG n2 d1.toNat h2.2.2.1 h2.2.2.2.1 (by have := h1.1; omega) (by have := h1.2.1; omega) W)
  rw [ea, show ((d2.toNat : Nat) : Int) = d2 by have := h2.1; omega] at HM1
  rw [eb, show ((d1.toNat : Nat) : Int) = d1 by have := h1.1; omega] at HM2
  have HX1 := Lib.hid (fun W => maxG N1 r1 r2 W)
  have HX2 := Lib.hid (fun W => maxG N2 r3 r4 W)
  have HT1 := Lib.hid (fun W => times_any N1.natAbs N2.natAbs (by omega) (by omega) W)
  have HT2 := Lib.hid (fun W => times_any D2 D1 r6 r5 W)
  obtain ⟨i1, b1, f1, f2, HS1⟩ := smallE (N1.natAbs * N2.natAbs)
  obtain ⟨i2, b2, f3, f4, HS2⟩ := smallE (D2 * D1)
  rw [← hnum] at HT1 HS1 f1 f2
  rw [← hden] at HT2 HS2 f3 f4
  have hend : (b1 = false ∨ b2 = false → smallQ (qf n1 d1 * qf n2 d2) = false ∧ numQ (qf n1 d1 * qf n2 d2) = 0 ∧ denQ (qf n1 d1 * qf n2 d2) = 0) ∧ (b1 = true → b2 = true → smallQ (qf n1 d1 * qf n2 d2) = true ∧ (decide (N1 < 0) = decide (N2 < 0) → numQ (qf n1 d1 * qf n2 d2) = i1) ∧ (decide (N1 < 0) ≠ decide (N2 < 0) → numQ (qf n1 d1 * qf n2 d2) = -i1) ∧ denQ (qf n1 d1 * qf n2 d2) = i2 ∧ 0 ≤ i1 ∧ i1 ≤ 1000000000000000000) := by
    refine ⟨fun h => small_no ?_, fun e1 e2 => ?_⟩
    · rcases h with h | h
      · rw [f1] at h; exact .inl (of_decide_eq_false h)
      · rw [f3] at h; exact .inr (of_decide_eq_false h)
    · have k1 := f2 e1
      have k2 := f4 e2
      rw [f1] at e1
      rw [f3] at e2
      obtain ⟨g1, g2, g3⟩ := small_yes (of_decide_eq_true e1) (of_decide_eq_true e2)
      have := of_decide_eq_true e1
      refine ⟨g1, fun hs => ?_, fun hs => ?_, by rw [g3, k2], by omega, by omega⟩
      · rw [g2, hsame hs, k1, hnum]
      · rw [g2, hdiff hs, k1, hnum]
  have HEnd := Lib.hid hend
  clear f1 f2 f3 f4 hend
  have g1 : -1000000000000000000 ≤ n1 ∧ n1 ≤ 1000000000000000000 := ⟨h1.2.2.1, h1.2.2.2.1⟩
  clear h1 h2 ea eb hnum hden hsame hdiff
  generalize qf n1 d1 * qf n2 d2 = q at *
  generalize N1.natAbs = A1 at *
  generalize N2.natAbs = A2 at *
  obtain ⟨W3, hW3⟩ : ∃ W3, W3 = ((w.alloc (.cells #[.int .i64 n1, .int .i64 d1] 43)).alloc (.cells #[.int .i64 n2, .int .i64 d2] 43)).alloc (.cells #[.int .i64 0, .int .i64 0] 43) := ⟨_, rfl⟩
  have K0 : Hid (Blk W3 w.heap.size 43 #[.int .i64 n1, .int .i64 d1]) := Lib.hid (by rw [hW3]; exact ((Blk.new w _ _).alloc _).alloc _)
  have K1 : Hid (Blk W3 (w.heap.size + 1) 43 #[.int .i64 n2, .int .i64 d2]) := Lib.hid (by rw [hW3]; exact (Blk.newAt _ _ (by simp)).alloc _)
  have KR : Hid (Blk W3 (w.heap.size + 1 + 1) 43 #[.int .i64 0, .int .i64 0]) := Lib.hid (by rw [hW3]; exact Blk.newAt _ _ (by simp))
  have HB : Hid (Below w.heap.size w W3) := Lib.hid (by rw [hW3]; exact (((Below.refl _ _).alloc (Nat.le_refl _) _).alloc (by simp) _).alloc (by simp; omega) _)
  have HW := Lib.hid hW3
  clear hW3
  go_enter Tryz.func132, Tryz.ntmps132
  go_wp2_with fail
  rw [← HW.out]
  refine (HM1.out _).mono ?_
  rintro e w1 ⟨rfl, hb1⟩
  have K0a := K0.out.belowS hb1
  have K1a := K1.out.belowS hb1
  have KRa := KR.out.belowS hb1
  have HBa := Lib.hid (Base.Below.nextA HB.out hb1)
  have x0 := K1a.at 0 (v := .int .i64 n2) rfl
  have x1 := K0a.at 1 (v := .int .i64 d1) rfl
  have hz1 : w.heap.size + 1 < w1.heap.size := K1a.lt
  have hz0 : w.heap.size < w1.heap.size := K0a.lt
  have KK := Lib.hid (And.intro K0a (And.intro K1a KRa))
  clear hb1 K0a K1a KRa K0 K1 KR HB HW
  go_wp2_with fail
  obtain ⟨W4, hW4⟩ : ∃ W4, W4 = w1.alloc (.cells #[.int .i64 N1, .int .i64 (D2 : Int)] 43) := ⟨_, rfl⟩
  rw [← hW4]
  have K0 : Hid (Blk W4 w.heap.size 43 #[.int .i64 n1, .int .i64 d1]) := Lib.hid (by rw [hW4]; exact KK.out.1.alloc _)
  have K1 : Hid (Blk W4 (w.heap.size + 1) 43 #[.int .i64 n2, .int .i64 d2]) := Lib.hid (by rw [hW4]; exact KK.out.2.1.alloc _)
  have KR : Hid (Blk W4 (w.heap.size + 1 + 1) 43 #[.int .i64 0, .int .i64 0]) := Lib.hid (by rw [hW4]; exact KK.out.2.2.alloc _)
  have KA : Hid (Blk W4 w1.heap.size 43 #[.int .i64 N1, .int .i64 (D2 : Int)]) := Lib.hid (by rw [hW4]; exact Blk.new w1 _ _)
  have HB : Hid (Below w.heap.size w W4) := Lib.hid (by rw [hW4]; exact HBa.out.alloc HBa.out.size _)
  have hz4 : w1.heap.size < W4.heap.size := KA.out.lt
  clear hW4 KK HBa x0 x1
  refine (HM2.out _).mono ?_
  rintro e w2 ⟨rfl, hb2⟩
  obtain ⟨W5, hW5⟩ : ∃ W5, W5 = w2.alloc (.cells #[.int .i64 N2, .int .i64 (D1 : Int)] 43) := ⟨_, rfl⟩
  have KR5 : Hid (Blk W5 (w.heap.size + 1 + 1) 43 #[.int .i64 0, .int .i64 0]) := Lib.hid (by rw [hW5]; exact (KR.out.belowS hb2).alloc _)
  have KA5 : Hid (Blk W5 w1.heap.size 43 #[.int .i64 N1, .int .i64 (D2 : Int)]) := Lib.hid (by rw [hW5]; exact (KA.out.belowS hb2).alloc _)
  have KB5 : Hid (Blk W5 w2.heap.size 43 #[.int .i64 N2, .int .i64 (D1 : Int)]) := Lib.hid (by rw [hW5]; exact Blk.new w2 _ _)
  have HB5 : Hid (Below w.heap.size w W5) := Lib.hid (by
    have := Base.Below.nextA HB.out hb2
    rw [hW5]; exact this.alloc this.size _)
  have HW5 := Lib.hid hW5
  clear hW5 hb2 K0 K1 KR KA HB
  go_wp2_with fail
  rw [← HW5.out]
  have hlw : w.heap.size + 1 + 1 < W5.heap.size := KR5.out.lt
  have hlA : w1.heap.size < W5.heap.size := KA5.out.lt
  have hlB : w2.heap.size < W5.heap.size := KB5.out.lt
  clear HW5
  unfold two at HT1 HS1 HT2 HS2
  have hn1 : IntKind.i64.wrap (-N1) = -N1 := by rw [IntKind.wrap_i64]; omega
  have hn2 : IntKind.i64.wrap (-N2) = -N2 := by rw [IntKind.wrap_i64]; omega
  (refine wp_region_below (by kernel_rfl) (by kernel_rfl) ?_; (repeat (refine wpQuiet_step (fun K hK => ?_); go_simp; first | (refine hK _ ?_; clear hK K) | (apply Exists.intro; refine ⟨fun wq hq => ?_, hK _ ?_⟩; (first | rfl | (have x0 := (KA5.out.belowS hq).at 0 (v := .int .i64 N1) rfl; have x1 := (KB5.out.belowS hq).at 0 (v := .int .i64 N2) rfl; first | (go_simp; done) | (go_simp; rfl) | (first | (go_at_call 133; refine (HX1.out _).mono ?_; rintro e w7 ⟨rfl, rfl⟩; exact ⟨rfl, hq⟩) | (go_at_call 133; refine (HX2.out _).mono ?_; rintro e w7 ⟨rfl, rfl⟩; exact ⟨rfl, hq⟩) | (go_at_call 171; refine (HT1.out _).mono ?_; rintro e w7 ⟨rfl, hb7⟩; exact ⟨rfl, Base.Below.nextA hq hb7⟩) | (go_at_call 170; refine (HS1.out _).mono ?_; rintro e w7 ⟨rfl, hb7⟩; exact ⟨rfl, Base.Below.nextA hq hb7⟩)))); clear hK K))); refine wpQuiet_nil ?_; intro wq hq)
  have KAq := KA5.out.belowS hq
  have KBq := KB5.out.belowS hq
  have KRq := KR5.out.belowS hq
  have HBq := Lib.hid (Base.Below.nextA HB5.out hq)
  have x0 := KAq.at 1 (v := .int .i64 (D2 : Int)) rfl
  have x1 := KBq.at 1 (v := .int .i64 (D1 : Int)) rfl
  have KK := Lib.hid (And.intro KAq (And.intro KBq KRq))
  clear KAq KBq KRq hq KA5 KB5 KR5 HB5 HM1 HM2 HX1 HX2 HT1 HS1 hn1 hn2
  go_wp2_with fail
  refine (HT2.out _).mono ?_
  rintro e w8 ⟨rfl, hb8⟩
  have HB8 := Lib.hid hb8
  clear hb8
  go_wp2_with fail
  refine (HS2.out _).mono ?_
  rintro e w9 ⟨rfl, hb9⟩
  have hb := Base.Below.nextA HB8.out hb9
  have KA9 := KK.out.1.belowS hb
  have KB9 := KK.out.2.1.belowS hb
  have KR9 := KK.out.2.2.belowS hb
  have HB9 := Lib.hid (Base.Below.nextA HBq.out hb)
  have y0 := KA9.at 0 (v := .int .i64 N1) rfl
  have y1 := KB9.at 0 (v := .int .i64 N2) rfl
  have z0 := KR9.frz 0
  have z1 := KR9.frz 1
  have c0 := KR9.at 0 (v := .int .i64 0) rfl
  have c1 := KR9.at 1 (v := .int .i64 0) rfl
  have KR := Lib.hid KR9
  clear x0 x1 KK hb hb9 HB8 HBq HT2 HS2 KA9 KB9 KR9
  cases b1 with
  | false =>
    have HE := Lib.hid (HEnd.out.1 (.inl rfl))
    clear HEnd
    have S := (KR.out.setTo 0 (.int .i64 0) rfl).setTo 1 (.int .i64 0) rfl
    have s0 := S.at 0 rfl
    have s1 := S.at 1 rfl
    cases b2 <;>
    · go_wp2
      refine bodyPost_ret (v := .tuple #[.agg #[.int .i64 0, .int .i64 0], .bool false]) (by simp [results, Tryz.results132, go_sem, s0, s1]) rfl ⟨by rw [HE.out.1, HE.out.2.1, HE.out.2.2], (HB9.out.setCell (by simp; omega) _).setCell (by simp; omega) _⟩
  | true =>
    cases b2 with
    | false =>
      have HE := Lib.hid (HEnd.out.1 (.inr rfl))
      clear HEnd
      have S := (KR.out.setTo 0 (.int .i64 0) rfl).setTo 1 (.int .i64 0) rfl
      have s0 := S.at 0 rfl
      have s1 := S.at 1 rfl
      go_wp2
      refine bodyPost_ret (v := .tuple #[.agg #[.int .i64 0, .int .i64 0], .bool false]) (by simp [results, Tryz.results132, go_sem, s0, s1]) rfl ⟨by rw [HE.out.1, HE.out.2.1, HE.out.2.2], (HB9.out.setCell (by simp; omega) _).setCell (by simp; omega) _⟩
    | true =>
      obtain ⟨e1, hs, hd, e2, k0, k1⟩ := HEnd.out.2 rfl rfl
      have HE := Lib.hid (And.intro e1 (And.intro e2 (And.intro hs hd)))
      clear HEnd e1 e2 hs hd
      have hneg : decide (N1 < 0) = false ∨ decide (N1 < 0) = true := by cases decide (N1 < 0) <;> simp
      have hneg2 : decide (N2 < 0) = false ∨ decide (N2 < 0) = true := by cases decide (N2 < 0) <;> simp
      rcases hneg with g1 | g1 <;> rcases hneg2 with g2 | g2
      · have HQ := Lib.hid (HE.out.2.2.1 (by rw [g1, g2]))
        have S := (KR.out.setTo 0 (.int .i64 i1) rfl).setTo 1 (.int .i64 i2) rfl
        have s0 := S.at 0 rfl
        have s1 := S.at 1 rfl
        go_wp2
        refine bodyPost_ret (v := .tuple #[.agg #[.int .i64 i1, .int .i64 i2], .bool true]) (by simp [results, Tryz.results132, go_sem, s0, s1]) rfl ⟨by rw [HE.out.1, HE.out.2.1, HQ.out], (HB9.out.setCell (by simp; omega) _).setCell (by simp; omega) _⟩
      · have HQ := Lib.hid (HE.out.2.2.2 (by rw [g1, g2]; decide))
        have S := (KR.out.setTo 0 (.int .i64 (-i1)) rfl).setTo 1 (.int .i64 i2) rfl
        have s0 := S.at 0 rfl
        have s1 := S.at 1 rfl
        go_wp2
        refine bodyPost_ret (v := .tuple #[.agg #[.int .i64 (-i1), .int .i64 i2], .bool true]) (by simp [results, Tryz.results132, go_sem, s0, s1]) rfl ⟨by rw [HE.out.1, HE.out.2.1, HQ.out], (HB9.out.setCell (by simp; omega) _).setCell (by simp; omega) _⟩
      · have HQ := Lib.hid (HE.out.2.2.2 (by rw [g1, g2]; decide))
        have S := (KR.out.setTo 0 (.int .i64 (-i1)) rfl).setTo 1 (.int .i64 i2) rfl
        have s0 := S.at 0 rfl
        have s1 := S.at 1 rfl
        go_wp2
        refine bodyPost_ret (v := .tuple #[.agg #[.int .i64 (-i1), .int .i64 i2], .bool true]) (by simp [results, Tryz.results132, go_sem, s0, s1]) rfl ⟨by rw [HE.out.1, HE.out.2.1, HQ.out], (HB9.out.setCell (by simp; omega) _).setCell (by simp; omega) _⟩
      · have HQ := Lib.hid (HE.out.2.2.1 (by rw [g1, g2]))
        have S := (KR.out.setTo 0 (.int .i64 i1) rfl).setTo 1 (.int .i64 i2) rfl
        have s0 := S.at 0 rfl
        have s1 := S.at 1 rfl
        go_wp2
        refine bodyPost_ret (v := .tuple #[.agg #[.int .i64 i1, .int .i64 i2], .bool true]) (by simp [results, Tryz.results132, go_sem, s0, s1]) rfl ⟨by rw [HE.out.1, HE.out.2.1, HQ.out], (HB9.out.setCell (by simp; omega) _).setCell (by simp; omega) _⟩
end Go.Proofs.YtionognmgcabbaaGreat.Fine

/- The ones and the runs of bits, of the reference. -/
import Derived.Test.YtcimmgpmkfbpdaaGreatDoorMgStr18
import Derived.Test.YtcimmgpmkfbpdaaGreatDoorMgStr08
import Derived.Test.YtcimmgpmkfbpdaaGreatDoorMgStr00
import Derived.Test.YtcimmgpmkfbpdaaGreatDoorMgStr17
namespace Go.Proofs.YtcimmgpmkfbpdaaGreatDoor.LvJ
open Go.RowKit Go.Proofs.YtcimmgpmkfbpdaaGreatDoor Go.Proofs.YtcimmgpmkfbpdaaGreatDoor.Base Go.Proofs.YtcimmgpmkfbpdaaGreatDoor.Mem Go.Proofs.YtcimmgpmkfbpdaaGreatDoor.LvR Go.Proofs.YtcimmgpmkfbpdaaGreatDoor.LvO Go.Proofs.YtcimmgpmkfbpdaaGreatDoor.Dice
set_option linter.unusedVariables false
def byt (s : ByteArray) (i : Nat) : Nat := if h : i < s.size then s[i].toNat else 0
theorem byt_at {s : ByteArray} {i : Nat} (h : i < s.size) : byt s i = s[i].toNat := dif_pos h
theorem byt_bit {s : ByteArray} (hB : BitsS s) {i : Nat} (h : i < s.size) : byt s i = 48 ∨ byt s i = 49 := by
 rw [byt_at h]; exact hB i h
theorem lastI {w : World} {B m : Nat} {v : Value} {xs : List Int} (h : OwnI w B v xs) (hl : xs.length = m + 1) :
  ∃ g c, v = .slice (some ⟨g, 0, none⟩) (m + 1) c ∧ B ≤ g ∧ w.cell? ⟨g, m, none⟩ = some (.int .i64 (xs.getD m 0)) ∧ w.frozen? ⟨g, m, none⟩ = false ∧ OwnI (w.setCell ⟨g, m, none⟩ (.int .i64 (xs.getD m 0 + 1))) B v (bump xs) := by
 obtain ⟨A, c, e, hA⟩ := h.form
 obtain ⟨g, rfl, hg, hlt⟩ := hA (by omega)
 rw [hl] at e
 subst e
 have h' : w.ownsRow B 2 1 (.slice (some ⟨g, 0, none⟩) xs.length c) xs.length (ints xs) := by
  have := h
  unfold OwnI at this
  rw [hl] at this ⊢
  exact this
 have e := World.ownsRow.cellAt h' m (by omega)
 rw [ints_get _ m (by omega)] at e
 refine ⟨g, c, rfl, hg, e, h'.frozenAt m, ?_⟩
 have := (storeI (i := m) (xs.getD m 0 + 1) h hl).1
 rw [bump, hl, Nat.add_sub_cancel]
 exact this
set_option maxHeartbeats 2000000 in
theorem ones_d (s : ByteArray) (hs : s.size ≤ 400) (hB : BitsS s) (w : World) : Calls Tryz.prog 27 #[.string s] w fun e w' => e = .returned (.int .i64 ((onesTo (byt s) s.size : Nat) : Int)) ∧ w = w' := by
 go_enter Tryz.func27, Tryz.ntmps27
 go_wp2
 go_loop [3, 4] (fun nv iv => ∃ i : Nat, i ≤ s.size ∧ iv = .int .i64 (i : Int) ∧ nv = .int .i64 ((onesTo (byt s) i : Nat) : Int)) (fun _ iv => s.size - (intOf iv).toNat)
 case atStart => exact ⟨0, Nat.zero_le _, rfl, rfl⟩
 case round =>
  obtain ⟨i, hi, rfl, rfl⟩ := hrel
  by_cases hlt : i < s.size
  ·have hle := ones_le (byt s) i
   have hb := byt_bit hB hlt
   have he := byt_at hlt
   have hst : onesTo (byt s) (i + 1) = onesTo (byt s) i + (if byt s i = 49 then 1 else 0) := rfl
   have HST := Lib.hid hst
   clear hst
   rw [he] at hb HST
   clear he
   generalize onesTo (byt s) i = q at *
   obtain ⟨x, hx⟩ : ∃ x, (s[i]'hlt).toNat = x := ⟨_, rfl⟩
   rw [hx] at hb HST
   rcases hb with rfl | rfl
   ·go_wp2
    go_round
    case rel => exact ⟨i + 1, hlt, by go_num, by rw [HST.out]; simp⟩
    case measure => simp [intOf]; omega
   ·go_wp2
    go_round
    case rel => exact ⟨i + 1, hlt, by go_num, by rw [HST.out]; simp⟩
    case measure => simp [intOf]; omega
  ·obtain rfl : i = s.size := by omega
   go_wp2
   go_ret
   exact ⟨rfl, rfl⟩
def RnRel (s : ByteArray) (w : World) (ov : Value) (i : Nat) (wr : World) : Prop := Hid (OwnI wr w.heap.size ov (runsTo (byt s) i)) ∧ Hid (Below w.heap.size w wr)
def RunRet (s : ByteArray) (w : World) (e : Ending) (w' : World) : Prop := ∃ A c, e = .returned (.slice A (runsTo (byt s) s.size).length c) ∧ OwnI w' w.heap.size (.slice A (runsTo (byt s) s.size).length c) (runsTo (byt s) s.size) ∧ Below w.heap.size w w'
set_option maxHeartbeats 4000000 in
set_option maxRecDepth 100000 in
theorem runs_d (s : ByteArray) (hs : s.size ≤ 400) (w : World) : Calls Tryz.prog 29 #[.string s] w (RunRet s w) := by
 obtain ⟨i0, hi, hz0, hz1, hz2⟩ := info_parts infoI
 have H0 : Hid (RnRel s w (.slice (some ⟨w.heap.size, 0, none⟩) 0 0) 0 (w.alloc (.cells #[] 2))) := Lib.hid ⟨Lib.hid (own_lit w (Nat.le_refl _) [] (by decide)), Lib.hid ((Below.refl _ _).alloc (Nat.le_refl _) _)⟩
 go_enter Tryz.func29, Tryz.ntmps29
 go_wp2
 go_loopw [3, 4] (fun ov iv wr => ∃ i : Nat, i ≤ s.size ∧ iv = .int .i64 (i : Int) ∧ RnRel s w ov i wr) (fun _ iv _ => s.size - (intOf iv).toNat)
 case atStart => exact ⟨0, Nat.zero_le _, rfl, H0.out⟩
 case round =>
  obtain ⟨i, hi_, rfl, HO, HB⟩ := hrel
  obtain ⟨A, c, eA, _⟩ := HO.out.form
  subst eA
  obtain ⟨wp, rfl⟩ : ∃ x, x = wr := ⟨_, rfl⟩
  clear H0
  by_cases hlt : i < s.size
  ·have hsz := HB.out.size
   obtain ⟨hr1, hr2, hr3⟩ := runs_in (byt s) i
   have hst : runsTo (byt s) (i + 1) = bump (if newRun (byt s) i then runsTo (byt s) i ++ [0] else runsTo (byt s) i) := rfl
   have HST := Lib.hid hst
   clear hst
   have HQ : Hid (∀ W, Below wp.heap.size wp W → OwnI W w.heap.size (.slice A (runsTo (byt s) i).length c) (runsTo (byt s) i) ∧ Below w.heap.size w W) := Lib.hid fun W h => ⟨OwnI.below HO.out h, HB.out.trans (h.mono hsz)⟩
   cases hn : newRun (byt s) i with
   | true =>
    rw [hn] at HST
    have hlt1 : (i : Int) < (s.size : Int) := by omega
    generalize runsTo (byt s) i = xs at *
    rcases Nat.eq_zero_or_pos i with h0 | h0
    ·subst h0
     clear hn hr3
     go_wp2
     (refine wp_region_below (by kernel_rfl) (by kernel_rfl) ?_; (repeat (with_reducible refine wpQuiet_step (fun K hK => ?_); go_simp; first | (with_reducible refine hK _ ?_; clear hK K) | (apply Exists.intro; refine ⟨fun wq hq => ?_, hK _ ?_⟩; (first | rfl | (skip; first | (go_simp; done) | (go_simp; rfl) | fail)); clear hK K))); with_reducible refine wpQuiet_nil ?_; intro wq hq)
     obtain ⟨o7, b7⟩ := HQ.out _ hq
     have HOq := Lib.hid o7
     have HBq := Lib.hid b7
     have hzq := b7.size
     have hrow := World.ownsRow.alloc o7 (.cells #[.int .i64 0] 2)
     have HWn := Lib.hid hrow
     clear hq o7 b7 hrow HQ
     go_wp2_with (at_builtin; refine wpList_append_own_at _ rfl (.tmp 24) (.tmp 25) 63 rfl w.heap.size 2 i0 (.int .i64 0) 1 8 Tryz.underlying63 hi hz0 hz1 hz2 rfl (by decide) _ _ _ rfl HWn.out ⟨wq.heap.size, 0, none⟩ 1 1 [.int .i64 0] rfl rfl ?p1a ?p2a ?p3a ?p4a ?p5a ?_)
     try case p1a => exact news_one _ _ _ (by simp)
     try case p2a => first | exact one_int | rfl | simp
     try case p3a => first | (simp only [maxLen]; omega) | omega
     try case p4a => omega
     try case p5a => first | (simp only [World.size_alloc]; omega) | omega
     intro v' w2 hown' hg' _ he
     have P1 := pushI HOq.out hzq hown'
     have P2 := pushB HOq.out hzq ((Below.refl _ _).alloc (Nat.le_refl _) _) hg'
     obtain ⟨g, c2, ev, hg2, e1, f1, o2⟩ := lastI (m := xs.length) P1 (by simp)
     subst ev
     have e0 : (xs ++ [0]).getD xs.length 0 = 0 := by simp [List.getD]
     rw [e0] at e1 o2
     have HN := Lib.hid (And.intro o2 ((HBq.out.trans P2).setCell (p := ⟨g, xs.length, none⟩) hg2 (.int .i64 (0 + 1))))
     rw [show (0 : Int) + 1 = 1 from rfl] at HN
     clear P1 P2 o2 e0 hown' hg' he HOq
     generalize xs.length = L at *
     go_wp2
     go_roundw
     case rel => exact ⟨_, hlt, by simp, Lib.hid (by rw [HST.out]; exact HN.out.1), Lib.hid HN.out.2⟩
     case measure => first | (simp [intOf]; done) | (simp [intOf]; omega)
    ·obtain ⟨k, rfl⟩ : ∃ k, i = k + 1 := ⟨i - 1, by omega⟩
     have hne : ¬ byt s (k + 1) = byt s k := by
      unfold newRun at hn
      simpa using hn
     rw [byt_at hlt, byt_at (show k < s.size by omega)] at hne
     obtain ⟨x, hx⟩ : ∃ x, (s[k + 1]'hlt).toNat = x := ⟨_, rfl⟩
     obtain ⟨y, hy⟩ : ∃ y, (s[k]'(by omega)).toNat = y := ⟨_, rfl⟩
     rw [hx, hy] at hne
     have hxy : ((x : Int) != (y : Int)) = true := by simp only [bne_iff_ne]; omega
     have hk1 : (k : Int) < (s.size : Int) := by omega
     have hkw : IntKind.i64.wrap (k : Int) = (k : Int) := by rw [IntKind.wrap_i64]; omega
     have hk0 : (0 : Int) ≤ (k : Int) + 1 := by omega
     have hk2 : ((k : Int) + 1).toNat = k + 1 := by omega
     have hk4 : ((k : Int) + 1 == 0) = false := by simp only [beq_eq_false_iff_ne]; omega
     clear hn hr3
     go_wp2
     (refine wp_region_below (by kernel_rfl) (by kernel_rfl) ?_; (repeat (with_reducible refine wpQuiet_step (fun K hK => ?_); go_simp; first | (with_reducible refine hK _ ?_; clear hK K) | (apply Exists.intro; refine ⟨fun wq hq => ?_, hK _ ?_⟩; (first | rfl | (skip; first | (go_simp; done) | (go_simp; rfl) | fail)); clear hK K))); with_reducible refine wpQuiet_nil ?_; intro wq hq)
     obtain ⟨o7, b7⟩ := HQ.out _ hq
     have HOq := Lib.hid o7
     have HBq := Lib.hid b7
     have hzq := b7.size
     have hrow := World.ownsRow.alloc o7 (.cells #[.int .i64 0] 2)
     have HWn := Lib.hid hrow
     clear hq o7 b7 hrow HQ
     go_wp2_with (at_builtin; refine wpList_append_own_at _ rfl (.tmp 24) (.tmp 25) 63 rfl w.heap.size 2 i0 (.int .i64 0) 1 8 Tryz.underlying63 hi hz0 hz1 hz2 rfl (by decide) _ _ _ rfl HWn.out ⟨wq.heap.size, 0, none⟩ 1 1 [.int .i64 0] rfl rfl ?p1a ?p2a ?p3a ?p4a ?p5a ?_)
     try case p1a => exact news_one _ _ _ (by simp)
     try case p2a => first | exact one_int | rfl | simp
     try case p3a => first | (simp only [maxLen]; omega) | omega
     try case p4a => omega
     try case p5a => first | (simp only [World.size_alloc]; omega) | omega
     intro v' w2 hown' hg' _ he
     have P1 := pushI HOq.out hzq hown'
     have P2 := pushB HOq.out hzq ((Below.refl _ _).alloc (Nat.le_refl _) _) hg'
     obtain ⟨g, c2, ev, hg2, e1, f1, o2⟩ := lastI (m := xs.length) P1 (by simp)
     subst ev
     have e0 : (xs ++ [0]).getD xs.length 0 = 0 := by simp [List.getD]
     rw [e0] at e1 o2
     have HN := Lib.hid (And.intro o2 ((HBq.out.trans P2).setCell (p := ⟨g, xs.length, none⟩) hg2 (.int .i64 (0 + 1))))
     rw [show (0 : Int) + 1 = 1 from rfl] at HN
     clear P1 P2 o2 e0 hown' hg' he HOq
     generalize xs.length = L at *
     go_wp2
     go_roundw
     case rel => exact ⟨_, hlt, by simp, Lib.hid (by rw [HST.out]; exact HN.out.1), Lib.hid HN.out.2⟩
     case measure => first | (simp [intOf]; done) | (simp [intOf]; omega)
   | false =>
    rw [hn] at HST
    have hlt1 : (i : Int) < (s.size : Int) := by omega
    have h0 : 0 < i := by
     refine Nat.pos_of_ne_zero fun h => ?_
     rw [h] at hn
     simp [newRun] at hn
    have hpos := hr2 h0
    obtain ⟨hz', hz⟩ := hr3 ((runsTo (byt s) i).length - 1) (by omega)
    obtain ⟨m, hm⟩ : ∃ m, (runsTo (byt s) i).length = m + 1 := ⟨(runsTo (byt s) i).length - 1, by omega⟩
    rw [hm, Nat.add_sub_cancel] at hz hz'
    rw [hm] at hr1
    rw [hm] at HQ ⊢
    have HM := Lib.hid hm
    clear hr3 hr2 hpos hm HO
    generalize runsTo (byt s) i = xs at *
    obtain ⟨k, rfl⟩ : ∃ k, i = k + 1 := ⟨i - 1, by omega⟩
    have hne : byt s (k + 1) = byt s k := by
     unfold newRun at hn
     simpa using hn
    rw [byt_at hlt, byt_at (show k < s.size by omega)] at hne
    obtain ⟨x, hx⟩ : ∃ x, (s[k + 1]'hlt).toNat = x := ⟨_, rfl⟩
    obtain ⟨y, hy⟩ : ∃ y, (s[k]'(by omega)).toNat = y := ⟨_, rfl⟩
    rw [hx, hy] at hne
    subst hne
    have hxy : ((x : Int) != (x : Int)) = false := by simp
    have hk1 : (k : Int) < (s.size : Int) := by omega
    have hkw : IntKind.i64.wrap (k : Int) = (k : Int) := by rw [IntKind.wrap_i64]; omega
    have hk0 : (0 : Int) ≤ (k : Int) + 1 := by omega
    have hk2 : ((k : Int) + 1).toNat = k + 1 := by omega
    have hk4 : ((k : Int) + 1 == 0) = false := by simp only [beq_eq_false_iff_ne]; omega
    clear hn
    go_wp2
    (refine wp_region_below (by kernel_rfl) (by kernel_rfl) ?_; (repeat (with_reducible refine wpQuiet_step (fun K hK => ?_); go_simp; first | (with_reducible refine hK _ ?_; clear hK K) | (apply Exists.intro; refine ⟨fun wq hq => ?_, hK _ ?_⟩; (first | rfl | (skip; first | (go_simp; done) | (go_simp; rfl) | fail)); clear hK K))); with_reducible refine wpQuiet_nil ?_; intro wq hq)
    obtain ⟨o7, b7⟩ := HQ.out _ hq
    obtain ⟨g, c2, ev, hg2, e1, f1, o2⟩ := lastI (m := m) o7 HM.out
    obtain ⟨eA, _, _⟩ : A = some ⟨g, 0, none⟩ ∧ m + 1 = m + 1 ∧ c = c2 := by injection ev with h1 h2 h3; exact ⟨h1, h2, h3⟩
    subst eA
    have HN := Lib.hid (And.intro o2 (b7.setCell (p := ⟨g, m, none⟩) hg2 (.int .i64 (xs.getD m 0 + 1))))
    generalize xs.getD m 0 = z at *
    clear hq o7 b7 o2 HQ ev
    go_wp2
    go_roundw
    case rel => exact ⟨_, hlt, by simp, Lib.hid (by rw [HST.out, if_neg (by simp)]; exact HN.out.1), Lib.hid HN.out.2⟩
    case measure => first | (simp [intOf]; done) | (simp [intOf]; omega)
  ·obtain rfl : i = s.size := by omega
   go_wp2
   go_ret
   exact ⟨A, c, rfl, HO.out, HB.out⟩
end Go.Proofs.YtcimmgpmkfbpdaaGreatDoor.LvJ
namespace Go.Proofs.YtcimmgpmkfbpdaaGreatDoor.LpR
open Go.RowKit Go.Proofs.YtcimmgpmkfbpdaaGreatDoor Go.Proofs.YtcimmgpmkfbpdaaGreatDoor.Base Go.Proofs.YtcimmgpmkfbpdaaGreatDoor.Mem Go.Proofs.YtcimmgpmkfbpdaaGreatDoor.LvR Go.Proofs.YtcimmgpmkfbpdaaGreatDoor.LvO Go.Proofs.YtcimmgpmkfbpdaaGreatDoor.LvJ Go.Proofs.YtcimmgpmkfbpdaaGreatDoor.Dice
set_option linter.unusedVariables false
set_option maxHeartbeats 4000000 in
set_option maxRecDepth 100000 in
theorem runsI_d (s : ByteArray) (hs : s.size ≤ 400) (w : World) : Calls Tryz.prog 44 #[.string s] w (RunRet s w) := by
 obtain ⟨i0, hi, hz0, hz1, hz2⟩ := info_parts infoI
 have H0 : Hid (RnRel s w (.slice (some ⟨w.heap.size, 0, none⟩) 0 0) 0 (w.alloc (.cells #[] 2))) := Lib.hid ⟨Lib.hid (own_lit w (Nat.le_refl _) [] (by decide)), Lib.hid ((Below.refl _ _).alloc (Nat.le_refl _) _)⟩
 go_enter Tryz.func44, Tryz.ntmps44
 go_wp2
 go_loopw [3, 8] (fun ov iv wr => ∃ i : Nat, i ≤ s.size ∧ iv = .int .i64 (i : Int) ∧ RnRel s w ov i wr) (fun _ iv _ => s.size - (intOf iv).toNat)
 case atStart => exact ⟨0, Nat.zero_le _, rfl, H0.out⟩
 case round =>
  obtain ⟨i, hi_, rfl, HO, HB⟩ := hrel
  obtain ⟨A, c, eA, _⟩ := HO.out.form
  subst eA
  obtain ⟨wp, rfl⟩ : ∃ x, x = wr := ⟨_, rfl⟩
  clear H0
  by_cases hlt : i < s.size
  ·have hsz := HB.out.size
   obtain ⟨hr1, hr2, hr3⟩ := runs_in (byt s) i
   have hst : runsTo (byt s) (i + 1) = bump (if newRun (byt s) i then runsTo (byt s) i ++ [0] else runsTo (byt s) i) := rfl
   have HST := Lib.hid hst
   clear hst
   have HQ : Hid (∀ W, Below wp.heap.size wp W → OwnI W w.heap.size (.slice A (runsTo (byt s) i).length c) (runsTo (byt s) i) ∧ Below w.heap.size w W) := Lib.hid fun W h => ⟨OwnI.below HO.out h, HB.out.trans (h.mono hsz)⟩
   cases hn : newRun (byt s) i with
   | true =>
    rw [hn] at HST
    have hlt1 : (i : Int) < (s.size : Int) := by omega
    generalize runsTo (byt s) i = xs at *
    rcases Nat.eq_zero_or_pos i with h0 | h0
    ·subst h0
     clear hn hr3
     go_wp2
     (refine wp_region_below (by kernel_rfl) (by kernel_rfl) ?_; (repeat (with_reducible refine wpQuiet_step (fun K hK => ?_); go_simp; first | (with_reducible refine hK _ ?_; clear hK K) | (apply Exists.intro; refine ⟨fun wq hq => ?_, hK _ ?_⟩; (first | rfl | (skip; first | (go_simp; done) | (go_simp; rfl) | fail)); clear hK K))); with_reducible refine wpQuiet_nil ?_; intro wq hq)
     obtain ⟨o7, b7⟩ := HQ.out _ hq
     have HOq := Lib.hid o7
     have HBq := Lib.hid b7
     have hzq := b7.size
     have hrow := World.ownsRow.alloc o7 (.cells #[.int .i64 0] 2)
     have HWn := Lib.hid hrow
     clear hq o7 b7 hrow HQ
     go_wp2_with (at_builtin; refine wpList_append_own_at _ rfl (.tmp 23) (.tmp 24) 63 rfl w.heap.size 2 i0 (.int .i64 0) 1 8 Tryz.underlying63 hi hz0 hz1 hz2 rfl (by decide) _ _ _ rfl HWn.out ⟨wq.heap.size, 0, none⟩ 1 1 [.int .i64 0] rfl rfl ?p1a ?p2a ?p3a ?p4a ?p5a ?_)
     try case p1a => exact news_one _ _ _ (by simp)
     try case p2a => first | exact one_int | rfl | simp
     try case p3a => first | (simp only [maxLen]; omega) | omega
     try case p4a => omega
     try case p5a => first | (simp only [World.size_alloc]; omega) | omega
     intro v' w2 hown' hg' _ he
     have P1 := pushI HOq.out hzq hown'
     have P2 := pushB HOq.out hzq ((Below.refl _ _).alloc (Nat.le_refl _) _) hg'
     obtain ⟨g, c2, ev, hg2, e1, f1, o2⟩ := lastI (m := xs.length) P1 (by simp)
     subst ev
     have e0 : (xs ++ [0]).getD xs.length 0 = 0 := by simp [List.getD]
     rw [e0] at e1 o2
     have HN := Lib.hid (And.intro o2 ((HBq.out.trans P2).setCell (p := ⟨g, xs.length, none⟩) hg2 (.int .i64 (0 + 1))))
     rw [show (0 : Int) + 1 = 1 from rfl] at HN
     clear P1 P2 o2 e0 hown' hg' he HOq
     generalize xs.length = L at *
     go_wp2
     go_roundw
     case rel => exact ⟨_, hlt, by simp, Lib.hid (by rw [HST.out]; exact HN.out.1), Lib.hid HN.out.2⟩
     case measure => first | (simp [intOf]; done) | (simp [intOf]; omega)
    ·obtain ⟨k, rfl⟩ : ∃ k, i = k + 1 := ⟨i - 1, by omega⟩
     have hne : ¬ byt s (k + 1) = byt s k := by
      unfold newRun at hn
      simpa using hn
     rw [byt_at hlt, byt_at (show k < s.size by omega)] at hne
     obtain ⟨x, hx⟩ : ∃ x, (s[k + 1]'hlt).toNat = x := ⟨_, rfl⟩
     obtain ⟨y, hy⟩ : ∃ y, (s[k]'(by omega)).toNat = y := ⟨_, rfl⟩
     rw [hx, hy] at hne
     have hxy : ((y : Int) != (x : Int)) = true := by simp only [bne_iff_ne]; omega
     have hk1 : (k : Int) < (s.size : Int) := by omega
     have hkw : IntKind.i64.wrap (k : Int) = (k : Int) := by rw [IntKind.wrap_i64]; omega
     have hk0 : (0 : Int) ≤ (k : Int) + 1 := by omega
     have hk2 : ((k : Int) + 1).toNat = k + 1 := by omega
     have hk4 : ((k : Int) + 1 == 0) = false := by simp only [beq_eq_false_iff_ne]; omega
     clear hn hr3
     go_wp2
     (refine wp_region_below (by kernel_rfl) (by kernel_rfl) ?_; (repeat (with_reducible refine wpQuiet_step (fun K hK => ?_); go_simp; first | (with_reducible refine hK _ ?_; clear hK K) | (apply Exists.intro; refine ⟨fun wq hq => ?_, hK _ ?_⟩; (first | rfl | (skip; first | (go_simp; done) | (go_simp; rfl) | fail)); clear hK K))); with_reducible refine wpQuiet_nil ?_; intro wq hq)
     obtain ⟨o7, b7⟩ := HQ.out _ hq
     have HOq := Lib.hid o7
     have HBq := Lib.hid b7
     have hzq := b7.size
     have hrow := World.ownsRow.alloc o7 (.cells #[.int .i64 0] 2)
     have HWn := Lib.hid hrow
     clear hq o7 b7 hrow HQ
     go_wp2_with (at_builtin; refine wpList_append_own_at _ rfl (.tmp 23) (.tmp 24) 63 rfl w.heap.size 2 i0 (.int .i64 0) 1 8 Tryz.underlying63 hi hz0 hz1 hz2 rfl (by decide) _ _ _ rfl HWn.out ⟨wq.heap.size, 0, none⟩ 1 1 [.int .i64 0] rfl rfl ?p1a ?p2a ?p3a ?p4a ?p5a ?_)
     try case p1a => exact news_one _ _ _ (by simp)
     try case p2a => first | exact one_int | rfl | simp
     try case p3a => first | (simp only [maxLen]; omega) | omega
     try case p4a => omega
     try case p5a => first | (simp only [World.size_alloc]; omega) | omega
     intro v' w2 hown' hg' _ he
     have P1 := pushI HOq.out hzq hown'
     have P2 := pushB HOq.out hzq ((Below.refl _ _).alloc (Nat.le_refl _) _) hg'
     obtain ⟨g, c2, ev, hg2, e1, f1, o2⟩ := lastI (m := xs.length) P1 (by simp)
     subst ev
     have e0 : (xs ++ [0]).getD xs.length 0 = 0 := by simp [List.getD]
     rw [e0] at e1 o2
     have HN := Lib.hid (And.intro o2 ((HBq.out.trans P2).setCell (p := ⟨g, xs.length, none⟩) hg2 (.int .i64 (0 + 1))))
     rw [show (0 : Int) + 1 = 1 from rfl] at HN
     clear P1 P2 o2 e0 hown' hg' he HOq
     generalize xs.length = L at *
     go_wp2
     go_roundw
     case rel => exact ⟨_, hlt, by simp, Lib.hid (by rw [HST.out]; exact HN.out.1), Lib.hid HN.out.2⟩
     case measure => first | (simp [intOf]; done) | (simp [intOf]; omega)
   | false =>
    rw [hn] at HST
    have hlt1 : (i : Int) < (s.size : Int) := by omega
    have h0 : 0 < i := by
     refine Nat.pos_of_ne_zero fun h => ?_
     rw [h] at hn
     simp [newRun] at hn
    have hpos := hr2 h0
    obtain ⟨hz', hz⟩ := hr3 ((runsTo (byt s) i).length - 1) (by omega)
    obtain ⟨m, hm⟩ : ∃ m, (runsTo (byt s) i).length = m + 1 := ⟨(runsTo (byt s) i).length - 1, by omega⟩
    rw [hm, Nat.add_sub_cancel] at hz hz'
    rw [hm] at hr1
    rw [hm] at HQ ⊢
    have HM := Lib.hid hm
    clear hr3 hr2 hpos hm HO
    generalize runsTo (byt s) i = xs at *
    obtain ⟨k, rfl⟩ : ∃ k, i = k + 1 := ⟨i - 1, by omega⟩
    have hne : byt s (k + 1) = byt s k := by
     unfold newRun at hn
     simpa using hn
    rw [byt_at hlt, byt_at (show k < s.size by omega)] at hne
    obtain ⟨x, hx⟩ : ∃ x, (s[k + 1]'hlt).toNat = x := ⟨_, rfl⟩
    obtain ⟨y, hy⟩ : ∃ y, (s[k]'(by omega)).toNat = y := ⟨_, rfl⟩
    rw [hx, hy] at hne
    subst hne
    have hxy : ((x : Int) != (x : Int)) = false := by simp
    have hk1 : (k : Int) < (s.size : Int) := by omega
    have hkw : IntKind.i64.wrap (k : Int) = (k : Int) := by rw [IntKind.wrap_i64]; omega
    have hk0 : (0 : Int) ≤ (k : Int) + 1 := by omega
    have hk2 : ((k : Int) + 1).toNat = k + 1 := by omega
    have hk4 : ((k : Int) + 1 == 0) = false := by simp only [beq_eq_false_iff_ne]; omega
    clear hn
    go_wp2
    (refine wp_region_below (by kernel_rfl) (by kernel_rfl) ?_; (repeat (with_reducible refine wpQuiet_step (fun K hK => ?_); go_simp; first | (with_reducible refine hK _ ?_; clear hK K) | (apply Exists.intro; refine ⟨fun wq hq => ?_, hK _ ?_⟩; (first | rfl | (skip; first | (go_simp; done) | (go_simp; rfl) | fail)); clear hK K))); with_reducible refine wpQuiet_nil ?_; intro wq hq)
    obtain ⟨o7, b7⟩ := HQ.out _ hq
    obtain ⟨g, c2, ev, hg2, e1, f1, o2⟩ := lastI (m := m) o7 HM.out
    obtain ⟨eA, _, _⟩ : A = some ⟨g, 0, none⟩ ∧ m + 1 = m + 1 ∧ c = c2 := by injection ev with h1 h2 h3; exact ⟨h1, h2, h3⟩
    subst eA
    have HN := Lib.hid (And.intro o2 (b7.setCell (p := ⟨g, m, none⟩) hg2 (.int .i64 (xs.getD m 0 + 1))))
    generalize xs.getD m 0 = z at *
    clear hq o7 b7 o2 HQ ev
    go_wp2
    go_roundw
    case rel => exact ⟨_, hlt, by simp, Lib.hid (by rw [HST.out, if_neg (by simp)]; exact HN.out.1), Lib.hid HN.out.2⟩
    case measure => first | (simp [intOf]; done) | (simp [intOf]; omega)
  ·obtain rfl : i = s.size := by omega
   go_wp2
   go_ret
   exact ⟨A, c, rfl, HO.out, HB.out⟩
set_option maxHeartbeats 2000000 in
theorem mostI_d (s : ByteArray) (hs : s.size ≤ 400) (w : World) : Calls Tryz.prog 46 #[.string s] w fun e w' => e = .returned (.int .i64 (mostR (byt s) s.size)) ∧ Below w.heap.size w w' := by
 have HR := Lib.hid (runsI_d s hs w)
 have HE : Hid (mostR (byt s) s.size = maxTo (runsTo (byt s) s.size) (runsTo (byt s) s.size).length) := Lib.hid rfl
 have hl := (runs_in (byt s) s.size).1
 unfold RunRet at HR
 generalize runsTo (byt s) s.size = xs at *
 generalize mostR (byt s) s.size = mm at *
 go_enter Tryz.func46, Tryz.ntmps46
 go_wp2_with fail
 refine HR.out.mono ?_
 rintro e w1 ⟨A, c, rfl, ho, hb⟩
 have HX := Lib.hid (OwnI.rd ho)
 have HB := Lib.hid hb
 clear ho hb HR
 go_wp2
 go_loop [3, 9] (fun nv iv => ∃ i : Nat, i ≤ xs.length ∧ iv = .int .i64 (i : Int) ∧ nv = .int .i64 (maxTo xs i)) (fun _ iv => xs.length - (intOf iv).toNat)
 case atStart => exact ⟨0, Nat.zero_le _, rfl, rfl⟩
 case round =>
  obtain ⟨i, hi, rfl, rfl⟩ := hrel
  by_cases hlt : i < xs.length
  ·obtain ⟨b, off, rfl, _, hc⟩ := HX.out (by omega)
   have g1 := hc i hlt
   have HE2 : Hid (maxTo xs (i + 1) = max (maxTo xs i) (xs.getD i 0)) := Lib.hid rfl
   clear hc
   generalize maxTo xs i = q at *
   generalize xs.getD i 0 = z at *
   go_wp2
   go_round
   case rel => exact ⟨i + 1, hlt, by go_num, by rw [HE2.out] <;> congr 1 <;> (split <;> omega)⟩
   case measure => simp [intOf]; omega
  ·obtain rfl : i = xs.length := by omega
   rw [← HE.out]
   go_wp2
   go_ret
   exact ⟨rfl, HB.out⟩
theorem isFair_d (n : Int) (w : World) : Calls Tryz.prog 17 #[.int .i64 n] w fun e w' => e = .returned (.bool (inR n 1 50)) ∧ w = w' := by
 go_enter Tryz.func17, Tryz.ntmps17
 go_wp2_with fail
 refine (inRange_any n 1 50 w).mono ?_
 rintro e w' ⟨rfl, rfl⟩
 go_wp2
 go_ret
 exact ⟨rfl, rfl⟩
end Go.Proofs.YtcimmgpmkfbpdaaGreatDoor.LpR
namespace Go.Proofs.YtcimmgpmkfbpdaaGreatDoor.LvH
open Go.RowKit Go.Proofs.YtcimmgpmkfbpdaaGreatDoor Go.Proofs.YtcimmgpmkfbpdaaGreatDoor.Base Go.Proofs.YtcimmgpmkfbpdaaGreatDoor.Mem Go.Proofs.YtcimmgpmkfbpdaaGreatDoor.MemF Go.Proofs.YtcimmgpmkfbpdaaGreatDoor.GiveM Go.Proofs.YtcimmgpmkfbpdaaGreatDoor.RatM Go.Proofs.YtcimmgpmkfbpdaaGreatDoor.Blk Go.Proofs.YtcimmgpmkfbpdaaGreatDoor.LvM Go.Proofs.YtcimmgpmkfbpdaaGreatDoor.LvQ Go.Proofs.YtcimmgpmkfbpdaaGreatDoor.LvO Go.Proofs.YtcimmgpmkfbpdaaGreatDoor.LvT Go.Proofs.YtcimmgpmkfbpdaaGreatDoor.LvW Go.Proofs.YtcimmgpmkfbpdaaGreatDoor.LvF Go.Proofs.YtcimmgpmkfbpdaaGreatDoor.LvG
set_option linter.unusedVariables false
set_option maxHeartbeats 4000000 in
set_option maxRecDepth 100000 in
theorem chance_d {b n p : Nat} {A A' : Option Addr} {c c' : Nat} {C : Cnt} (hC : C.ok n) (hp : p < C.many) (hn : n ≤ 50) (w : World) (K : Blk w b 65 #[.slice A C.many c, .slice A' C.many c']) (hx : RdI w w.heap.size A (fl C.many (vD C))) (hy : RdF w w.heap.size A' C.many (outF (fD C n) C.many)) :
  Calls Tryz.prog 53 #[.pointer (some ⟨b, 0, none⟩), .int .i64 ((C.first + p : Nat) : Int)] w fun e w' => e = .returned (.agg #[.int .i64 (nD n (C.c p)), .int .i64 (dD n (C.c p))]) ∧ Below w.heap.size w w' := by
 have hN60 : C.many ≤ 51 := by have := hC.2.1; omega
 have hf1 := hC.1
 obtain ⟨N, hN⟩ : ∃ N, N = C.many := ⟨_, rfl⟩
 rw [← hN] at K hx hy hN60 hp
 obtain ⟨W1, hW1⟩ : ∃ W1, W1 = w.alloc (.cells #[.int .i64 0, .int .i64 0] 52) := ⟨_, rfl⟩
 have b1 : Below w.heap.size w W1 := by rw [hW1]; exact (Below.refl _ _).alloc (Nat.le_refl _) _
 have KR : Blk W1 w.heap.size 52 #[.int .i64 0, .int .i64 0] := by rw [hW1]; exact Blk.new w _ _
 have HB := Lib.hid b1
 have HW := Lib.hid hW1
 have KB := K.belowS b1
 have d0 := KB.at 0 (v := .slice A N c) rfl
 have d1 := KB.at 1 (v := .slice A' N c') rfl
 obtain ⟨vb, vo, rfl, hvb, hv⟩ := rdV (hx.below b1 (Nat.le_refl _)) hp
 obtain ⟨fb, fo, rfl, hfb, g1, g2⟩ := rdD (hy.below b1 (Nat.le_refl _)) hp
 have HV := Lib.hid hv
 have r0 := KR.at 0 (v := .int .i64 0) rfl
 have r1 := KR.at 1 (v := .int .i64 0) rfl
 have f0 := KR.frz 0
 have f1 := KR.frz 1
 have SS := (KR.setTo 0 (.int .i64 (nD n (C.c p))) rfl).setTo 1 (.int .i64 (dD n (C.c p))) rfl
 have k0 := SS.at 0 (v := .int .i64 (nD n (C.c p))) rfl
 have k1 := SS.at 1 (v := .int .i64 (dD n (C.c p))) rfl
 have HBF := Lib.hid ((b1.setCell (p := ⟨w.heap.size, 0, none⟩) (Nat.le_refl _) (.int .i64 (nD n (C.c p)))).setCell (p := ⟨w.heap.size, 1, none⟩) (Nat.le_refl _) (.int .i64 (dD n (C.c p))))
 generalize nD n (C.c p) = x1 at *
 generalize dD n (C.c p) = x2 at *
 clear hC hN K hx hy hv hW1 KB KR b1 SS
 go_enter Tryz.func53, Tryz.ntmps53
 go_wp2
 rw [← HW.out]
 clear HW
 go_loop [5] (fun iv => ∃ i : Nat, i ≤ p ∧ iv = .int .i64 (i : Int)) (fun iv => p + 1 - (intOf iv).toNat)
 case atStart => exact ⟨0, Nat.zero_le _, rfl⟩
 case round =>
  obtain ⟨i, hi, rfl⟩ := hrel
  have e1 := HV.out i (by omega)
  have hiN : (i : Int) < (N : Int) := by omega
  by_cases hlt : i < p
  ·have hne : (((C.first + i : Nat) : Int) == ((C.first + p : Nat) : Int)) = false := by simp only [beq_eq_false_iff_ne]; omega
   generalize ((C.first + i : Nat) : Int) = v0 at *
   generalize ((C.first + p : Nat) : Int) = v at *
   go_wp2
   go_round
   case rel => exact ⟨i + 1, by omega, by simp⟩
   case measure => simp [intOf]; omega
  ·obtain rfl : i = p := by omega
   have heq : (((C.first + i : Nat) : Int) == ((C.first + i : Nat) : Int)) = true := by simp
   generalize ((C.first + i : Nat) : Int) = v0 at *
   go_wp2
   refine bodyPost_ret (v := .agg #[.int .i64 x1, .int .i64 x2]) (by simp [results, Tryz.results53, go_sem, k0, k1]) rfl ⟨rfl, HBF.out⟩
end Go.Proofs.YtcimmgpmkfbpdaaGreatDoor.LvH

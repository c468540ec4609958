/- The runs of bits, the longest one, of the program. -/
import Derived.Test.YtgipnbeipfhekaaGreatDoorMgFnL08
import Derived.Test.YtgipnbeipfhekaaGreatDoorMgFnL02
import Derived.Test.YtgipnbeipfhekaaGreatDoorMgFnL05
import Derived.Shelf.Lay
import Derived.Shelf.Strings.SlTrimAscii
import Derived.Test.YtgipnbeipfhekaaGreatDoorMgFnL03
import Derived.Test.YtgipnbeipfhekaaGreatDoorMgFnL09
import Derived.Test.YtgipnbeipfhekaaGreatDoorMgFnL04
import Derived.Test.YtgipnbeipfhekaaGreatDoorMgFnL00
import Derived.Laws.IdiomCopy
import Derived.Test.YtgipnbeipfhekaaGreatDoorMgFnL06
import Derived.Test.YtgipnbeipfhekaaGreatDoorRows
import Derived.Below
import Derived.ChangeSame
import Derived.Carry
import Derived.OpenShut
import Derived.Lib.SmallJoins
set_option linter.unusedVariables false
set_option linter.unusedSimpArgs false
set_option maxRecDepth 100000
set_option maxHeartbeats 4000000
namespace Go.Proofs.YtgipnbeipfhekaaGreatDoor
namespace LpR
open Go.RowKit Base Mem LvR LvO LvJ Dice
theorem runsI_d (s : ByteArray) (hs : s.size ≤ 400) (w : World) : Calls Tryz.prog 55 #[.string s] w (RunRet s w) := by
 obtain ⟨i0, hi, hz0, hz1, hz2⟩ := info_parts infoI
 have H0 : Hid (RnRel s w (.slice (some ⟨w.heap.size, 0, none⟩) 0 0) 0 (w.alloc (.cells #[] 2))) := J ⟨J (own_lit w (Nat.le_refl _) [] (by decide)), J ((Below.refl _ _).alloc (Nat.le_refl _) _)⟩
 go_enter Tryz.func55, Tryz.ntmps55
 go_wp2
 go_loopw [3, 8] (fun ov iv wr => ∃ i : Nat, i ≤ s.size ∧ iv = .int .i64 (i : Int) ∧ RnRel s w ov i wr) (fun _ iv _ => s.size - (intOf iv).toNat)
 case atStart => exact ⟨0, Nat.zero_le _, rfl, H0.out⟩
 case round =>
  obtain ⟨i, hi_, rfl, HO, HB⟩ := hrel
  obtain ⟨A, c, eA, _⟩ := HO.out.form
  subst eA
  obtain ⟨wp, rfl⟩ : ∃ x, x = wr := ⟨_, rfl⟩
  clear H0
  by_cases hlt : i < s.size
  ·have hsz := HB.out.size
   obtain ⟨hr1, hr2, hr3⟩ := runs_in (byt s) i
   have hst : runsTo (byt s) (i + 1) = bump (if newRun (byt s) i then runsTo (byt s) i ++ [0] else runsTo (byt s) i) := rfl
   have HST := J hst
   clear hst
   have HQ : Hid (∀ W, Below wp.heap.size wp W → OwnI W w.heap.size (.slice A (runsTo (byt s) i).length c) (runsTo (byt s) i) ∧ Below w.heap.size w W) := J fun W h => ⟨OwnI.below HO.out h, HB.out.trans (h.mono hsz)⟩
   cases hn : newRun (byt s) i with
   | true =>
    rw [hn] at HST
    have hlt1 : (i : Int) < (s.size : Int) := by omega
    generalize runsTo (byt s) i = xs at *
    rcases Nat.eq_zero_or_pos i with h0 | h0
    ·subst h0
     clear hn hr3
     go_wp2
     (refine wp_region_below (by kernel_rfl) (by kernel_rfl) ?_; (repeat (with_reducible refine wpQuiet_step (fun K hK => ?_); go_simp; first | (with_reducible refine hK _ ?_; clear hK K) | (apply Exists.intro; refine ⟨fun wq hq => ?_, hK _ ?_⟩; (first | rfl | (skip; first | (go_simp; done) | (go_simp; rfl) | fail)); clear hK K))); with_reducible refine wpQuiet_nil ?_; intro wq hq)
     obtain ⟨o7, b7⟩ := HQ.out _ hq
     have HOq := J o7
     have HBq := J b7
     have hzq := b7.size
     have hrow := World.ownsRow.alloc o7 (.cells #[.int .i64 0] 2)
     have HWn := J hrow
     clear hq o7 b7 hrow HQ
     go_wp2_with (at_builtin; refine wpList_append_own_at _ rfl (.tmp 23) (.tmp 24) 43 rfl w.heap.size 2 i0 (.int .i64 0) 1 8 Tryz.underlying43 hi hz0 hz1 hz2 rfl (by decide) _ _ _ rfl HWn.out ⟨wq.heap.size, 0, none⟩ 1 1 [.int .i64 0] rfl rfl ?p1a ?p2a ?p3a ?p4a ?p5a ?_)
     try case p1a => exact news_one _ _ _ (by simp)
     try case p2a => first | exact one_int | rfl | simp
     try case p3a => first | (simp only [maxLen]; omega) | omega
     try case p4a => omega
     try case p5a => first | (simp only [World.size_alloc]; omega) | omega
     intro v' w2 hown' hg' _ he
     have P1 := pushI HOq.out hzq hown'
     have P2 := pushB HOq.out hzq ((Below.refl _ _).alloc (Nat.le_refl _) _) hg'
     obtain ⟨g, c2, ev, hg2, e1, f1, o2⟩ := lastI (m := xs.length) P1 (by simp)
     subst ev
     have e0 : (xs ++ [0]).getD xs.length 0 = 0 := by simp [List.getD]
     rw [e0] at e1 o2
     have HN := J (And.intro o2 ((HBq.out.trans P2).setCell (p := ⟨g, xs.length, none⟩) hg2 (.int .i64 (0 + 1))))
     rw [show (0 : Int) + 1 = 1 from rfl] at HN
     clear P1 P2 o2 e0 hown' hg' he HOq
     generalize xs.length = L at *
     go_wp2
     go_roundw
     case rel => exact ⟨_, hlt, by simp, J (by rw [HST.out]; exact HN.out.1), J HN.out.2⟩
     case measure => first | (simp [intOf]; done) | (simp [intOf]; omega)
    ·obtain ⟨k, rfl⟩ : ∃ k, i = k + 1 := ⟨i - 1, by omega⟩
     have hne : ¬ byt s (k + 1) = byt s k := by
      unfold newRun at hn
      simpa using hn
     rw [byt_at hlt, byt_at (show k < s.size by omega)] at hne
     obtain ⟨x, hx⟩ : ∃ x, (s[k + 1]'hlt).toNat = x := ⟨_, rfl⟩
     obtain ⟨y, hy⟩ : ∃ y, (s[k]'(by omega)).toNat = y := ⟨_, rfl⟩
     rw [hx, hy] at hne
     have hxy : ((y : Int) != (x : Int)) = true := by simp only [bne_iff_ne]; omega
     have hk1 : (k : Int) < (s.size : Int) := by omega
     have hkw : IntKind.i64.wrap (k : Int) = (k : Int) := by rw [IntKind.wrap_i64]; omega
     have hk0 : (0 : Int) ≤ (k : Int) + 1 := by omega
     have hk2 : ((k : Int) + 1).toNat = k + 1 := by omega
     have hk4 : ((k : Int) + 1 == 0) = false := by simp only [beq_eq_false_iff_ne]; omega
     clear hn hr3
     go_wp2
     (refine wp_region_below (by kernel_rfl) (by kernel_rfl) ?_; (repeat (with_reducible refine wpQuiet_step (fun K hK => ?_); go_simp; first | (with_reducible refine hK _ ?_; clear hK K) | (apply Exists.intro; refine ⟨fun wq hq => ?_, hK _ ?_⟩; (first | rfl | (skip; first | (go_simp; done) | (go_simp; rfl) | fail)); clear hK K))); with_reducible refine wpQuiet_nil ?_; intro wq hq)
     obtain ⟨o7, b7⟩ := HQ.out _ hq
     have HOq := J o7
     have HBq := J b7
     have hzq := b7.size
     have hrow := World.ownsRow.alloc o7 (.cells #[.int .i64 0] 2)
     have HWn := J hrow
     clear hq o7 b7 hrow HQ
     go_wp2_with (at_builtin; refine wpList_append_own_at _ rfl (.tmp 23) (.tmp 24) 43 rfl w.heap.size 2 i0 (.int .i64 0) 1 8 Tryz.underlying43 hi hz0 hz1 hz2 rfl (by decide) _ _ _ rfl HWn.out ⟨wq.heap.size, 0, none⟩ 1 1 [.int .i64 0] rfl rfl ?p1a ?p2a ?p3a ?p4a ?p5a ?_)
     try case p1a => exact news_one _ _ _ (by simp)
     try case p2a => first | exact one_int | rfl | simp
     try case p3a => first | (simp only [maxLen]; omega) | omega
     try case p4a => omega
     try case p5a => first | (simp only [World.size_alloc]; omega) | omega
     intro v' w2 hown' hg' _ he
     have P1 := pushI HOq.out hzq hown'
     have P2 := pushB HOq.out hzq ((Below.refl _ _).alloc (Nat.le_refl _) _) hg'
     obtain ⟨g, c2, ev, hg2, e1, f1, o2⟩ := lastI (m := xs.length) P1 (by simp)
     subst ev
     have e0 : (xs ++ [0]).getD xs.length 0 = 0 := by simp [List.getD]
     rw [e0] at e1 o2
     have HN := J (And.intro o2 ((HBq.out.trans P2).setCell (p := ⟨g, xs.length, none⟩) hg2 (.int .i64 (0 + 1))))
     rw [show (0 : Int) + 1 = 1 from rfl] at HN
     clear P1 P2 o2 e0 hown' hg' he HOq
     generalize xs.length = L at *
     go_wp2
     go_roundw
     case rel => exact ⟨_, hlt, by simp, J (by rw [HST.out]; exact HN.out.1), J HN.out.2⟩
     case measure => first | (simp [intOf]; done) | (simp [intOf]; omega)
   | false =>
    rw [hn] at HST
    have hlt1 : (i : Int) < (s.size : Int) := by omega
    have h0 : 0 < i := by
     refine Nat.pos_of_ne_zero fun h => ?_
     rw [h] at hn
     simp [newRun] at hn
    have hpos := hr2 h0
    obtain ⟨hz', hz⟩ := hr3 ((runsTo (byt s) i).length - 1) (by omega)
    obtain ⟨m, hm⟩ : ∃ m, (runsTo (byt s) i).length = m + 1 := ⟨(runsTo (byt s) i).length - 1, by omega⟩
    rw [hm, Nat.add_sub_cancel] at hz hz'
    rw [hm] at hr1
    rw [hm] at HQ ⊢
    have HM := J hm
    clear hr3 hr2 hpos hm HO
    generalize runsTo (byt s) i = xs at *
    obtain ⟨k, rfl⟩ : ∃ k, i = k + 1 := ⟨i - 1, by omega⟩
    have hne : byt s (k + 1) = byt s k := by
     unfold newRun at hn
     simpa using hn
    rw [byt_at hlt, byt_at (show k < s.size by omega)] at hne
    obtain ⟨x, hx⟩ : ∃ x, (s[k + 1]'hlt).toNat = x := ⟨_, rfl⟩
    obtain ⟨y, hy⟩ : ∃ y, (s[k]'(by omega)).toNat = y := ⟨_, rfl⟩
    rw [hx, hy] at hne
    subst hne
    have hxy : ((x : Int) != (x : Int)) = false := by simp
    have hk1 : (k : Int) < (s.size : Int) := by omega
    have hkw : IntKind.i64.wrap (k : Int) = (k : Int) := by rw [IntKind.wrap_i64]; omega
    have hk0 : (0 : Int) ≤ (k : Int) + 1 := by omega
    have hk2 : ((k : Int) + 1).toNat = k + 1 := by omega
    have hk4 : ((k : Int) + 1 == 0) = false := by simp only [beq_eq_false_iff_ne]; omega
    clear hn
    go_wp2
    (refine wp_region_below (by kernel_rfl) (by kernel_rfl) ?_; (repeat (with_reducible refine wpQuiet_step (fun K hK => ?_); go_simp; first | (with_reducible refine hK _ ?_; clear hK K) | (apply Exists.intro; refine ⟨fun wq hq => ?_, hK _ ?_⟩; (first | rfl | (skip; first | (go_simp; done) | (go_simp; rfl) | fail)); clear hK K))); with_reducible refine wpQuiet_nil ?_; intro wq hq)
    obtain ⟨o7, b7⟩ := HQ.out _ hq
    obtain ⟨g, c2, ev, hg2, e1, f1, o2⟩ := lastI (m := m) o7 HM.out
    obtain ⟨eA, _, _⟩ : A = some ⟨g, 0, none⟩ ∧ m + 1 = m + 1 ∧ c = c2 := by injection ev with h1 h2 h3; exact ⟨h1, h2, h3⟩
    subst eA
    have HN := J (And.intro o2 (b7.setCell (p := ⟨g, m, none⟩) hg2 (.int .i64 (xs.getD m 0 + 1))))
    generalize xs.getD m 0 = z at *
    clear hq o7 b7 o2 HQ ev
    go_wp2
    go_roundw
    case rel => exact ⟨_, hlt, by simp, J (by rw [HST.out, if_neg (by simp)]; exact HN.out.1), J HN.out.2⟩
    case measure => first | (simp [intOf]; done) | (simp [intOf]; omega)
  ·obtain rfl : i = s.size := by omega
   go_wp2
   go_ret
   exact ⟨A, c, rfl, HO.out, HB.out⟩
theorem mostI_d (s : ByteArray) (hs : s.size ≤ 400) (w : World) : Calls Tryz.prog 57 #[.string s] w fun e w' => e = .returned (.int .i64 (mostR (byt s) s.size)) ∧ Below w.heap.size w w' := by
 have HR := J (runsI_d s hs w)
 have HE : Hid (mostR (byt s) s.size = maxTo (runsTo (byt s) s.size) (runsTo (byt s) s.size).length) := J rfl
 have hl := (runs_in (byt s) s.size).1
 unfold RunRet at HR
 generalize runsTo (byt s) s.size = xs at *
 generalize mostR (byt s) s.size = mm at *
 go_enter Tryz.func57, Tryz.ntmps57
 go_wp2_with fail
 refine HR.out.mono ?_
 rintro e w1 ⟨A, c, rfl, ho, hb⟩
 have HX := J (OwnI.rd ho)
 have HB := J hb
 clear ho hb HR
 go_wp2
 go_loop [3, 9] (fun nv iv => ∃ i : Nat, i ≤ xs.length ∧ iv = .int .i64 (i : Int) ∧ nv = .int .i64 (maxTo xs i)) (fun _ iv => xs.length - (intOf iv).toNat)
 case atStart => exact ⟨0, Nat.zero_le _, rfl, rfl⟩
 case round =>
  obtain ⟨i, hi, rfl, rfl⟩ := hrel
  by_cases hlt : i < xs.length
  ·obtain ⟨b, off, rfl, _, hc⟩ := HX.out (by omega)
   have g1 := hc i hlt
   have HE2 : Hid (maxTo xs (i + 1) = max (maxTo xs i) (xs.getD i 0)) := J rfl
   clear hc
   generalize maxTo xs i = q at *
   generalize xs.getD i 0 = z at *
   go_wp2
   go_round
   case rel => exact ⟨i + 1, hlt, by go_num, by rw [HE2.out] <;> congr 1 <;> (split <;> omega)⟩
   case measure => simp [intOf]; omega
  ·obtain rfl : i = xs.length := by omega
   rw [← HE.out]
   go_wp2
   go_ret
   exact ⟨rfl, HB.out⟩
theorem isFair_d (n : Int) (w : World) : Calls Tryz.prog 34 #[.int .i64 n] w fun e w' => e = .returned (.bool (inR n 1 50)) ∧ w = w' := by
 go_enter Tryz.func34, Tryz.ntmps34
 go_wp2_with fail
 refine (inRange_any n 1 50 w).mono ?_
 rintro e w' ⟨rfl, rfl⟩
 go_wp2
 go_ret
 exact ⟨rfl, rfl⟩
end LpR
end Go.Proofs.YtgipnbeipfhekaaGreatDoor
namespace Go.Proofs
open Go.Shelf
def YtgipnbeipfhekaaGreatDoor.lays160_ren : Go.Shelf.Ren := ⟨fun | 160 => 93 | 232 => 147 | 231 => 146 | 227 => 148 | 234 => 150 | 233 => 149 | 236 => 152 | 235 => 151 | 228 => 193 | 271 => 195 | 151 => 194 | 197 => 183 | 120 => 230 | 152 => 229 | 260 => 218 | 137 => 247 | 119 => 248 | 224 => 209 | 225 => 208 | 217 => 207 | 266 => 234 | n => n, fun | 9 => 9 | 4 => 4 | 3 => 3 | 5 => 5 | 117 => 195 | 116 => 194 | 0 => 0 | 124 => 198 | 21 => 21 | 105 => 224 | 46 => 118 | 119 => 262 | 139 => 265 | 138 => 264 | n => n, fun | 3 => 6 | 4 => 7 | n => n⟩
theorem YtgipnbeipfhekaaGreatDoor.lays160 : Go.Proofs.Lays.n160 Tryz.prog YtgipnbeipfhekaaGreatDoor.lays160_ren := {
 mixed := by kernel_rfl
 f119 := Tryz.func248.trans (congrArg some (by kernel_rfl))
 f120 := Tryz.func230.trans (congrArg some (by kernel_rfl))
 f137 := Tryz.func247.trans (congrArg some (by kernel_rfl))
 f151 := Tryz.func194.trans (congrArg some (by kernel_rfl))
 f152 := Tryz.func229.trans (congrArg some (by kernel_rfl))
 f160 := Tryz.func93.trans (congrArg some (by kernel_rfl))
 f197 := Tryz.func183.trans (congrArg some (by kernel_rfl))
 f217 := Tryz.func207.trans (congrArg some (by kernel_rfl))
 f224 := Tryz.func209.trans (congrArg some (by kernel_rfl))
 f225 := Tryz.func208.trans (congrArg some (by kernel_rfl))
 f227 := Tryz.func148.trans (congrArg some (by kernel_rfl))
 f228 := Tryz.func193.trans (congrArg some (by kernel_rfl))
 f231 := Tryz.func146.trans (congrArg some (by kernel_rfl))
 f232 := Tryz.func147.trans (congrArg some (by kernel_rfl))
 f233 := Tryz.func149.trans (congrArg some (by kernel_rfl))
 f234 := Tryz.func150.trans (congrArg some (by kernel_rfl))
 f235 := Tryz.func151.trans (congrArg some (by kernel_rfl))
 f236 := Tryz.func152.trans (congrArg some (by kernel_rfl))
 f260 := Tryz.func218.trans (congrArg some (by kernel_rfl))
 f266 := Tryz.func234.trans (congrArg some (by kernel_rfl))
 f271 := Tryz.func195.trans (congrArg some (by kernel_rfl))
 t0 := Tryz.underlying0
 a0 := Tryz.isAgg0
 z0 := Tryz.sizeOf0
 v0 := Tryz.zeroValue0
 t3 := Tryz.underlying3
 a3 := Tryz.isAgg3
 z3 := Tryz.sizeOf3
 v3 := Tryz.zeroValue3
 t4 := Tryz.underlying4
 a4 := Tryz.isAgg4
 z4 := Tryz.sizeOf4
 v4 := Tryz.zeroValue4
 t5 := Tryz.underlying5
 a5 := Tryz.isAgg5
 z5 := Tryz.sizeOf5
 v5 := Tryz.zeroValue5
 t9 := Tryz.underlying9
 a9 := Tryz.isAgg9
 z9 := Tryz.sizeOf9
 v9 := Tryz.zeroValue9
 t21 := Tryz.underlying21
 a21 := Tryz.isAgg21
 z21 := Tryz.sizeOf21
 v21 := Tryz.zeroValue21
 t46 := Tryz.underlying118
 a46 := Tryz.isAgg118
 z46 := Tryz.sizeOf118
 v46 := Tryz.zeroValue118
 t105 := Tryz.underlying224
 a105 := Tryz.isAgg224
 z105 := Tryz.sizeOf224
 v105 := Tryz.zeroValue224
 t116 := Tryz.underlying194
 a116 := Tryz.isAgg194
 z116 := Tryz.sizeOf194
 t117 := Tryz.underlying195
 a117 := Tryz.isAgg195
 z117 := Tryz.sizeOf195
 v117 := Tryz.zeroValue195
 t119 := Tryz.underlying262
 a119 := Tryz.isAgg262
 z119 := Tryz.sizeOf262
 t124 := Tryz.underlying198
 a124 := Tryz.isAgg198
 z124 := Tryz.sizeOf198
 v124 := Tryz.zeroValue198
 t138 := Tryz.underlying264
 a138 := Tryz.isAgg264
 z138 := Tryz.sizeOf264
 v138 := Tryz.zeroValue264
 t139 := Tryz.underlying265
 a139 := Tryz.isAgg265
 z139 := Tryz.sizeOf265
 v139 := Tryz.zeroValue265
 g3 := by kernel_rfl
 g4 := by kernel_rfl }
end Go.Proofs
namespace Go.Proofs.YtgipnbeipfhekaaGreatDoor
namespace Dice
open Go.RowKit Base Mem
theorem drop_all : ∀ (l cs : List UInt8), (∀ b ∈ l, cs.contains b = true) → l.dropWhile (cs.contains ·) = []
 | [], _, _ => rfl
 | b :: l, cs, h => by
  have h1 := h b List.mem_cons_self
  rw [List.dropWhile_cons, if_pos h1]
  exact drop_all l cs fun b hb => h b (List.mem_cons_of_mem _ hb)
theorem trim_bits {s : ByteArray} (h : BitsS s) : Lib.trimS s.data.toList #[48, 49].toList = [] := by
 have h1 : ∀ b ∈ s.data.toList, #[48, 49].toList.contains b = true := by
  intro b hb
  obtain ⟨i, hi, rfl⟩ := List.getElem_of_mem hb
  have hi' : i < s.size := by simpa using hi
  have h2 := h i hi'
  have e : s.data.toList[i] = s[i] := rfl
  rw [e]
  rcases h2 with h2 | h2
  ·have : s[i] = 48 := UInt8.toNat_inj.1 h2
   rw [this]; rfl
  ·have : s[i] = 49 := UInt8.toNat_inj.1 h2
   rw [this]; rfl
 unfold Lib.trimS Lib.trimRightS Lib.trimLeftS
 rw [drop_all s.data.toList.reverse _ fun b hb => h1 b (List.mem_reverse.1 hb)]
 rfl
theorem isBits_yes (s : ByteArray) (hs : s.size ≤ 400) (hB : BitsS s) (w : World) : Calls Tryz.prog 49 #[.string s] w fun e w' => e = .returned (.bool true) ∧ Below w.heap.size w w' := by
 have HT := J (Any.strings_Trim_laid YtgipnbeipfhekaaGreatDoor.lays160 (by kernel_rfl) s ⟨#[48, 49]⟩ w (by omega) (by decide) (ascii_of_all (by decide)))
 rw [show (⟨#[48, 49]⟩ : ByteArray).data = #[48, 49] from rfl, trim_bits hB] at HT
 have hs2 : (s.size : Int) ≤ 400 := by omega
 go_enter Tryz.func49, Tryz.ntmps49
 go_wp2_with fail
 refine HT.out.mono ?_
 rintro e w' ⟨rfl, hb⟩
 have HB := J hb
 clear hb
 go_wp2
 go_ret
 exact ⟨rfl, HB.out⟩
end Dice
namespace StTx
open Go.RowKit Base Mem Dec Str Take
theorem streamText_any (K W T m f a s : Int) (w : World) (hp : Pow w.heap.size w) (hv : streamB K W T m f a s = true) :
  Calls Tryz.prog 30 #[.agg #[.int .i64 K, .int .i64 W, .int .i64 T, .int .i64 m, .int .i64 f, .int .i64 a, .int .i64 s]] w fun e w' => e = .returned (.string (tx (textS K W T m f a s))) ∧ Below w.heap.size w w' := by
 by_cases hK : K = 0
 ·subst hK
  obtain ⟨WX, hWX⟩ : ∃ WX, WX = ((w.alloc (.cells #[.int .i64 0, .int .i64 W, .int .i64 T, .int .i64 m, .int .i64 f, .int .i64 a, .int .i64 s] 29)).alloc (.cells #[.int .i64 W, .int .i64 T, .int .i64 s] 2)) := ⟨_, rfl⟩
  have b0 : Below w.heap.size w WX := by rw [hWX]; exact ((Below.refl _ _).alloc (Nat.le_refl _) _).alloc (by simp) _
  obtain ⟨WB, hWB⟩ : ∃ WB, WB = w.heap.size + 1 := ⟨_, rfl⟩
  have HX : Hid (RdI WX WX.heap.size (some ⟨WB, 0, none⟩) [W, T, s]) := J (by rw [hWX, hWB]; have := rd3 (w.alloc (.cells #[.int .i64 0, .int .i64 W, .int .i64 T, .int .i64 m, .int .i64 f, .int .i64 a, .int .i64 s] 29)) W T s; simp only [World.size_alloc] at this ⊢; exact this)
  have HF : Hid (Fit [W, T, s]) := J (fit3 (by simp [streamB] at hv; exact hv.2))
  have HR : Hid (textS 0 W T m f a s = joinTo [114] [W, T, s] 3) := J (by simp [textS])
  have HPX := J (fun w' (h : Below WX.heap.size WX w') => (show Pow WX.heap.size w' from fun w2 h2 => hp w2 (b0.trans ((h.trans h2).mono b0.size))))
  have HPX : Hid (Pow WX.heap.size WX) := J (HPX.out WX (Below.refl _ _))
  have HB0 := J b0
  have HWX := J hWX
  have hWB2 := hWB
  clear hp hv b0 hWX
  go_enter Tryz.func30, Tryz.ntmps30
  go_wp2
  rw [← HWX.out]
  rw [← hWB]
  clear hWB hWB2
  go_loopw [4, 33] (fun o i wr => ∃ k : Nat, k ≤ 3 ∧ i = .int .i64 (k : Int) ∧ o = .string (tx (joinTo [114] [W, T, s] k)) ∧ Hid (Below WX.heap.size WX wr)) (fun _ i _ => 3 - (intOf i).toNat)
  case atStart => exact ⟨0, Nat.zero_le _, rfl, rfl, J (Below.refl _ _)⟩
  case round =>
   obtain ⟨k, hk, rfl, rfl, HB⟩ := hrel
   by_cases hlt : k < 3
   ·obtain ⟨b, off, eb, hbB, hc⟩ := HX.out (by simp)
    cases eb
    have g0 := (HB.out.cell (p := ⟨WB, 0 + k, none⟩) hbB).trans (hc k (by simpa using hlt))
    rw [Nat.zero_add] at g0
    obtain ⟨u, d, o, a1, a2, e1, e2, e3, e4, r1, r2, e5⟩ := joinStep HF.out [114] (by decide) k (by simpa using hlt)
    have HD := J (decimal_any u (by omega) WX.heap.size wr (HPX.out.on HB.out) HB.out.size)
    have hws := HB.out.size
    rw [e3] at HD
    rw [e1] at g0
    have E5 := J e5
    rw [e4]
    clear hc e1 e3 e4 e5
    go_wp2_with (go_at_call 15; refine HD.out.mono ?_; rintro e w1 ⟨rfl, hb1⟩)
    go_roundw
    case rel => exact ⟨k + 1, hlt, by go_num, by rw [E5.out], J (HB.out.trans (hb1.mono hws))⟩
    case measure => simp [intOf]; omega
   ·obtain rfl : k = 3 := by omega
    go_wp2
    go_ret
    exact ⟨HR.out.symm ▸ rfl, HB0.out.trans (HB.out.mono HB0.out.size)⟩
 ·have hK1 : K = 1 := by
   by_cases h : K = 1
   ·exact h
   ·simp [streamB, hK, h] at hv
  subst hK1
  clear hK
  obtain ⟨WX, hWX⟩ : ∃ WX, WX = (((w.alloc (.cells #[.int .i64 1, .int .i64 W, .int .i64 T, .int .i64 m, .int .i64 f, .int .i64 a, .int .i64 s] 29)).alloc (.cells #[.int .i64 W, .int .i64 T, .int .i64 s] 2)).alloc (.cells #[.int .i64 m, .int .i64 f, .int .i64 a, .int .i64 s] 2)).drew := ⟨_, rfl⟩
  have b0 : Below w.heap.size w WX := by rw [hWX]; exact ((((Below.refl _ _).alloc (Nat.le_refl _) _).alloc (by simp) _).alloc (by simp; omega) _).drew
  obtain ⟨WB, hWB⟩ : ∃ WB, WB = w.heap.size + 1 + 1 := ⟨_, rfl⟩
  have HX : Hid (RdI WX WX.heap.size (some ⟨WB, 0, none⟩) [m, f, a, s]) := J (by
   rw [hWX, hWB]
   have := (rd4 ((w.alloc (.cells #[.int .i64 1, .int .i64 W, .int .i64 T, .int .i64 m, .int .i64 f, .int .i64 a, .int .i64 s] 29)).alloc (.cells #[.int .i64 W, .int .i64 T, .int .i64 s] 2)) m f a s).below ((Below.refl _ _).drew) (Nat.le_refl _)
   have e : ∀ W : World, W.drew.heap.size = W.heap.size := fun _ => rfl
   simp only [World.size_alloc, e] at this ⊢
   exact this)
  have HF : Hid (Fit [m, f, a, s]) := J (fit4 (by simp [streamB] at hv; exact hv.2))
  have HR : Hid (textS 1 W T m f a s = joinTo [99] [m, f, a, s] 4) := J (by simp [textS])
  have HPX : Hid (Pow WX.heap.size WX) := J (fun w2 h2 => hp w2 (b0.trans (h2.mono b0.size)))
  have HB0 := J b0
  have HWX := J hWX
  clear hp hv b0 hWX
  go_enter Tryz.func30, Tryz.ntmps30
  go_wp2
  go_region
  rw [← HWX.out]
  rw [← hWB]
  clear hWB
  go_wp2
  go_loopw [4, 33] (fun o i wr => ∃ k : Nat, k ≤ 4 ∧ i = .int .i64 (k : Int) ∧ o = .string (tx (joinTo [99] [m, f, a, s] k)) ∧ Hid (Below WX.heap.size WX wr)) (fun _ i _ => 4 - (intOf i).toNat)
  case atStart => exact ⟨0, Nat.zero_le _, rfl, rfl, J (Below.refl _ _)⟩
  case round =>
   obtain ⟨k, hk, rfl, rfl, HB⟩ := hrel
   by_cases hlt : k < 4
   ·obtain ⟨b, off, eb, hbB, hc⟩ := HX.out (by simp)
    cases eb
    have g0 := (HB.out.cell (p := ⟨WB, 0 + k, none⟩) hbB).trans (hc k (by simpa using hlt))
    rw [Nat.zero_add] at g0
    obtain ⟨u, d, o, a1, a2, e1, e2, e3, e4, r1, r2, e5⟩ := joinStep HF.out [99] (by decide) k (by simpa using hlt)
    have HD := J (decimal_any u (by omega) WX.heap.size wr (HPX.out.on HB.out) HB.out.size)
    have hws := HB.out.size
    rw [e3] at HD
    rw [e1] at g0
    have E5 := J e5
    rw [e4]
    clear hc e1 e3 e4 e5
    go_wp2_with (go_at_call 15; refine HD.out.mono ?_; rintro e w1 ⟨rfl, hb1⟩)
    go_roundw
    case rel => exact ⟨k + 1, hlt, by go_num, by rw [E5.out], J (HB.out.trans (hb1.mono hws))⟩
    case measure => simp [intOf]; omega
   ·obtain rfl : k = 4 := by omega
    go_wp2
    go_ret
    exact ⟨HR.out.symm ▸ rfl, HB0.out.trans (HB.out.mono HB0.out.size)⟩
end StTx
namespace StrM
open Go.RowKit Base Mem Dec LabM RecJ CutP Val Str Take Rd StTx CycM
theorem cut_at {c : UInt8} {a b : List UInt8} (h : ∀ x ∈ a, x ≠ c) : cutR c (a ++ c :: b) = a :: cutR c b := by
 have hat : At (a ++ c :: b) c (some a.length) := At.of (by simp) fun j hj => by
  rw [List.getElem?_append_left hj, List.getElem?_eq_getElem hj]
  intro e
  exact h _ (List.getElem_mem hj) (Option.some.inj e)
 rw [cutR_yes hat]
 simp
theorem cut_end {c : UInt8} {a : List UInt8} (h : ∀ x ∈ a, x ≠ c) : cutR c a = [a] := cutR_no (At.none_of fun j hj => by
 rw [List.getElem?_eq_getElem hj]
 intro e
 exact h _ (List.getElem_mem hj) (Option.some.inj e))
theorem text_small {K W T m f a s : Int} (hB : streamB K W T m f a s = true) : (textS K W T m f a s).length ≤ 40 := by
 rcases streamB_true hB with ⟨hK, hR⟩ | ⟨hK, hC⟩
 ·have := joinTo_len (fit3 hR) [114] 3 (by simp)
  unfold textS; rw [if_pos hK]; simp at this; omega
 ·have := joinTo_len (fit4 hC) [99] 4 (by simp)
  unfold textS; rw [if_neg (by omega)]; simp at this; omega
theorem takeL_len (K W T m f a s : Int) (n : Nat) : (takeL K W T m f a s (n : Int)).length = n := by
 unfold takeL
 by_cases h : K = 0
 ·simp only [if_pos h, Int.toNat_natCast]; exact outS_len _ _ _ _
 ·simp only [if_neg h, Int.toNat_natCast]; exact outS_len _ _ _ _
end StrM
namespace Jour
open Go.RowKit Base Mem Dec LabM Bld
def KeepB (b : Nat) (w w' : World) : Prop := w.heap.size ≤ w'.heap.size ∧ ∀ g cs t fr, g ≠ b → t ≠ 5 → w.heap[g]? = some (.cells cs t fr) → w'.heap[g]? = some (.cells cs t fr)
theorem KeepB.refl (b : Nat) (w : World) : KeepB b w w := ⟨Nat.le_refl _, fun _ _ _ _ _ _ h => h⟩
theorem KeepB.trans {b : Nat} {w w' w'' : World} (h : KeepB b w w') (k : KeepB b w' w'') : KeepB b w w'' := ⟨Nat.le_trans h.1 k.1, fun g cs t fr h1 h2 h3 => k.2 g cs t fr h1 h2 (h.2 g cs t fr h1 h2 h3)⟩
theorem KeepB.set (b i : Nat) (w : World) (v : Value) : KeepB b w (w.setCell ⟨b, i, none⟩ v) := by
 refine ⟨by simp, fun g cs t fr h1 h2 h3 => ?_⟩
 unfold World.setCell
 simp only [Array.getElem?_modify, if_neg (Ne.symm h1), h3]
theorem KeepB.grown {b B n : Nat} {w w' : World} {v : Value} {xs : List Value} (hg : w.grownBy w' v.ownBlock) (hO : w.ownsRow B 5 1 v n xs) : KeepB b w w' := by
 refine ⟨hg.size, fun g cs t fr h1 h2 h3 => ?_⟩
 have hlt : g < w.heap.size := by
  rcases Nat.lt_or_ge g w.heap.size with hlt | hge
  ·exact hlt
  ·rw [Array.getElem?_eq_none hge] at h3; cases h3
 rw [hg.block g hlt (fun e => by
  obtain ⟨cur, k, _⟩ := ownsRow_block hO e.symm
  rw [k] at h3
  injection h3 with h3
  injection h3 with _ h4
  exact h2 h4.symm)]
 exact h3
theorem keep_freeze {b g : Nat} {w : World} {cur : Array Value} {f0 : Nat × Nat} (hg : w.heap[g]? = some (.cells cur 5 f0)) (n : Nat) : KeepB b w (w.drew.freeze ⟨g, 0, none⟩ n) := by
 refine ⟨by unfold World.freeze; split <;> simp, fun g' cs t fr h1 h2 h3 => ?_⟩
 have hne : g ≠ g' := fun e => by
  subst e
  rw [hg] at h3
  injection h3 with h3
  injection h3 with _ h4
  exact h2 h4.symm
 unfold World.freeze
 split
 ·exact h3
 ·simp only [Array.getElem?_modify, if_neg hne]
  exact h3
theorem copyCheckK (B b : Nat) (bs : List Value) (w : World) (h : IsB B b bs w) :
  Calls Tryz.prog 90 #[.pointer (some ⟨b, 0, none⟩)] w fun e w' => e = .returned (.tuple #[]) ∧ Lib.BuilderAt 93 5 B b (.pointer (some ⟨b, 0, none⟩)) bs w' ∧ Below B w w' ∧ KeepB b w w' := by
 rcases h with h | h
 ·refine (copyCheck_fresh b w h.cell0 h.shape h.frozen0).mono ?_
  rintro e w' ⟨rfl, rfl⟩
  exact ⟨rfl, h.used _, (Below.refl B w).setCell (p := ⟨b, 0, none⟩) h.1 _, KeepB.set _ _ _ _⟩
 ·refine (copyCheck_used b w h.cell0).mono ?_
  rintro e w' ⟨rfl, rfl⟩
  exact ⟨rfl, h, Below.refl B _, KeepB.refl _ _⟩
theorem writeK_any (B b : Nat) (l : List UInt8) (s : ByteArray) (w : World) (h : IsJ B b l w) (hl : l.length + s.size ≤ 1099511627776) (hBw : B ≤ w.heap.size) :
  Calls Tryz.prog 46 #[.pointer (some ⟨b, 0, none⟩), .string s] w fun e w' => e = .returned (.tuple #[.int .i64 s.size, .nilIface]) ∧ IsJ B b (l ++ s.data.toList) w' ∧ Below B w w' ∧ KeepB b w w' := by
 obtain ⟨i0, hi, hz0, hz1, hz2⟩ := info_parts Dec.infoByte
 have hlb : (Lib.byteCells l).length = l.length := Lib.byteCells_length l
 go_enter Tryz.func46, Tryz.ntmps46
 go_wp2_with fail
 refine (copyCheckK B b (Lib.byteCells l) _ h).mono ?_
 rintro e w1 ⟨rfl, h1, hb1, hk1⟩
 obtain ⟨hB, v, hbk, hown, hne⟩ := h1
 have c0 : w1.cell? ⟨b, 0, none⟩ = some (.pointer (some ⟨b, 0, none⟩)) := by rw [Lib.cell_of_heap hbk]; rfl
 have c1 : w1.cell? ⟨b, 1, none⟩ = some v := by rw [Lib.cell_of_heap hbk]; rfl
 have HLB := J hlb
 clear hlb
 go_wp2_with (at_builtin; refine Lib.wpList_append_own_string _ rfl _ _ 22 9 rfl B 5 i0 Tryz.underlying22 Tryz.underlying9 hi hz0 hz1 hz2 _ _ _ rfl hown s rfl ?c3 ?c4 ?c5 ?_)
 case c3 => have := HLB.out; unfold maxLen; omega
 case c4 => have := HLB.out; omega
 case c5 => have := hb1.size; omega
 intro v' w2 hown' hgrow _
 have hlt : b < w1.heap.size := by
  rcases Nat.lt_or_ge b w1.heap.size with h' | h'
  ·exact h'
  ·simp [Array.getElem?_eq_none h'] at hbk
 have hb2 : w2.heap[b]? = some (.cells #[.pointer (some ⟨b, 0, none⟩), v] 93 (0, 0)) := by
  rw [hgrow.block b hlt (fun e => hne e.symm)]
  exact hbk
 have d0 : w2.cell? ⟨b, 0, none⟩ = some (.pointer (some ⟨b, 0, none⟩)) := by rw [Lib.cell_of_heap hb2]; rfl
 have d1 : w2.cell? ⟨b, 1, none⟩ = some v := by rw [Lib.cell_of_heap hb2]; rfl
 have f1 : w2.frozen? ⟨b, 1, none⟩ = false := Lib.frozen_of_heap hb2 1
 obtain ⟨ao, n', cap, rfl⟩ : ∃ ao n' cap, v' = .slice ao n' cap := by
  rcases hown'.2 with ⟨hv, _⟩ | ⟨g, cap, cur, hv, _⟩
  ·exact ⟨_, _, _, hv⟩
  ·exact ⟨_, _, _, hv⟩
 go_wp2
 go_ret2
 refine ⟨rfl, .inr ?_, ?_, (hk1.trans (KeepB.grown hgrow hown)).trans (KeepB.set _ _ _ _)⟩
 ·rw [Lib.byteCells_append]
  exact Lib.BuilderAt.put (T := 93) (e := 5) hB hb2 (bs' := Lib.byteCells l ++ Lib.strCells s) (by simpa [Lib.strCells_length] using hown') (by decide)
 ·exact (hb1.grown hgrow (by have := hb1.size; omega) (fun k hk => (hown.lt k hk).1)).setCell (p := ⟨b, 1, none⟩) hB _
theorem stringK_some (B b : Nat) (l : List UInt8) (w : World) (h : IsJ B b l w) (h0 : l ≠ []) :
  Calls Tryz.prog 48 #[.pointer (some ⟨b, 0, none⟩)] w fun e w' => e = .returned (.string ⟨l.toArray⟩) ∧ Below B w w' ∧ KeepB b w w' := by
 obtain ⟨p, hB, v, hbk, hown, hne⟩ : ∃ p, Lib.BuilderAt 93 5 B b p (Lib.byteCells l) w := by
  rcases h with h | h
  ·exact ⟨_, h⟩
  ·exact ⟨_, h⟩
 have hl0 : l.length ≠ 0 := by simpa using h0
 rw [Lib.byteCells_length] at hown
 obtain ⟨g, cap, cur, rfl, hbg, hg, hnc, hcm, hcs, htake⟩ : ∃ g cap cur, v = .slice (some ⟨g, 0, none⟩) l.length cap ∧ B ≤ g ∧ w.heap[g]? = some (.cells cur 5 (0, 0)) ∧ l.length ≤ cap ∧ cap ≤ maxLen ∧ cur.size = cap * 1 ∧ cur.toList.take (l.length * 1) = Lib.byteCells l := by
  rcases hown.2 with ⟨_, hz⟩ | ⟨g, cap, cur, hv, r⟩
  ·exact absurd hz hl0
  ·exact ⟨g, cap, cur, hv, r⟩
 have c1 : w.drew.cell? ⟨b, 1, none⟩ = some (.slice (some ⟨g, 0, none⟩) l.length cap) := by
  have : w.drew.heap[b]? = some (.cells #[p, .slice (some ⟨g, 0, none⟩) l.length cap] 93 (0, 0)) := hbk
  rw [Lib.cell_of_heap this]; rfl
 have hSD : (Builtin.unsafeSliceData_ #[22] 141 #[.slice (some ⟨g, 0, none⟩) l.length cap]).run Tryz.prog w.drew = .ok (.pointer (some ⟨g, 0, none⟩)) w.drew :=
  Lib.run_unsafeSliceData_row _ _ _ _ _ _ (by omega)
 have hUS : (Builtin.unsafeString_ #[141, 3] 9 #[.pointer (some ⟨g, 0, none⟩), .int .i64 l.length]).run Tryz.prog w.drew = .ok (.string ⟨l.toArray⟩) (w.drew.freeze ⟨g, 0, none⟩ l.length) := by
  refine Lib.run_unsafeString_row w.drew 141 3 9 5 Tryz.underlying141 cellsByte g cur.size (by have hg' : w.drew.heap[g]? = some (.cells cur 5 (0, 0)) := hg; simp [World.shape?, hg']) l h0 (by omega) (by unfold maxLen at hcm; omega) ?_
  intro j x hx
  have := hown.cells (g := g) rfl j (.int .u8 x.toNat) (by simp [Lib.byteCells, hx])
  exact this
 have mixed : Tryz.prog.follows .mixedOrders = true := by kernel_rfl
 go_enter Tryz.func48, Tryz.ntmps48
 go_wp2
 go_region_o
 all_goals (go_wp2; go_ret; exact ⟨rfl, Lib.below_freeze (Below.drew (Below.refl B w)) (p := ⟨g, 0, none⟩) hbg _, keep_freeze hg _⟩)
end Jour
namespace CopyR
open Go.RowKit Base
theorem run_copy_wide {P : Program} (w : World) (dT sT ty elem : TypeId) (size m b o dLen dCap : Nat) (a : Addr) (sLen sCap : Nat) (cs : List Value)
  (hu : P.underlying dT = some (.slice elem)) (hs : (P.info? elem).map (·.size) = some size) (hm : m = Nat.min sLen dLen) (hn : cs.length = m * size)
  (hsrc : ∀ j v, cs[j]? = some v → w.cell? (a.add j) = some v) (hc : ∀ j, j < cs.length → (w.cell? ⟨b, o + j, none⟩).isSome = true) (hf : ∀ j, j < cs.length → w.frozen? ⟨b, o + j, none⟩ = false) (h1 : ∀ v ∈ cs, v.oneCell' = true) :
  (Builtin.copy_ #[dT, sT] ty #[.slice (some ⟨b, o, none⟩) dLen dCap, .slice (some a) sLen sCap]).run P w = .ok (goInt m) (w.setCells b o cs) := by
 have hl := run_loadCells_list (P := P) w a cs hsrc
 have hst := run_storeCells_cells (P := P) b o cs 0 w (by simpa using hc) (by simpa using hf) h1
 cases hq : P.info? elem with
 | none => simp [hq] at hs
 | some i =>
  have hi : i.size = size := by simpa [hq] using hs
  simp [Builtin.copy_, run_underlying hu, Builtin.lenOf, Builtin.firstCells, sizeOf, typeInfo, hq, hi, ← hm, ← hn, hl, hst]
end CopyR
namespace Face
open Go.RowKit Base Mem Reg Str Take Skip Dice Shuf
theorem implOrder_yes {K W T m f a s : Int} (hB : streamB K W T m f a s = true) (n : Nat) (hn : 0 < n) (hn2 : n ≤ 12) (w : World) : Calls Tryz.prog 143 #[.agg #[.int .i64 K, .int .i64 W, .int .i64 T, .int .i64 m, .int .i64 f, .int .i64 a, .int .i64 s], .int .i64 (n : Int)] w (FsRet K W T m f a (ordOf n (ordA K W T m f a (n - 1) s [])) w) := by
 obtain ⟨W1, hW1, S, R, B⟩ := two w K W T m f a s
 obtain ⟨i0, hi, hz0, hz1, hz2⟩ := info_parts infoI
 have HI := J (validStream_any K W T m f a s W1)
 rw [hB] at HI
 have HN := J (fun w => isCards_any (n : Int) w)
 rw [inR_yes (n := (n : Int)) (lo := 1) (hi := 12) (by omega)] at HN
 have HF := J (fun (j : Nat) (hj : j ≤ 12) s (h : streamB K W T m f a s = true) w => roll_any h (j + 2) (by omega) (by omega) w)
 have HSh := J (fun ch A c B w hx hB hk => implShufBy_yes n ch A c B w hx hB hk)
 have hZ : W1.heap.size = w.heap.size + 2 := by rw [hW1]; simp
 generalize hA : ordA K W T m f a (n - 1) s [] = RR
 have HA := J hA
 have HW := J hW1
 have HS := J S
 have HR := J R
 have HB1 := J B
 have HZ := J hZ
 have HBs := J hB
 clear hW1 S R B hB hA hZ
 go_enter Tryz.func143, Tryz.ntmps143
 go_wp2_with fail
 rw [← HW.out]
 refine HI.out.mono ?_
 rintro e w1 ⟨rfl, b1⟩
 have hsz : w.heap.size + 2 ≤ w1.heap.size := by have := b1.size; have := HZ.out; omega
 have t1 := HS.out.below b1 HS.out.lt
 have r1 := HR.out.below b1 HR.out.lt
 have BB := J (HB1.out.trans (b1.mono HB1.out.size))
 have H0 : Hid (OrRel K W T m f a n RR w1.heap.size w.heap.size (w.heap.size + 1) w (.int .i64 ((n : Int) - 1)) (.slice (some ⟨w1.heap.size, 0, none⟩) 0 0) (w1.alloc (.cells #[] 2))) := J (by
  have q := own_lit (B := w1.heap.size) w1 (Nat.le_refl _) [] (by simp)
  have bx := (Below.refl w1.heap.size w1).alloc (Nat.le_refl _) (.cells #[] 2)
  exact ⟨n - 1, [], s, by congr 1; omega, by simp; omega, fun j hj => absurd hj (Nat.not_lt_zero j), by simp, J q, J (t1.below bx t1.lt), J (r1.below bx r1.lt), HBs, HA, J (BB.out.trans (bx.mono BB.out.size))⟩)
 have hlw : w.heap.size < w1.heap.size := by omega
 have c0 := (t1).c0; have c1 := (t1).c1; have c2 := (t1).c2; have c3 := (t1).c3; have c4 := (t1).c4; have c5 := (t1).c5; have c6 := (t1).c6
 clear b1 t1 r1
 go_wp2_with fail
 refine (HN.out _).mono ?_
 rintro e w' ⟨rfl, rfl⟩
 go_wp2
 go_loopw [8, 7] (fun cv ov wr => OrRel K W T m f a n RR w1.heap.size w.heap.size (w.heap.size + 1) w cv ov wr) (fun cv _ _ => (intOf cv).toNat)
 case atStart => exact H0.out
 case round =>
  obtain ⟨k, L, sc, rfl, hkL, hok, hBw, HO, HX, HZb, HBc, HAc, HBl⟩ := hrel
  clear H0 c0 c1 c2 c3 c4 c5 c6
  have hzb := HZb.out.lt
  have hxb := HX.out.lt
  by_cases hk : 0 < k
  ·obtain ⟨j, rfl⟩ : ∃ j, k = j + 1 := ⟨k - 1, by omega⟩
   have HFs := J (fun w => HF.out j (by omega) sc HBc.out w)
   have hcast : ((j + 2 : Nat) : Int) = (j : Int) + 1 + 1 := by omega
   rw [hcast] at HFs
   clear hcast
   have x0 := (HX.out).c0; have x1 := (HX.out).c1; have x2 := (HX.out).c2; have x3 := (HX.out).c3; have x4 := (HX.out).c4; have x5 := (HX.out).c5; have x6 := (HX.out).c6
   cases hr : faceR K W T m f a sc (j + 2) (by omega) with
   | none =>
    rw [hr] at HFs
    have HFn := J (fun w => (HFs.out w).mono fun e w' h => (show e = .returned (.tuple #[.int .i64 0, .agg #[.int .i64 0, .int .i64 0, .int .i64 0, .int .i64 0, .int .i64 0, .int .i64 0, .int .i64 0], .bool false]) ∧ Below w.heap.size w w' from ⟨h.2.1 rfl, h.2.2⟩))
    have HNo := J ((ordA_none (k := j) (L := L) hr).symm.trans HAc.out).symm
    clear hr HFs
    go_wp2_with fail
    refine (HFn.out _).mono ?_
    rintro e w2 ⟨rfl, b2⟩
    have hz3 : w.heap.size + 1 < w2.heap.size := by have := b2.size; omega
    have RY := HZb.out.below b2 HZb.out.lt
    have BB3 := J (HBl.out.trans (b2.mono HBl.out.size))
    clear b2 x0 x1 x2 x3 x4 x5 x6
    have d0 := (RY).c0; have d1 := (RY).c1; have d2 := (RY).c2; have d3 := (RY).c3; have d4 := (RY).c4; have d5 := (RY).c5; have d6 := (RY).c6
    have g0 := (RY).frz 0; have g1 := (RY).frz 1; have g2 := (RY).frz 2; have g3 := (RY).frz 3; have g4 := (RY).frz 4; have g5 := (RY).frz 5; have g6 := (RY).frz 6
    have S8 := (RY.set7 0 0 0 0 0 0 0).below ((Below.refl _ _).alloc (Nat.le_refl _) (.cells #[.int .i64 0, .int .i64 0, .int .i64 0, .int .i64 0, .int .i64 0, .int .i64 0, .int .i64 0] 29)) (RY.set7 0 0 0 0 0 0 0).lt
    have p0 := (S8).c0; have p1 := (S8).c1; have p2 := (S8).c2; have p3 := (S8).c3; have p4 := (S8).c4; have p5 := (S8).c5; have p6 := (S8).c6
    simp only [set7] at p0 p1 p2 p3 p4 p5 p6
    have hs7 := (grown_set7 w2 (w.heap.size + 1) 0 0 0 0 0 0 0).size
    have HBN := J ((below_set7 (b := w.heap.size + 1) BB3.out (Nat.le_succ _) BB3.out.size 0 0 0 0 0 0 0).alloc (Nat.le_trans BB3.out.size hs7) (.cells #[.int .i64 0, .int .i64 0, .int .i64 0, .int .i64 0, .int .i64 0, .int .i64 0, .int .i64 0] 29))
    clear S8 RY hs7
    go_wp2
    exact bodyPost_ret (v := .tuple #[.slice none 0 0, .agg #[.int .i64 0, .int .i64 0, .int .i64 0, .int .i64 0, .int .i64 0, .int .i64 0, .int .i64 0], .bool false]) (by simp [results, Tryz.results143, go_sem, p0, p1, p2, p3, p4, p5, p6]) rfl (FsRet.no (by rw [HNo.out]; rfl) rfl HBN.out)
   | some p =>
    obtain ⟨cf, uf⟩ := p
    rw [hr] at HFs
    have HFn := J (fun w => (HFs.out w).mono fun e w' h => (show e = .returned (.tuple #[.int .i64 (cf : Int), .agg #[.int .i64 K, .int .i64 W, .int .i64 T, .int .i64 m, .int .i64 f, .int .i64 a, .int .i64 (takeX K W T m f a sc (uf : Int))], .bool true]) ∧ Below w.heap.size w w' from ⟨h.1 cf uf rfl, h.2.2⟩))
    have HA2 := J ((ordA_some (k := j) (L := L) hr).symm.trans HAc.out)
    have HB2 := J (streamB_takeX (c := (uf : Int)) HBc.out)
    have hcf := (faceR_bd (by omega) hr).1
    clear hr HFs
    obtain ⟨x, hx⟩ : ∃ x, takeX K W T m f a sc (uf : Int) = x := ⟨_, rfl⟩
    rw [hx] at HFn HA2 HB2
    clear hx
    go_wp2_with fail
    refine (HFn.out _).mono ?_
    rintro e w2 ⟨rfl, b2⟩
    clear x0 x1 x2 x3 x4 x5 x6
    obtain ⟨w4, hw4⟩ : ∃ w4, w4 = w2.alloc (.cells #[.int .i64 K, .int .i64 W, .int .i64 T, .int .i64 m, .int .i64 f, .int .i64 a, .int .i64 x] 29) := ⟨_, rfl⟩
    have bz : Below w2.heap.size w2 w4 := by rw [hw4]; exact (Below.refl _ _).alloc (Nat.le_refl _) _
    have U0 : SBox w4 w2.heap.size K W T m f a x := by rw [hw4]; exact SBox.new _ _ _ _ _ _ _ _
    have bo := Base.Below.nextA b2 bz
    have ba : Below w4.heap.size w4 (w4.alloc (.cells #[.int .i64 (cf : Int)] 2)).drew := ((Below.refl _ _).alloc (Nat.le_refl _) _).drew
    have b4 := Base.Below.nextA bo ba
    have hown := ownsRow_below HO.out (Base.Below.nextA bo ((Below.refl w4.heap.size w4).alloc (Nat.le_refl _) (.cells #[.int .i64 (cf : Int)] 2)))
    have HWn := J hown
    have HU := J (U0.below ba U0.lt)
    have HB4 := J b4
    have HW4 := J hw4
    have hlz2 : w1.heap.size < w4.heap.size := by have := b2.size; have := U0.lt; omega
    have hlz4 : w2.heap.size < w4.heap.size := U0.lt
    have x0 := U0.c0
    have x1 := U0.c1
    have x2 := U0.c2
    have x3 := U0.c3
    have x4 := U0.c4
    have x5 := U0.c5
    have x6 := U0.c6
    clear b2 bz ba b4 bo hown U0 hw4
    go_wp2_with fail
    rw [← HW4.out]
    go_region_law ((refine step_append_lies _ (by rfl) _ _ _ (by rfl) w1.heap.size 2 i0 _ 1 8 Tryz.underlying43 hi hz0 hz1 hz2 rfl (by omega) u7 L.length _ (by rfl) ((HWn.out).drew) ⟨w4.heap.size, 0, none⟩ 1 1 [.int .i64 (cf : Int)] (by rfl) (by rfl) (World.news_of_block (cs := #[.int .i64 (cf : Int)]) (t := 2) (fr := (0, 0)) (heap_alloc_new w4 _)) one_int (by omega) (by simp only [maxLen]; omega) (by omega) (by first | omega | (simp; omega)) (w4.heap.size + 1) (by simp) ?_; intro gg cap w5 hown' hg' hat hlt2; have HN := J (faces_next (c := (cf : Int)) (s2 := x) HO.out HX.out HZb.out (by omega) (by omega) (by omega) HBl.out HB4.out hown' hg'); have hsz5 : w1.heap.size ≤ (set7 w5 w.heap.size K W T m f a x).heap.size := Nat.le_trans (Nat.le_trans (Nat.le_of_lt hlz2) (Nat.le_trans (by simp) hg'.size)) (grown_set7 w5 w.heap.size K W T m f a x).size; have HSZ5 := J hsz5; clear hsz5; have q := HN.out.2.2.2.2.1; have qn := HU.out.kept hg' (own_not_str (HWn.out).drew HU.out); have y0 := (q).c0; have y1 := (q).c1; have y2 := (q).c2; have y3 := (q).c3; have y4 := (q).c4; have y5 := (q).c5; have y6 := (q).c6; have z0 := (q).frz 0; have z1 := (q).frz 1; have z2 := (q).frz 2; have z3 := (q).frz 3; have z4 := (q).frz 4; have z5 := (q).frz 5; have z6 := (q).frz 6; have v0 := (qn).c0; have v1 := (qn).c1; have v2 := (qn).c2; have v3 := (qn).c3; have v4 := (qn).c4; have v5 := (qn).c5; have v6 := (qn).c6; clear hown' hg' hat q qn))
    all_goals
     go_wp2
     go_roundw
     case rel => exact ⟨j, L ++ [(cf : Int)], x, by go_num, by simp; omega, okTo_snoc hok (by omega), HSZ5.out, J HN.out.1, J HN.out.2.1, J HN.out.2.2.1, HB2, HA2, J HN.out.2.2.2.1⟩
     case measure => simp [intOf]
  ·obtain rfl : k = 0 := by omega
   obtain ⟨A, cp, eA, _⟩ := HO.out.form
   subst eA
   have HAe := J (show RR = some (L, sc) from by rw [← HAc.out]; rfl)
   have HSx := J (HSh.out L A cp wr.heap.size wr HO.out.rd (Nat.le_refl _) ⟨by omega, by omega, hok⟩)
   have HOk := J hok
   clear hok
   go_wp2_with fail
   refine HSx.out.mono ?_
   rintro e w5 ⟨A5, c5, rfl, o5, b5⟩
   have X5 := HX.out.below b5 HX.out.lt
   have Z5 := HZb.out.below b5 HZb.out.lt
   have O5 := J o5
   have hlen := shufTo_len n L L.length
   have x0 := (X5).c0; have x1 := (X5).c1; have x2 := (X5).c2; have x3 := (X5).c3; have x4 := (X5).c4; have x5 := (X5).c5; have x6 := (X5).c6
   have h0 := (Z5).c0; have h1 := (Z5).c1; have h2 := (Z5).c2; have h3 := (Z5).c3; have h4 := (Z5).c4; have h5 := (Z5).c5; have h6 := (Z5).c6
   have g0 := (Z5).frz 0; have g1 := (Z5).frz 1; have g2 := (Z5).frz 2; have g3 := (Z5).frz 3; have g4 := (Z5).frz 4; have g5 := (Z5).frz 5; have g6 := (Z5).frz 6
   have S8 := Z5.set7 K W T m f a sc
   have p0 := (S8).c0; have p1 := (S8).c1; have p2 := (S8).c2; have p3 := (S8).c3; have p4 := (S8).c4; have p5 := (S8).c5; have p6 := (S8).c6
   simp only [set7] at p0 p1 p2 p3 p4 p5 p6
   have BB5 := J (HBl.out.trans (b5.mono HBl.out.size))
   have B7 := J (BB5.out.trans (grown_below (grown_set7 w5 (w.heap.size + 1) K W T m f a sc) (fun g e => by cases e; exact Nat.le_succ _) BB5.out.size))
   have o5' : w5.ownsRow wr.heap.size 2 1 (.slice A5 n c5) n (ints (shufTo n L L.length)) := by have := o5; unfold OwnI at this; rw [hlen] at this; exact this
   have O7 := J (own_set7 o5' Z5 K W T m f a sc)
   have HLe := J hlen
   have mixed : Tryz.prog.follows .mixedOrders = true := by kernel_rfl
   clear S8 X5 Z5 b5 o5 o5' hlen
   go_wp2_with fail
   go_region_o
   all_goals
    go_wp2
    refine bodyPost_ret (v := .tuple #[.slice A5 n c5, .agg #[.int .i64 K, .int .i64 W, .int .i64 T, .int .i64 m, .int .i64 f, .int .i64 a, .int .i64 sc], .bool true]) (by simp [results, Tryz.results143, go_sem, p0, p1, p2, p3, p4, p5, p6]) rfl (FsRet.yes (L := shufTo n L L.length) (s' := sc) (A := A5) (c := c5) (by rw [HAe.out]; rfl) (by rw [HLe.out]) ?_ (Below.drew B7.out))
    unfold OwnI
    rw [HLe.out]
    exact ownsRow_base (ownsRow_below O7.out ((Below.refl _ _).drew)) (by omega)
end Face
namespace Face
open Go.RowKit Base Mem Reg Str Take Skip Dice Shuf
theorem implOrder_any (K W T m f a s n : Int) (w : World) : Calls Tryz.prog 143 #[.agg #[.int .i64 K, .int .i64 W, .int .i64 T, .int .i64 m, .int .i64 f, .int .i64 a, .int .i64 s], .int .i64 n] w (FsRet K W T m f a (ordR K W T m f a s n) w) := by
 obtain ⟨W1, hW1, S, R, B⟩ := two w K W T m f a s
 have HI := J (validStream_any K W T m f a s W1)
 have HN := J (fun w => isCards_any n w)
 have HZ := J (show W1.heap.size = w.heap.size + 2 by rw [hW1]; simp)
 have HW := J hW1
 have HS := J S
 have HR := J R
 have HB1 := J B
 clear hW1 S R B
 cases hB : streamB K W T m f a s with
 | false =>
  rw [hB] at HI
  have HNo := J (ordR_no (K := K) (W := W) (T := T) (m := m) (f := f) (a := a) (s := s) (n := n) (by rw [hB]; rfl))
  clear hB
  go_enter Tryz.func143, Tryz.ntmps143
  go_wp2_with fail
  rw [← HW.out]
  refine HI.out.mono ?_
  rintro e w1 ⟨rfl, b1⟩
  have RZ := HR.out.below b1 HR.out.lt
  have BB := J (HB1.out.trans (b1.mono HB1.out.size))
  clear b1
  have d0 := (RZ).c0; have d1 := (RZ).c1; have d2 := (RZ).c2; have d3 := (RZ).c3; have d4 := (RZ).c4; have d5 := (RZ).c5; have d6 := (RZ).c6
  have g0 := (RZ).frz 0; have g1 := (RZ).frz 1; have g2 := (RZ).frz 2; have g3 := (RZ).frz 3; have g4 := (RZ).frz 4; have g5 := (RZ).frz 5; have g6 := (RZ).frz 6
  have S8 := RZ.set7 0 0 0 0 0 0 0
  have p0 := (S8).c0; have p1 := (S8).c1; have p2 := (S8).c2; have p3 := (S8).c3; have p4 := (S8).c4; have p5 := (S8).c5; have p6 := (S8).c6
  simp only [set7] at p0 p1 p2 p3 p4 p5 p6
  have HBN := J (below_set7 (b := w.heap.size + 1) BB.out (Nat.le_succ _) (BB.out).size 0 0 0 0 0 0 0)
  clear S8 RZ
  go_wp2
  exact bodyPost_ret (v := .tuple #[.slice none 0 0, .agg #[.int .i64 0, .int .i64 0, .int .i64 0, .int .i64 0, .int .i64 0, .int .i64 0, .int .i64 0], .bool false]) (by simp [results, Tryz.results143, go_sem, p0, p1, p2, p3, p4, p5, p6]) rfl (FsRet.no HNo.out rfl HBN.out)
 | true =>
  rw [hB] at HI
  cases hN : inR n 1 12 with
  | false =>
   rw [hN] at HN
   have HNo := J (ordR_no (K := K) (W := W) (T := T) (m := m) (f := f) (a := a) (s := s) (n := n) (by rw [hB, hN]; rfl))
   clear hB hN
   go_enter Tryz.func143, Tryz.ntmps143
   go_wp2_with fail
   rw [← HW.out]
   refine HI.out.mono ?_
   rintro e w1 ⟨rfl, b1⟩
   have RZ := HR.out.below b1 HR.out.lt
   have BB := J (HB1.out.trans (b1.mono HB1.out.size))
   clear b1
   go_wp2_with fail
   refine (HN.out _).mono ?_
   rintro e w' ⟨rfl, rfl⟩
   have d0 := (RZ).c0; have d1 := (RZ).c1; have d2 := (RZ).c2; have d3 := (RZ).c3; have d4 := (RZ).c4; have d5 := (RZ).c5; have d6 := (RZ).c6
   have g0 := (RZ).frz 0; have g1 := (RZ).frz 1; have g2 := (RZ).frz 2; have g3 := (RZ).frz 3; have g4 := (RZ).frz 4; have g5 := (RZ).frz 5; have g6 := (RZ).frz 6
   have S8 := RZ.set7 0 0 0 0 0 0 0
   have p0 := (S8).c0; have p1 := (S8).c1; have p2 := (S8).c2; have p3 := (S8).c3; have p4 := (S8).c4; have p5 := (S8).c5; have p6 := (S8).c6
   simp only [set7] at p0 p1 p2 p3 p4 p5 p6
   have HBN := J (below_set7 (b := w.heap.size + 1) BB.out (Nat.le_succ _) (BB.out).size 0 0 0 0 0 0 0)
   clear S8 RZ
   go_wp2
   exact bodyPost_ret (v := .tuple #[.slice none 0 0, .agg #[.int .i64 0, .int .i64 0, .int .i64 0, .int .i64 0, .int .i64 0, .int .i64 0, .int .i64 0], .bool false]) (by simp [results, Tryz.results143, go_sem, p0, p1, p2, p3, p4, p5, p6]) rfl (FsRet.no HNo.out rfl HBN.out)
  | true =>
   rw [hN] at HN
   obtain ⟨n1, n2⟩ := inR_true hN
   obtain ⟨N, rfl⟩ := Int.eq_ofNat_of_zero_le (show 0 ≤ n by omega)
   rw [ordR_yes (by rw [hB, hN]; rfl)]
   exact implOrder_yes hB N (by omega) (by omega) w
end Face
namespace Frame
open Go.RowKit Go.WideShapes Go.ChangeShapes Go.Joins
theorem laidOut : laidOutB Tryz.prog = true := by kernel_rfl
theorem own : ownKnob Tryz.prog.godebug = none := by kernel_rfl
section
variable {H : Type} {enc : TypeId × Value → H} {P : Program}
theorem trodAll_below (hl : laidOutB P = true) {W W' : World} (hb : Below W.heap.size W W') :
  ∀ {ts : List TypeId} {vs : List Value} {ds : List (DataW H)} {ps : List MemPlace}, (ts.all fun t => P.readableRec t && decide (t < P.types.size)) = true →
   DataW.TrodAll enc P W 0 (fun _ => true) true ts vs ds ps → (∀ x ∈ ps, x.block < W.heap.size) → DataW.TrodAll enc P W' 0 (fun b => decide (b < W.heap.size)) true ts vs ds ps
 | [], vs, ds, ps, _, h, _ => by
  obtain ⟨rfl, rfl, rfl⟩ := trodAll_nil h
  exact trodAll_mk0
 | t :: ts, vs, ds, ps, hr, h, hlt => by
  simp only [List.all_cons, Bool.and_eq_true, decide_eq_true_eq] at hr
  obtain ⟨v, vs', d, ds', p, q, rfl, rfl, rfl, h0, h1⟩ := trodAll_cons h
  exact trodAll_cons_mk (Below.trod hl hr.1.1 hr.1.2 h0 hb fun x hx => hlt x (List.mem_append.2 (.inl hx))) (trodAll_below hl hb hr.2 h1 fun x hx => hlt x (List.mem_append.2 (.inr hx)))
theorem post_below {f : Func} {s : ChangeSpec} {apart fresh handsOn : Bool} {W W' : World} {args : Array Value} {v : Value} {ds : List (DataW H)} {before : List MemPlace}
  (hvars0 : s.vars = []) (hl : laidOutB P = true) (hr : (f.params.toList.all fun t => P.readableRec t && decide (t < P.types.size)) = true)
  (hW : DataW.Whole enc P f.params.toList s.vars apart W args.toList ds [] before)
  (hA : DataW.TrodAll enc P W 0 (fun _ => true) true f.params.toList args.toList ds before)
  (hargs : (s.fn H (ds ++ [])).args = ds) (hvars : (s.fn H (ds ++ [])).vars = [])
  (hres : ∀ (b : Nat) (sp : Nat → Bool) (hd : Bool), DataW.TrodAll enc P W' b sp hd f.resultTypes.toList (v.resultList f.resultTypes.size) (s.fn H (ds ++ [])).results [])
  (hb : Below W.heap.size W W') : s.post enc P f apart fresh handsOn false W args v W' := by
 have hlt : ∀ p ∈ before, p.block < W.heap.size := fun p hp => hW.lt p hp
 have hA' := trodAll_below (enc := enc) hl hb hr hA hlt
 refine ⟨ds, [], before, [], before, [], hW, hres _ _ _, ?_, ?_, World.keptBut_mono (fun p hp => ⟨hp, ?_⟩) (hb.frame (· ∈ before)), fun h => by cases h⟩
 ·rw [hargs]; exact hA'
 ·rw [hvars, hvars0]; exact rfl
 ·right; simpa using hp
end
end Frame
end Go.Proofs.YtgipnbeipfhekaaGreatDoor

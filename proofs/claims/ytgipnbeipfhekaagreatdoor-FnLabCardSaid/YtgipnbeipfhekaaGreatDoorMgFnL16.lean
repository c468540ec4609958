/- A stream's text is read back; bits taken twice are those taken at once: plain. -/
import Derived.Test.YtgipnbeipfhekaaGreatDoorMgFnL12
import Derived.Test.YtgipnbeipfhekaaGreatDoorMgFnL15
import Derived.Test.YtgipnbeipfhekaaGreatDoorMgFnL13
import Derived.Test.YtgipnbeipfhekaaGreatDoorMgFnL11
import Derived.Test.YtgipnbeipfhekaaGreatDoorMgFnL03
import Derived.Shelf.Lay
import Derived.Shelf.Strings.OnBuilder
import Derived.Test.YtgipnbeipfhekaaGreatDoorMgFnL06
import Derived.Shelf.Strings.Prefix
import Derived.Test.YtgipnbeipfhekaaGreatDoorMgFnL00
import Derived.Laws.IdiomCopy
import Derived.Shelf.Spec.SlicesInsertGrow
set_option linter.unusedVariables false
set_option linter.unusedSimpArgs false
namespace Go.Proofs.YtgipnbeipfhekaaGreatDoor
namespace StrM
open Go.RowKit Base Mem Dec LabM RecJ CutP Val Str Take Rd StTx CycM
theorem cut_at {c : UInt8} {a b : List UInt8} (h : ∀ x ∈ a, x ≠ c) : cutR c (a ++ c :: b) = a :: cutR c b := by
 have hat : At (a ++ c :: b) c (some a.length) := At.of (by simp) fun j hj => by
  rw [List.getElem?_append_left hj, List.getElem?_eq_getElem hj]
  intro e
  exact h _ (List.getElem_mem hj) (Option.some.inj e)
 rw [cutR_yes hat]
 simp
theorem cut_end {c : UInt8} {a : List UInt8} (h : ∀ x ∈ a, x ≠ c) : cutR c a = [a] := cutR_no (At.none_of fun j hj => by
 rw [List.getElem?_eq_getElem hj]
 intro e
 exact h _ (List.getElem_mem hj) (Option.some.inj e))
theorem text_small {K W T m f a s : Int} (hB : streamB K W T m f a s = true) : (textS K W T m f a s).length ≤ 40 := by
 rcases streamB_true hB with ⟨hK, hR⟩ | ⟨hK, hC⟩
 ·have := joinTo_len (fit3 hR) [114] 3 (by simp)
  unfold textS; rw [if_pos hK]; simp at this; omega
 ·have := joinTo_len (fit4 hC) [99] 4 (by simp)
  unfold textS; rw [if_neg (by omega)]; simp at this; omega
theorem takeL_len (K W T m f a s : Int) (n : Nat) : (takeL K W T m f a s (n : Int)).length = n := by
 unfold takeL
 by_cases h : K = 0
 ·simp only [if_pos h, Int.toNat_natCast]; exact outS_len _ _ _ _
 ·simp only [if_neg h, Int.toNat_natCast]; exact outS_len _ _ _ _
end StrM
namespace LcG
open Go.RowKit Base Mem MemS LabM LabV StM Str StTx Dec Val Rd CarM LcA LcC Take
end LcG
end Go.Proofs.YtgipnbeipfhekaaGreatDoor
namespace Go.Proofs
open Go.Shelf
def YtgipnbeipfhekaaGreatDoor.lj156_ren : Go.Shelf.Ren := ⟨fun | 156 => 144 | 165 => 192 | 166 => 46 | 169 => 48 | 240 => 90 | 241 => 228 | 276 => 145 | 277 => 246 | n => n, fun | 31 => 50 | 9 => 9 | 3 => 3 | 4 => 4 | 0 => 0 | 20 => 20 | 72 => 93 | 76 => 98 | 70 => 91 | 37 => 22 | 75 => 97 | 127 => 141 | 164 => 190 | 5 => 5 | 80 => 101 | n => n, fun | n => n⟩
theorem YtgipnbeipfhekaaGreatDoor.lj156 : Go.Proofs.Lays.n156 Tryz.prog YtgipnbeipfhekaaGreatDoor.lj156_ren := {
 mixed := by kernel_rfl
 f156 := Tryz.func144.trans (congrArg some (by kernel_rfl))
 f165 := Tryz.func192.trans (congrArg some (by kernel_rfl))
 f166 := Tryz.func46.trans (congrArg some (by kernel_rfl))
 f169 := Tryz.func48.trans (congrArg some (by kernel_rfl))
 f240 := Tryz.func90.trans (congrArg some (by kernel_rfl))
 f241 := Tryz.func228.trans (congrArg some (by kernel_rfl))
 f276 := Tryz.func145.trans (congrArg some (by kernel_rfl))
 f277 := Tryz.func246.trans (congrArg some (by kernel_rfl))
 t0 := Tryz.underlying0
 a0 := Tryz.isAgg0
 z0 := Tryz.sizeOf0
 v0 := Tryz.zeroValue0
 t3 := Tryz.underlying3
 a3 := Tryz.isAgg3
 z3 := Tryz.sizeOf3
 v3 := Tryz.zeroValue3
 t4 := Tryz.underlying4
 a4 := Tryz.isAgg4
 z4 := Tryz.sizeOf4
 v4 := Tryz.zeroValue4
 t9 := Tryz.underlying9
 a9 := Tryz.isAgg9
 z9 := Tryz.sizeOf9
 v9 := Tryz.zeroValue9
 t20 := Tryz.underlying20
 a20 := Tryz.isAgg20
 z20 := Tryz.sizeOf20
 v20 := Tryz.zeroValue20
 t31 := Tryz.underlying50
 a31 := Tryz.isAgg50
 z31 := Tryz.sizeOf50
 v31 := Tryz.zeroValue50
 t37 := Tryz.underlying22
 a37 := Tryz.isAgg22
 z37 := Tryz.sizeOf22
 v37 := Tryz.zeroValue22
 t70 := Tryz.underlying91
 a70 := Tryz.isAgg91
 z70 := Tryz.sizeOf91
 v70 := Tryz.zeroValue91
 t72 := Tryz.underlying93
 a72 := Tryz.isAgg93
 z72 := Tryz.sizeOf93
 v72 := Tryz.zeroValue93
 t75 := Tryz.underlying97
 a75 := Tryz.isAgg97
 z75 := Tryz.sizeOf97
 v75 := Tryz.zeroValue97
 t76 := Tryz.underlying98
 a76 := Tryz.isAgg98
 z76 := Tryz.sizeOf98
 v76 := Tryz.zeroValue98
 t127 := Tryz.underlying141
 a127 := Tryz.isAgg141
 z127 := Tryz.sizeOf141
 v127 := Tryz.zeroValue141
 t164 := Tryz.underlying190
 a164 := Tryz.isAgg190
 z164 := Tryz.sizeOf190
 v164 := Tryz.zeroValue190 }
theorem YtgipnbeipfhekaaGreatDoor.ljx156 : Builder.Extra Tryz.prog YtgipnbeipfhekaaGreatDoor.lj156_ren where
 sizeBuilder := by kernel_rfl
 liesBuilder := by kernel_rfl
 t5 := Tryz.underlying5
 a5 := Tryz.isAgg5
 z5 := Tryz.sizeOf5
 v5 := Tryz.zeroValue5
 infoByte := by kernel_rfl
 cellsByte := by kernel_rfl
 sizeByte := by kernel_rfl
 neB5 := by decide
end Go.Proofs
namespace Go.Proofs.YtgipnbeipfhekaaGreatDoor
namespace LcG
open Go.RowKit Base Mem MemS LabM LabV StM StTx Dec Val Rd CarM
theorem join_own {w : World} {B c : Nat} {A : Option Addr} {ls : List (List UInt8)} (sep : List UInt8) (hO : w.ownsRow B 9 1 (.slice A ls.length c) ls.length (texts (ls.map tx))) (h0 : 0 < ls.length) (hn : ls.length ≤ 1000) (hlen : (Lib.join ls sep).length ≤ 100000) :
  Calls Tryz.prog 144 #[.slice A ls.length c, .string (tx sep)] w fun e w' => e = .returned (.string (tx (Lib.join ls sep))) ∧ Below w.heap.size w w' := by
 have hml : (ls.map tx).length = ls.length := List.length_map _
 obtain ⟨g, hA, hc, hg⟩ : ∃ g, A = some ⟨g, 0, none⟩ ∧ ls.length ≤ c ∧ g < w.heap.size := by
  rcases hO.2 with ⟨hv, h1⟩ | ⟨g, cap, cur, hv, _, h2, h3, _⟩
  ·omega
  ·injection hv with e1 e2 e3
   refine ⟨g, e1, by omega, ?_⟩
   rcases Nat.lt_or_ge g w.heap.size with hlt | hge
   ·exact hlt
   ·rw [Array.getElem?_eq_none hge] at h2; cases h2
 subst hA
 have e1 : (ls.map tx).map (·.data.toList) = ls := by rw [List.map_map]; exact (List.map_congr_left fun x _ => by simp).trans (List.map_id ls)
 have k := Any.strings_Join YtgipnbeipfhekaaGreatDoor.lj156 YtgipnbeipfhekaaGreatDoor.ljx156 g 0 c (ls.map tx) (tx sep) w (fun j x hj => by
  have hjl : j < ls.length := by have := (List.getElem?_eq_some_iff.1 hj).1; omega
  rw [Nat.zero_add, World.ownsRow.cellAt hO j (by omega)]
  simp only [texts, List.getElem?_map, hj, Option.map_some]) hg (by omega) (by omega) (by rw [e1, list_tx]; omega)
 rw [e1, list_tx, hml] at k
 exact k
set_option maxHeartbeats 2000000 in
set_option maxRecDepth 100000 in
theorem fracText_any (p q : Nat) (hp : p ≤ 1000000000000000000) (hq : q ≤ 1000000000000000000) (w : World) (ht : Tabs w) :
  Calls Tryz.prog 42 #[.agg #[.int .i64 (p : Int), .int .i64 (q : Int)]] w fun e w' => e = .returned (.string (tx (fracR p q))) ∧ Below w.heap.size w w' := by
 have hd1 := dec_len (u := p) (by omega)
 have hd2 := dec_len (u := q) (by omega)
 obtain ⟨W2, hW2⟩ : ∃ W2, W2 = w.alloc (.cells #[.int .i64 (p : Int), .int .i64 (q : Int)] 49) := ⟨_, rfl⟩
 have b2 : Below w.heap.size w W2 := by rw [hW2]; exact (Below.refl _ _).alloc (Nat.le_refl _) _
 have KF : Hid (Blk.Blk W2 w.heap.size 49 #[.int .i64 (p : Int), .int .i64 (q : Int)]) := J (by rw [hW2]; exact Blk.Blk.new w _ _)
 have HD := J (fun W (hb : Below W2.heap.size W2 W) => And.intro (decimal_any p (by omega) W.heap.size W (ht.on (Base.Below.nextA b2 hb)).1 (Nat.le_refl _)) (decimal_any q (by omega) W.heap.size W (ht.on (Base.Below.nextA b2 hb)).1 (Nat.le_refl _)))
 have HB := J b2
 have HW := J hW2
 by_cases h1 : q = 1
 ·have hf : fracR p q = Lib.decDigits p := by unfold fracR decI; rw [if_pos (by omega), Int.toNat_natCast]
  rw [hf]
  subst h1
  clear hW2 b2 ht hf
  go_enter Tryz.func42, Tryz.ntmps42
  go_wp2_with fail
  rw [show w.alloc (.cells #[.int .i64 (p : Int), .int .i64 1] 49) = W2 from HW.out.symm]
  refine (HD.out W2 (Below.refl _ _)).1.mono ?_
  rintro e w1 ⟨rfl, b1⟩
  have HB1 := J (Base.Below.nextA HB.out b1)
  clear b1
  go_wp2
  go_ret
  exact ⟨rfl, HB1.out⟩
 ·have hf : fracR p q = Lib.decDigits p ++ 47 :: Lib.decDigits q := by unfold fracR decI; rw [if_neg (by omega), Int.toNat_natCast, Int.toNat_natCast]
  rw [hf]
  have HA1 := J (addTx (Lib.decDigits p) [47] (by simp; omega))
  have HA2 := J (addTx (Lib.decDigits p ++ [47]) (Lib.decDigits q) (by simp; omega))
  rw [show Lib.decDigits p ++ [47] ++ Lib.decDigits q = Lib.decDigits p ++ 47 :: Lib.decDigits q by simp] at HA2
  have hq1 : ¬ ((q : Int) = 1) := by omega
  have hq2 : ((q : Int) == 1) = false := by simp only [beq_eq_false_iff_ne]; omega
  clear hW2 b2 ht hf hd1 hd2
  generalize tx (Lib.decDigits p ++ 47 :: Lib.decDigits q) = t3 at *
  generalize tx (Lib.decDigits p ++ [47]) = t2 at *
  generalize tx (Lib.decDigits p) = t1 at *
  generalize tx (Lib.decDigits q) = t0 at *
  go_enter Tryz.func42, Tryz.ntmps42
  go_wp2_with fail
  rw [← HW.out]
  refine Rel.wp_region_rel 8 (by kernel_rfl) (by kernel_rfl) (fun F hF => ?_)
  simp only [List.take_succ_cons, List.take_zero, List.drop_succ_cons, List.drop_zero, Rel.putL] at hF ⊢
  have HF := J hF
  clear hF
  have uv := @Rel.upon_value Tryz.prog
  have ue := @Rel.upon_enter Tryz.prog
  apply Rel.rel_pure
  apply Exists.intro
  refine ⟨fun vs wq hq hdp R hR => ?_, ?_⟩
  ·(rw [HF.out, Rel.stepAt_eq]; clear hdp; skip; go_simp; exact hR)
  apply Rel.rel_pure
  apply Exists.intro
  refine ⟨fun vs wq hq hdp R hR => ?_, ?_⟩
  ·(rw [HF.out, Rel.stepAt_eq]; have qd0 : vs 0 = _ := Rel.dep hdp 0 (by kernel_rfl); clear hdp; have x0 := (KF.out.belowS hq).at 0 (v := .int .i64 (p : Int)) rfl; go_simp; exact hR)
  apply Rel.rel_same
  apply Exists.intro
  refine ⟨fun vs wq hq hdp => ?_, ?_⟩
  ·(rw [HF.out, Rel.stepAt_eq]; have qd1 : vs 1 = _ := Rel.dep hdp 1 (by kernel_rfl); clear hdp; skip; go_simp; refine (HD.out wq hq).1.mono ?_; rintro e w7 ⟨rfl, hb⟩; exact ⟨_, rfl, rfl, hb⟩)
  apply Rel.rel_pure
  apply Exists.intro
  refine ⟨fun vs wq hq hdp R hR => ?_, ?_⟩
  ·(rw [HF.out, Rel.stepAt_eq]; have qd2 : vs 2 = _ := Rel.dep hdp 2 (by kernel_rfl); clear hdp; have ha := HA1.out; go_simp; exact hR)
  apply Rel.rel_pure
  apply Exists.intro
  refine ⟨fun vs wq hq hdp R hR => ?_, ?_⟩
  ·(rw [HF.out, Rel.stepAt_eq]; clear hdp; skip; go_simp; exact hR)
  apply Rel.rel_pure
  apply Exists.intro
  refine ⟨fun vs wq hq hdp R hR => ?_, ?_⟩
  ·(rw [HF.out, Rel.stepAt_eq]; have qd4 : vs 4 = _ := Rel.dep hdp 4 (by kernel_rfl); clear hdp; have x1 := (KF.out.belowS hq).at 1 (v := .int .i64 (q : Int)) rfl; go_simp; exact hR)
  apply Rel.rel_same
  apply Exists.intro
  refine ⟨fun vs wq hq hdp => ?_, ?_⟩
  ·(rw [HF.out, Rel.stepAt_eq]; have qd5 : vs 5 = _ := Rel.dep hdp 5 (by kernel_rfl); clear hdp; skip; go_simp; refine (HD.out wq hq).2.mono ?_; rintro e w7 ⟨rfl, hb⟩; exact ⟨_, rfl, rfl, hb⟩)
  apply Rel.rel_pure
  apply Exists.intro
  refine ⟨fun vs wq hq hdp R hR => ?_, ?_⟩
  ·(rw [HF.out, Rel.stepAt_eq]; have qd3 : vs 3 = _ := Rel.dep hdp 3 (by kernel_rfl); have qd6 : vs 6 = _ := Rel.dep hdp 6 (by kernel_rfl); clear hdp; have ha := HA2.out; go_simp; exact hR)
  refine Rel.rel_end (fun vs wq hq hall => ?_)
  rw [HF.out]
  have qe0 : vs 0 = _ := Rel.fin hall 0 (by decide)
  have qe1 : vs 1 = _ := Rel.fin hall 1 (by decide)
  have qe2 : vs 2 = _ := Rel.fin hall 2 (by decide)
  have qe3 : vs 3 = _ := Rel.fin hall 3 (by decide)
  have qe4 : vs 4 = _ := Rel.fin hall 4 (by decide)
  have qe5 : vs 5 = _ := Rel.fin hall 5 (by decide)
  have qe6 : vs 6 = _ := Rel.fin hall 6 (by decide)
  have qe7 : vs 7 = _ := Rel.fin hall 7 (by decide)
  clear hall HF uv ue
  have HBF := J (Base.Below.nextA HB.out hq)
  clear hq qe0 qe1 qe2 qe3 qe4 qe5 qe6
  go_wp2
  go_ret
  exact ⟨rfl, HBF.out⟩
end LcG
namespace LcG
open Go.RowKit Base Mem MemS LabM LabV StM StTx Dec Val Rd CarM
def PtRel (ls : List (List UInt8)) (w : World) (ov : Value) (i : Nat) (wr : World) : Prop := Hid (wr.ownsRow w.heap.size 9 1 ov i (texts ((ls.take i).map tx))) ∧ Hid (Below w.heap.size w wr)
theorem PtRel.nil (ls : List (List UInt8)) (w : World) : PtRel ls w (.slice (some ⟨w.heap.size, 0, none⟩) 0 0) 0 (w.alloc (.cells #[] 9)) :=
 ⟨J (by have := World.ownsRow_made (base := w.heap.size) (e := 9) (size := 1) w #[] 0 (Nat.le_refl _) (Nat.zero_le _) rfl; simpa [texts] using this), J ((Below.refl _ _).alloc (Nat.le_refl _) _)⟩
theorem PtRel.row {ls : List (List UInt8)} {w wr w2 : World} {ov : Value} {i : Nat} (h : PtRel ls w ov i wr) (hb : Below wr.heap.size wr w2) (t : ByteArray) : (w2.alloc (.cells #[.string t] 9)).ownsRow w.heap.size 9 1 ov i (texts ((ls.take i).map tx)) := World.ownsRow.alloc (ownsRow_below h.1.out hb) _
theorem PtRel.next {ls : List (List UInt8)} {w wr w2 w3 : World} {v v' : Value} {i : Nat} {d : List UInt8} (h : PtRel ls w v i wr) (hi : ls[i]? = some d) (hb : Below wr.heap.size wr w2)
  (hown : w3.ownsRow w.heap.size 9 1 v' (i + 1) (texts ((ls.take i).map tx) ++ [.string (tx d)])) (hg : (w2.alloc (.cells #[.string (tx d)] 9)).grownBy w3 v.ownBlock) : PtRel ls w v' (i + 1) w3 := by
 have e : texts ((ls.take (i + 1)).map tx) = texts ((ls.take i).map tx) ++ [.string (tx d)] := by rw [List.take_add_one, hi]; simp [texts]
 refine ⟨J (by rw [e]; exact hown), J ?_⟩
 have h1 := (h.row hb (tx d))
 have b2 := Base.Below.nextA h.2.out hb
 exact (b2.alloc b2.size _).trans (grown_below hg (fun q hq => (ownsRow_block h1 hq).choose_spec.2.1) (by have := b2.size; simp; omega))
theorem PtRel.form {ls : List (List UInt8)} {w wr : World} {v : Value} {i : Nat} (h : PtRel ls w v i wr) : ∃ A c, v = .slice A i c := by
 obtain ⟨A, c, e, _⟩ := ownsRow_form h.1.out
 exact ⟨A, c, e⟩
set_option maxHeartbeats 4000000 in
set_option maxRecDepth 100000 in
theorem listText_any (A : Option Addr) (c B : Nat) (xs : List Int) (w : World) (hx : RdI w B A xs) (hB : B ≤ w.heap.size) (hn : xs.length ≤ 40) (hr : ∀ x ∈ xs, 0 ≤ x ∧ x ≤ 1000000000000000000) (hlen : (Lib.join (xs.map decI) [44]).length ≤ 100000) (ht : Tabs w) :
  Calls Tryz.prog 142 #[.slice A xs.length c] w fun e w' => e = .returned (.string (tx (listR xs))) ∧ Below w.heap.size w w' := by
 obtain ⟨ix, hix, xz0, xz1, xz2⟩ := info_parts infoT
 have H0 := J (PtRel.nil (xs.map decI) w)
 have HX := J hx
 have HT := J ht
 have HR := J hr
 have HLN := J hlen
 clear hx hr ht hlen
 go_enter Tryz.func142, Tryz.ntmps142
 go_wp2
 go_loopw [3, 9] (fun ov iv wr => ∃ i : Nat, i ≤ xs.length ∧ iv = .int .i64 (i : Int) ∧ PtRel (xs.map decI) w ov i wr) (fun _ iv _ => xs.length - (intOf iv).toNat)
 case atStart => exact ⟨0, Nat.zero_le _, rfl, H0.out⟩
 case round =>
  obtain ⟨i, hi, rfl, HP⟩ := hrel
  obtain ⟨wo, rfl⟩ : ∃ x, x = wr := ⟨_, rfl⟩
  by_cases hlt : i < xs.length
  ·obtain ⟨b, off, rfl, hb2, hcc⟩ := (HX.out.below HP.2.out hB) (by omega)
   have g1 := hcc i hlt
   have hxi := HR.out _ (List.getElem_mem hlt)
   have hgd : xs.getD i 0 = xs[i] := by simp [List.getD, hlt]
   rw [hgd] at g1
   have hmi : (xs.map decI)[i]? = some (decI xs[i]) := by simp [hlt]
   obtain ⟨u, hu⟩ := Int.eq_ofNat_of_zero_le hxi.1
   rw [hu] at g1 hmi hxi
   have hde : decI ((u : Nat) : Int) = Lib.decDigits u := by unfold decI; rw [Int.toNat_natCast]
   rw [hde] at hmi
   have HD := J (decimal_any u (by omega) wo.heap.size wo (HT.out.on HP.2.out).1 (Nat.le_refl _))
   have HPP := J HP
   have HMI := J hmi
   obtain ⟨A1, c1, e5⟩ := HP.form
   subst e5
   clear H0 HP hcc hgd hmi hu hde
   go_wp2_with fail
   refine HD.out.mono ?_
   rintro e w2 ⟨rfl, hb⟩
   have HW := J (HPP.out.row hb (tx (Lib.decDigits u)))
   have HB2 := J hb
   have hs2 := hb.size
   have hs3 := HPP.out.2.out.size
   clear hb HD
   obtain ⟨d, hd⟩ : ∃ d, d = tx (Lib.decDigits u) := ⟨_, rfl⟩
   have HDD := J hd
   rw [← hd] at HW ⊢
   clear hd
   obtain ⟨Rw, hRw⟩ : ∃ R, R = texts (((xs.map decI).take i).map tx) := ⟨_, rfl⟩
   have HRW := J hRw
   rw [← hRw] at HW
   clear hRw
   go_wp2_with (at_builtin; refine wpList_append_own_at _ rfl (.tmp 13) (.tmp 16) 50 rfl w.heap.size 9 ix (.string ByteArray.empty) 1 16 Tryz.underlying50 hix xz0 xz1 xz2 rfl (by decide) _ _ _ rfl HW.out ⟨w2.heap.size, 0, none⟩ 1 1 [.string d] rfl rfl ?p1a ?p2a ?p3a ?p4a ?p5a ?_)
   try case p1a => exact news_one _ _ _ (by simp)
   try case p2a => first | rfl | (intro u hu; simp at hu; subst hu; rfl)
   try case p3a => first | (simp only [maxLen]; omega) | omega
   try case p4a => omega
   try case p5a => first | (simp only [World.size_alloc]; omega) | omega
   intro v' w3 hown' hg' _ he
   rw [HRW.out, HDD.out] at hown'
   rw [HDD.out] at hg'
   have HN := J (HPP.out.next HMI.out HB2.out hown' hg')
   clear hown' hg' he
   go_wp2
   go_roundw
   case rel => exact ⟨i + 1, by omega, by simp, HN.out⟩
   case measure => simp [intOf]; omega
  ·obtain rfl : i = xs.length := by omega
   obtain ⟨A1, c1, e5⟩ := HP.form
   subst e5
   by_cases h0 : xs.length = 0
   ·have hz : xs = [] := List.length_eq_zero_iff.1 h0
    have HBF := J HP.2.out
    have hl0 : (xs.length : Int) = 0 := by omega
    have hres : tx (listR xs) = ⟨#[110, 111, 110, 101]⟩ := by rw [hz]; rfl
    have HRS := J hres
    clear H0 HP HX HR HLN hz hlt hres
    go_wp2
    go_ret
    exact ⟨by rw [HRS.out]; rfl, HBF.out⟩
   ·have hrow := HP.1.out
    have hml : (xs.map decI).length = xs.length := List.length_map _
    rw [show (xs.map decI).take xs.length = xs.map decI by rw [← hml, List.take_length]] at hrow
    have HJ := J (join_own (B := w.heap.size) (c := c1) (A := A1) (ls := xs.map decI) [44] (by rw [hml]; exact hrow) (by omega) (by omega) HLN.out)
    rw [hml] at HJ
    have hres : listR xs = Lib.join (xs.map decI) [44] := by unfold listR joinR; rw [if_neg (fun e => h0 (by rw [e]; rfl))]
    have HRS := J hres
    have HBF := J HP.2.out
    have hl0 : ¬ ((xs.length : Int) = 0) := by omega
    have hl1 : ((xs.length : Int) == 0) = false := by simp only [beq_eq_false_iff_ne]; omega
    clear H0 HP HX HR HLN hrow hml hres
    go_wp2_with fail
    refine HJ.out.mono ?_
    rintro e w3 ⟨rfl, hb3⟩
    have HB3 := J (Base.Below.nextA HBF.out hb3)
    clear hb3
    go_wp2
    go_ret
    exact ⟨by rw [HRS.out]; rfl, HB3.out⟩
end LcG
namespace LcG
open Go.RowKit Base Mem MemS LabM LabV StM Str StTx Dec Val Rd CarM LcA LcC Take Face
end LcG
namespace LcG
open Go.RowKit Base Mem MemS LabM LabV StM Str StTx Dec Val Rd CarM LcA LcC Take Face
theorem fracsR_len (R : List Int) : ∀ k, (fracsR R k).length = k
 | 0 => rfl
 | k + 1 => by rw [fracsR, List.length_append, fracsR_len R k]; rfl
theorem fracsR_take (R : List Int) : ∀ (k i : Nat), i ≤ k → (fracsR R k).take i = fracsR R i
 | 0, i, hi => by
  have : i = 0 := by omega
  subst this; rfl
 | k + 1, i, hi => by
  by_cases h : i = k + 1
  ·subst h
   exact List.take_of_length_le (by rw [fracsR_len]; exact Nat.le_refl _)
  ·rw [fracsR, List.take_append_of_le_length (by rw [fracsR_len]; omega), fracsR_take R k i (by omega)]
theorem fracsR_get (R : List Int) {k i : Nat} (h : i < k) : (fracsR R k)[i]? = some (fracR (R.getD (2 * i) 0) (R.getD (2 * i + 1) 0)) := by
 have h1 := fracsR_take R k (i + 1) h
 have h2 : ((fracsR R k).take (i + 1))[i]? = (fracsR R k)[i]? := List.getElem?_take_of_lt (Nat.lt_succ_self i)
 rw [← h2, h1, fracsR, List.getElem?_append_right (by rw [fracsR_len]; exact Nat.le_refl _), fracsR_len, Nat.sub_self]
 rfl
end LcG
namespace LcG
open Go.RowKit Base Mem MemS LabM LabV StM StTx Dec Val Rd CutP RecJ CarM LcA
theorem rdT_put {w : World} {B : Nat} {A : Option Addr} {ss : List ByteArray} (h : RdT w B A ss) {p : Addr} {a : Option Addr} {n c : Nat} (hp : w.cell? p = some (.slice a n c)) (x : Value) : RdT (w.setCell p x) B A ss := fun h0 => by
 obtain ⟨b, off, e, hb, hc⟩ := h h0
 refine ⟨b, off, e, hb, fun i hi => ?_⟩
 rw [World.cell?_setCell_other w p _ x (fun e2 => by have := hc i hi; rw [← e2, hp] at this; cases this)]
 exact hc i hi
theorem rdS_put {w : World} {B n' : Nat} {A : Option Addr} {fs : List Int} (h : RdS w B A n' fs) {p : Addr} {a : Option Addr} {n c : Nat} (hp : w.cell? p = some (.slice a n c)) (x : Value) : RdS (w.setCell p x) B A n' fs := fun h0 => by
 obtain ⟨b, off, e, hb, hc⟩ := h h0
 refine ⟨b, off, e, hb, fun i hi => ?_⟩
 rw [World.cell?_setCell_other w p _ x (fun e2 => by have := hc i hi; rw [← e2, hp] at this; cases this)]
 exact hc i hi
theorem labPut {w : World} {v : Value} {L : Lb} (h : LabAt w v L) {p : Addr} {a : Option Addr} {n c : Nat} (hp : w.cell? p = some (.slice a n c)) (x : Value) : LabAt (w.setCell p x) v L := by
 obtain ⟨A, k, A', k', e, h1, h2, h3, h4⟩ := h
 refine ⟨A, k, A', k', e, ?_, ?_, h3.put p x, h4.put p x⟩
 ·have := rdT_put h1 hp x
  simpa using this
 ·have := rdS_put h2 hp x
  simpa using this
theorem labPut2 {w : World} {v : Value} {L : Lb} {b : Nat} {t : TypeId} {a1 a2 : Option Addr} {n1 n2 c1 c2 : Nat} (h : LabAt w v L) (hK : Blk.Blk w b t #[.slice a1 n1 c1, .slice a2 n2 c2]) (x y : Value) : LabAt ((w.setCell ⟨b, 0, none⟩ x).setCell ⟨b, 1, none⟩ y) v L :=
 labPut (labPut h (hK.at 0 (v := .slice a1 n1 c1) rfl) x) ((hK.setTo 0 x rfl).at 1 (v := .slice a2 n2 c2) rfl) y
end LcG
namespace LcG
open Go.RowKit Base Mem MemS LabM LabV StM StTx Dec Val Rd CutP RecJ CarM LcA
def CarRet (L' : Lb) (t : ByteArray) (w : World) (e : Ending) (w' : World) : Prop := ∃ v', e = .returned (.tuple #[v', .string t]) ∧ LabAt w' v' L' ∧ Below w.heap.size w w'
end LcG
namespace Jour
open Go.RowKit Base Mem Dec LabM Bld
def KeepB (b : Nat) (w w' : World) : Prop := w.heap.size ≤ w'.heap.size ∧ ∀ g cs t fr, g ≠ b → t ≠ 5 → w.heap[g]? = some (.cells cs t fr) → w'.heap[g]? = some (.cells cs t fr)
theorem KeepB.refl (b : Nat) (w : World) : KeepB b w w := ⟨Nat.le_refl _, fun _ _ _ _ _ _ h => h⟩
theorem KeepB.trans {b : Nat} {w w' w'' : World} (h : KeepB b w w') (k : KeepB b w' w'') : KeepB b w w'' := ⟨Nat.le_trans h.1 k.1, fun g cs t fr h1 h2 h3 => k.2 g cs t fr h1 h2 (h.2 g cs t fr h1 h2 h3)⟩
theorem KeepB.set (b i : Nat) (w : World) (v : Value) : KeepB b w (w.setCell ⟨b, i, none⟩ v) := by
 refine ⟨by simp, fun g cs t fr h1 h2 h3 => ?_⟩
 unfold World.setCell
 simp only [Array.getElem?_modify, if_neg (Ne.symm h1), h3]
theorem KeepB.grown {b B n : Nat} {w w' : World} {v : Value} {xs : List Value} (hg : w.grownBy w' v.ownBlock) (hO : w.ownsRow B 5 1 v n xs) : KeepB b w w' := by
 refine ⟨hg.size, fun g cs t fr h1 h2 h3 => ?_⟩
 have hlt : g < w.heap.size := by
  rcases Nat.lt_or_ge g w.heap.size with hlt | hge
  ·exact hlt
  ·rw [Array.getElem?_eq_none hge] at h3; cases h3
 rw [hg.block g hlt (fun e => by
  obtain ⟨cur, k, _⟩ := ownsRow_block hO e.symm
  rw [k] at h3
  injection h3 with h3
  injection h3 with _ h4
  exact h2 h4.symm)]
 exact h3
theorem keep_freeze {b g : Nat} {w : World} {cur : Array Value} {f0 : Nat × Nat} (hg : w.heap[g]? = some (.cells cur 5 f0)) (n : Nat) : KeepB b w (w.drew.freeze ⟨g, 0, none⟩ n) := by
 refine ⟨by unfold World.freeze; split <;> simp, fun g' cs t fr h1 h2 h3 => ?_⟩
 have hne : g ≠ g' := fun e => by
  subst e
  rw [hg] at h3
  injection h3 with h3
  injection h3 with _ h4
  exact h2 h4.symm
 unfold World.freeze
 split
 ·exact h3
 ·simp only [Array.getElem?_modify, if_neg hne]
  exact h3
theorem copyCheckK (B b : Nat) (bs : List Value) (w : World) (h : IsB B b bs w) :
  Calls Tryz.prog 90 #[.pointer (some ⟨b, 0, none⟩)] w fun e w' => e = .returned (.tuple #[]) ∧ Lib.BuilderAt 93 5 B b (.pointer (some ⟨b, 0, none⟩)) bs w' ∧ Below B w w' ∧ KeepB b w w' := by
 rcases h with h | h
 ·refine (copyCheck_fresh b w h.cell0 h.shape h.frozen0).mono ?_
  rintro e w' ⟨rfl, rfl⟩
  exact ⟨rfl, h.used _, (Below.refl B w).setCell (p := ⟨b, 0, none⟩) h.1 _, KeepB.set _ _ _ _⟩
 ·refine (copyCheck_used b w h.cell0).mono ?_
  rintro e w' ⟨rfl, rfl⟩
  exact ⟨rfl, h, Below.refl B _, KeepB.refl _ _⟩
set_option maxHeartbeats 2000000 in
set_option maxRecDepth 100000 in
theorem writeK_any (B b : Nat) (l : List UInt8) (s : ByteArray) (w : World) (h : IsJ B b l w) (hl : l.length + s.size ≤ 1099511627776) (hBw : B ≤ w.heap.size) :
  Calls Tryz.prog 46 #[.pointer (some ⟨b, 0, none⟩), .string s] w fun e w' => e = .returned (.tuple #[.int .i64 s.size, .nilIface]) ∧ IsJ B b (l ++ s.data.toList) w' ∧ Below B w w' ∧ KeepB b w w' := by
 obtain ⟨i0, hi, hz0, hz1, hz2⟩ := info_parts Dec.infoByte
 have hlb : (Lib.byteCells l).length = l.length := Lib.byteCells_length l
 go_enter Tryz.func46, Tryz.ntmps46
 go_wp2_with fail
 refine (copyCheckK B b (Lib.byteCells l) _ h).mono ?_
 rintro e w1 ⟨rfl, h1, hb1, hk1⟩
 obtain ⟨hB, v, hbk, hown, hne⟩ := h1
 have c0 : w1.cell? ⟨b, 0, none⟩ = some (.pointer (some ⟨b, 0, none⟩)) := by rw [Lib.cell_of_heap hbk]; rfl
 have c1 : w1.cell? ⟨b, 1, none⟩ = some v := by rw [Lib.cell_of_heap hbk]; rfl
 have HLB := J hlb
 clear hlb
 go_wp2_with (at_builtin; refine Lib.wpList_append_own_string _ rfl _ _ 22 9 rfl B 5 i0 Tryz.underlying22 Tryz.underlying9 hi hz0 hz1 hz2 _ _ _ rfl hown s rfl ?c3 ?c4 ?c5 ?_)
 case c3 => have := HLB.out; unfold maxLen; omega
 case c4 => have := HLB.out; omega
 case c5 => have := hb1.size; omega
 intro v' w2 hown' hgrow _
 have hlt : b < w1.heap.size := by
  rcases Nat.lt_or_ge b w1.heap.size with h' | h'
  ·exact h'
  ·simp [Array.getElem?_eq_none h'] at hbk
 have hb2 : w2.heap[b]? = some (.cells #[.pointer (some ⟨b, 0, none⟩), v] 93 (0, 0)) := by
  rw [hgrow.block b hlt (fun e => hne e.symm)]
  exact hbk
 have d0 : w2.cell? ⟨b, 0, none⟩ = some (.pointer (some ⟨b, 0, none⟩)) := by rw [Lib.cell_of_heap hb2]; rfl
 have d1 : w2.cell? ⟨b, 1, none⟩ = some v := by rw [Lib.cell_of_heap hb2]; rfl
 have f1 : w2.frozen? ⟨b, 1, none⟩ = false := Lib.frozen_of_heap hb2 1
 obtain ⟨ao, n', cap, rfl⟩ : ∃ ao n' cap, v' = .slice ao n' cap := by
  rcases hown'.2 with ⟨hv, _⟩ | ⟨g, cap, cur, hv, _⟩
  ·exact ⟨_, _, _, hv⟩
  ·exact ⟨_, _, _, hv⟩
 go_wp2
 go_ret2
 refine ⟨rfl, .inr ?_, ?_, (hk1.trans (KeepB.grown hgrow hown)).trans (KeepB.set _ _ _ _)⟩
 ·rw [Lib.byteCells_append]
  exact Lib.BuilderAt.put (T := 93) (e := 5) hB hb2 (bs' := Lib.byteCells l ++ Lib.strCells s) (by simpa [Lib.strCells_length] using hown') (by decide)
 ·exact (hb1.grown hgrow (by have := hb1.size; omega) (fun k hk => (hown.lt k hk).1)).setCell (p := ⟨b, 1, none⟩) hB _
set_option maxHeartbeats 1000000 in
set_option maxRecDepth 100000 in
theorem stringK_some (B b : Nat) (l : List UInt8) (w : World) (h : IsJ B b l w) (h0 : l ≠ []) :
  Calls Tryz.prog 48 #[.pointer (some ⟨b, 0, none⟩)] w fun e w' => e = .returned (.string ⟨l.toArray⟩) ∧ Below B w w' ∧ KeepB b w w' := by
 obtain ⟨p, hB, v, hbk, hown, hne⟩ : ∃ p, Lib.BuilderAt 93 5 B b p (Lib.byteCells l) w := by
  rcases h with h | h
  ·exact ⟨_, h⟩
  ·exact ⟨_, h⟩
 have hl0 : l.length ≠ 0 := by simpa using h0
 rw [Lib.byteCells_length] at hown
 obtain ⟨g, cap, cur, rfl, hbg, hg, hnc, hcm, hcs, htake⟩ : ∃ g cap cur, v = .slice (some ⟨g, 0, none⟩) l.length cap ∧ B ≤ g ∧ w.heap[g]? = some (.cells cur 5 (0, 0)) ∧ l.length ≤ cap ∧ cap ≤ maxLen ∧ cur.size = cap * 1 ∧ cur.toList.take (l.length * 1) = Lib.byteCells l := by
  rcases hown.2 with ⟨_, hz⟩ | ⟨g, cap, cur, hv, r⟩
  ·exact absurd hz hl0
  ·exact ⟨g, cap, cur, hv, r⟩
 have c1 : w.drew.cell? ⟨b, 1, none⟩ = some (.slice (some ⟨g, 0, none⟩) l.length cap) := by
  have : w.drew.heap[b]? = some (.cells #[p, .slice (some ⟨g, 0, none⟩) l.length cap] 93 (0, 0)) := hbk
  rw [Lib.cell_of_heap this]; rfl
 have hSD : (Builtin.unsafeSliceData_ #[22] 141 #[.slice (some ⟨g, 0, none⟩) l.length cap]).run Tryz.prog w.drew = .ok (.pointer (some ⟨g, 0, none⟩)) w.drew :=
  Lib.run_unsafeSliceData_row _ _ _ _ _ _ (by omega)
 have hUS : (Builtin.unsafeString_ #[141, 3] 9 #[.pointer (some ⟨g, 0, none⟩), .int .i64 l.length]).run Tryz.prog w.drew = .ok (.string ⟨l.toArray⟩) (w.drew.freeze ⟨g, 0, none⟩ l.length) := by
  refine Lib.run_unsafeString_row w.drew 141 3 9 5 Tryz.underlying141 cellsByte g cur.size (by have hg' : w.drew.heap[g]? = some (.cells cur 5 (0, 0)) := hg; simp [World.shape?, hg']) l h0 (by omega) (by unfold maxLen at hcm; omega) ?_
  intro j x hx
  have := hown.cells (g := g) rfl j (.int .u8 x.toNat) (by simp [Lib.byteCells, hx])
  exact this
 have mixed : Tryz.prog.follows .mixedOrders = true := by kernel_rfl
 go_enter Tryz.func48, Tryz.ntmps48
 go_wp2
 go_region_o
 all_goals (go_wp2; go_ret; exact ⟨rfl, Lib.below_freeze (Below.drew (Below.refl B w)) (p := ⟨g, 0, none⟩) hbg _, keep_freeze hg _⟩)
end Jour
end Go.Proofs.YtgipnbeipfhekaaGreatDoor
namespace Go.Proofs
open Go.Shelf
def YtgipnbeipfhekaaGreatDoor.lv100_ren : Go.Shelf.Ren := ⟨fun | 100 => 43 | 207 => 84 | n => n, fun | 9 => 9 | 4 => 4 | 3 => 3 | n => n, fun | n => n⟩
theorem YtgipnbeipfhekaaGreatDoor.lv100 : Go.Proofs.Lays.n100 Tryz.prog YtgipnbeipfhekaaGreatDoor.lv100_ren := {
 mixed := by kernel_rfl
 f100 := Tryz.func43.trans (congrArg some (by kernel_rfl))
 f207 := Tryz.func84.trans (congrArg some (by kernel_rfl))
 t3 := Tryz.underlying3
 a3 := Tryz.isAgg3
 z3 := Tryz.sizeOf3
 v3 := Tryz.zeroValue3
 t4 := Tryz.underlying4
 a4 := Tryz.isAgg4
 z4 := Tryz.sizeOf4
 v4 := Tryz.zeroValue4
 t9 := Tryz.underlying9
 a9 := Tryz.isAgg9
 z9 := Tryz.sizeOf9
 v9 := Tryz.zeroValue9 }
end Go.Proofs
namespace Go.Proofs.YtgipnbeipfhekaaGreatDoor
namespace LcG
open Go.RowKit Base Mem MemS LabM LabV StM StTx Dec Val Rd CutP RecJ CarM LcA LcC Jour
def CarC (L : Lb) (line : List UInt8) : Prop := ∀ v w, LabAt w v L → Tabs w → Calls Tryz.prog 45 #[v, .string (tx line)] w (CarRet (lineR L line).1 (tx (lineR L line).2) w)
def script (ls : List (List UInt8)) : List UInt8 := ls.flatMap (· ++ [10])
theorem cut_script : ∀ (ls : List (List UInt8)), (∀ x ∈ ls, ∀ c ∈ x, c ≠ 10) → cutR 10 (script ls) = ls ++ [[]]
 | [], _ => StrM.cut_end (fun x hx => by cases hx)
 | x :: r, h => by
  have e : script (x :: r) = x ++ 10 :: script r := by simp [script]
  rw [e, StrM.cut_at (h x List.mem_cons_self), cut_script r fun y hy => h y (List.mem_cons_of_mem _ hy)]
  rfl
theorem lines_snoc (x : List UInt8) : ∀ (ls : List (List UInt8)) (L : Lb), runR L (ls ++ [x]) = ((lineR (runR L ls).1 x).1, (runR L ls).2 ++ ((lineR (runR L ls).1 x).2 ++ [10]))
 | [], L => by simp [runR]
 | y :: r, L => by
  rw [List.cons_append, runR, runR, lines_snoc x r]
  simp
theorem suffix_script {ls : List (List UInt8)} (h : ls ≠ []) : Lib.hasSuffix (script ls) [10] = true := by
 obtain ⟨r, x, rfl⟩ : ∃ r x, ls = r ++ [x] := ⟨ls.dropLast, ls.getLast h, (List.dropLast_concat_getLast h).symm⟩
 unfold Lib.hasSuffix script
 rw [List.flatMap_append]
 exact List.isSuffixOf_iff_suffix.2 ⟨r.flatMap (· ++ [10]) ++ x, by simp⟩
theorem labKeep {w w' : World} {v : Value} {L : Lb} {b : Nat} {t : TypeId} {cs : Array Value} (h : LabAt w v L) (hk : KeepB b w w') (hb : Blk.Blk w b t cs) (h1 : t ≠ 9) (h2 : t ≠ 29) : LabAt w' v L := by
 obtain ⟨A, c, A', c', e, r1, r2, t1, t2⟩ := h
 have key : ∀ (q : Option Addr) (t' : TypeId), t ≠ t' → t' ≠ 5 → TyAt w q t' → ∀ b1 off sub, q = some ⟨b1, off, sub⟩ → w'.heap[b1]? = w.heap[b1]? := fun q t' hne hu ht b1 off sub e1 => by
  obtain ⟨cs1, fr1, k⟩ := ht b1 off sub e1
  rw [k]
  refine hk.2 b1 cs1 t' fr1 (fun e2 => ?_) hu k
  subst e2
  unfold Blk.Blk at hb
  rw [hb] at k
  injection k with k
  injection k with _ k2
  exact hne k2
 refine ⟨A, c, A', c', e, fun h0 => ?_, fun h0 => ?_, fun b1 off sub e1 => ?_, fun b1 off sub e1 => ?_⟩
 ·obtain ⟨b1, off, e1, hlt, hc⟩ := r1 h0
  have k := key A _ h1 (by decide) t1 b1 off none e1
  exact ⟨b1, off, e1, Nat.lt_of_lt_of_le hlt hk.1, fun i hi => (World.cell?_of_block (a := ⟨b1, off + i, none⟩) k).trans (hc i hi)⟩
 ·obtain ⟨b1, off, e1, hlt, hc⟩ := r2 h0
  have k := key A' _ h2 (by decide) t2 b1 off none e1
  exact ⟨b1, off, e1, Nat.lt_of_lt_of_le hlt hk.1, fun i hi => (World.cell?_of_block (a := ⟨b1, off + i, none⟩) k).trans (hc i hi)⟩
 ·obtain ⟨cs1, fr1, k⟩ := t1 b1 off sub e1
  exact ⟨cs1, fr1, (key A _ h1 (by decide) t1 b1 off sub e1).trans k⟩
 ·obtain ⟨cs1, fr1, k⟩ := t2 b1 off sub e1
  exact ⟨cs1, fr1, (key A' _ h2 (by decide) t2 b1 off sub e1).trans k⟩
theorem isJ_blk {B b : Nat} {l : List UInt8} {w : World} (h : IsJ B b l w) : B ≤ b ∧ ∃ cs, Blk.Blk w b 93 cs := by
 rcases h with ⟨h1, v, h2, _⟩ | ⟨h1, v, h2, _⟩
 ·exact ⟨h1, _, h2⟩
 ·exact ⟨h1, _, h2⟩
theorem isJ_put {B b b' : Nat} {l : List UInt8} {w : World} {cs : Array Value} (h : IsJ B b l w) (hK : Blk.Blk w b' 53 cs) (hne : b' ≠ b) (x y : Value) : IsJ B b l ((w.setCell ⟨b', 0, none⟩ x).setCell ⟨b', 1, none⟩ y) := by
 have key : ∀ {p : Value}, Lib.BuilderAt 93 5 B b p (Lib.byteCells l) w → Lib.BuilderAt 93 5 B b p (Lib.byteCells l) ((w.setCell ⟨b', 0, none⟩ x).setCell ⟨b', 1, none⟩ y) := fun {p} ⟨h1, v, h2, h3, h4⟩ => by
  refine ⟨h1, v, ?_, ownsRow_setCell_below' h3 hK 0 x 1 y, h4⟩
  unfold World.setCell
  simp only [Array.getElem?_modify, if_neg hne]
  exact h2
 rcases h with h | h
 ·exact .inl (key h)
 ·exact .inr (key h)
end LcG
namespace CopyR
open Go.RowKit Base
theorem run_copy_wide {P : Program} (w : World) (dT sT ty elem : TypeId) (size m b o dLen dCap : Nat) (a : Addr) (sLen sCap : Nat) (cs : List Value)
  (hu : P.underlying dT = some (.slice elem)) (hs : (P.info? elem).map (·.size) = some size) (hm : m = Nat.min sLen dLen) (hn : cs.length = m * size)
  (hsrc : ∀ j v, cs[j]? = some v → w.cell? (a.add j) = some v) (hc : ∀ j, j < cs.length → (w.cell? ⟨b, o + j, none⟩).isSome = true) (hf : ∀ j, j < cs.length → w.frozen? ⟨b, o + j, none⟩ = false) (h1 : ∀ v ∈ cs, v.oneCell' = true) :
  (Builtin.copy_ #[dT, sT] ty #[.slice (some ⟨b, o, none⟩) dLen dCap, .slice (some a) sLen sCap]).run P w = .ok (goInt m) (w.setCells b o cs) := by
 have hl := run_loadCells_list (P := P) w a cs hsrc
 have hst := run_storeCells_cells (P := P) b o cs 0 w (by simpa using hc) (by simpa using hf) h1
 cases hq : P.info? elem with
 | none => simp [hq] at hs
 | some i =>
  have hi : i.size = size := by simpa [hq] using hs
  simp [Builtin.copy_, run_underlying hu, Builtin.lenOf, Builtin.firstCells, sizeOf, typeInfo, hq, hi, ← hm, ← hn, hl, hst]
end CopyR
end Go.Proofs.YtgipnbeipfhekaaGreatDoor
namespace Go.Proofs
open Go.Shelf
def YtgipnbeipfhekaaGreatDoor.lcI22_ren : Go.Shelf.Ren := ⟨fun | 22 => 185 | 29 => 221 | 30 => 222 | 36 => 238 | 17 => 253 | n => n, fun | 24 => 50 | 9 => 9 | 3 => 3 | 4 => 4 | 0 => 0 | n => n, fun | n => n⟩
theorem YtgipnbeipfhekaaGreatDoor.lcI22 : Go.Proofs.Lays2.n22 Tryz.prog YtgipnbeipfhekaaGreatDoor.lcI22_ren := {
 mixed := by kernel_rfl
 f17 := Tryz.func253.trans (congrArg some (by kernel_rfl))
 f22 := Tryz.func185.trans (congrArg some (by kernel_rfl))
 f29 := Tryz.func221.trans (congrArg some (by kernel_rfl))
 f30 := Tryz.func222.trans (congrArg some (by kernel_rfl))
 f36 := Tryz.func238.trans (congrArg some (by kernel_rfl))
 t0 := Tryz.underlying0
 a0 := Tryz.isAgg0
 z0 := Tryz.sizeOf0
 v0 := Tryz.zeroValue0
 t3 := Tryz.underlying3
 a3 := Tryz.isAgg3
 z3 := Tryz.sizeOf3
 v3 := Tryz.zeroValue3
 t4 := Tryz.underlying4
 a4 := Tryz.isAgg4
 z4 := Tryz.sizeOf4
 v4 := Tryz.zeroValue4
 t9 := Tryz.underlying9
 a9 := Tryz.isAgg9
 z9 := Tryz.sizeOf9
 v9 := Tryz.zeroValue9
 t24 := Tryz.underlying50
 a24 := Tryz.isAgg50
 z24 := Tryz.sizeOf50
 v24 := Tryz.zeroValue50
 i9 := by kernel_rfl }
end Go.Proofs
namespace Go.Proofs.YtgipnbeipfhekaaGreatDoor
namespace LcM
open Go.RowKit Base Mem MemS LabM LabV StM CarM LcA
def spl (l : List Value) (o : Nat) (vs : List Value) : List Value := l.take o ++ vs ++ l.drop (o + vs.length)
theorem spl_len {l vs : List Value} {o : Nat} (h : o + vs.length ≤ l.length) : (spl l o vs).length = l.length := by
 unfold spl; simp; omega
theorem spl_nil (l : List Value) (o : Nat) : spl l o [] = l := by unfold spl; simp
theorem spl_cons {l r : List Value} {o : Nat} {v : Value} (h : o < l.length) : spl (l.set o v) (o + 1) r = spl l o (v :: r) := by
 unfold spl
 rw [List.drop_set_of_lt (by omega), show o + 1 + r.length = o + (v :: r).length by simp; omega, List.take_set]
 have e : (l.take (o + 1)).set o v = l.take o ++ [v] := by
  rw [List.take_succ_eq_append_getElem h, List.set_append_right _ _ (by simp; omega)]
  simp [Nat.min_eq_left (Nat.le_of_lt h)]
 rw [e]; simp
theorem heap_setCells (g : Nat) (e : TypeId) : ∀ (vs : List Value) (o : Nat) (w : World) (cs : Array Value), w.heap[g]? = some (.cells cs e (0, 0)) → o + vs.length ≤ cs.size → (w.setCells g o vs).heap[g]? = some (.cells (spl cs.toList o vs).toArray e (0, 0))
 | [], o, w, cs, h, _ => by rw [World.setCells, spl_nil]; exact h
 | v :: r, o, w, cs, h, hs => by
  rw [List.length_cons] at hs
  have ih := heap_setCells g e r (o + 1) (w.setCell ⟨g, o, none⟩ v) (cs.setIfInBounds o v) (heap_setCell_same w g o cs e v h) (by rw [Array.size_setIfInBounds]; omega)
  rw [Array.toList_setIfInBounds, spl_cons (by simp; omega)] at ih
  exact ih
theorem grown_setCells (g : Nat) : ∀ (vs : List Value) (o : Nat) (w : World), w.grownBy (w.setCells g o vs) (some g)
 | [], _, w => ⟨rfl, rfl, rfl, Nat.le_refl _, fun _ _ _ => rfl⟩
 | v :: r, o, w => grown_trans (Src.grown_setCell w ⟨g, o, none⟩ v) (grown_setCells g r (o + 1) _)
theorem spl_two {l xs news : List Value} {N a s : Nat} (hx : l.take N = xs) (ha : a ≤ N) (hs : news.length = s) (hl : N + s ≤ l.length) : (spl (spl l (a + s) (xs.drop a)) a news).take (N + s) = xs.take a ++ news ++ xs.drop a := by
 have hxl : xs.length = N := by rw [← hx, List.length_take]; omega
 have e1 : l.take a = xs.take a := by rw [← hx, List.take_take, Nat.min_eq_left ha]
 have hdl : (xs.drop a).length = N - a := by rw [List.length_drop, hxl]
 have hta : (l.take (a + s)).length = a + s := by rw [List.length_take]; omega
 obtain ⟨D, hD⟩ : ∃ D, D = xs.drop a := ⟨_, rfl⟩
 rw [← hD] at hdl ⊢
 have e2 : (spl l (a + s) D).take a = xs.take a := by
  unfold spl
  rw [List.append_assoc, List.take_append_of_le_length (by omega), List.take_take, Nat.min_eq_left (by omega), e1]
 have e3 : (spl l (a + s) D).drop (a + s) = D ++ l.drop (N + s) := by
  unfold spl
  rw [List.append_assoc, List.drop_append_of_le_length (by omega), List.drop_of_length_le (by omega), List.nil_append, hdl, show a + s + (N - a) = N + s by omega]
 rw [spl, e2, hs, e3]
 have hk : (xs.take a).length = a := by rw [List.length_take]; omega
 rw [show xs.take a ++ news ++ (D ++ l.drop (N + s)) = (xs.take a ++ news ++ D) ++ l.drop (N + s) by simp, List.take_append_of_le_length (by simp; omega), List.take_of_length_le (by simp; omega)]
theorem spl_grow {l xs news : List Value} {N a s : Nat} (hx : l.take a = xs.take a) (hxl : xs.length = N) (ha : a ≤ N) (hs : news.length = s) (hl : N + s ≤ l.length) : (spl (spl l a news) (a + s) (xs.drop a)).take (N + s) = xs.take a ++ news ++ xs.drop a := by
 have hdl : (xs.drop a).length = N - a := by rw [List.length_drop, hxl]
 obtain ⟨D, hD⟩ : ∃ D, D = xs.drop a := ⟨_, rfl⟩
 rw [← hD] at hdl ⊢
 have hk : (xs.take a).length = a := by rw [List.length_take]; omega
 have e2 : (spl l a news).take (a + s) = xs.take a ++ news := by
  unfold spl
  rw [hx, List.take_append_of_le_length (by simp; omega), List.take_of_length_le (by simp; omega)]
 rw [spl, e2, List.take_append_of_le_length (by simp; omega), List.take_of_length_le (by simp; omega)]
theorem drew_heap (w : World) : w.drew.heap = w.heap := rfl
theorem own_shift {w : World} {B g n c p sz : Nat} {e : TypeId} {xs news : List Value} (hO : w.ownsRow B e sz (.slice (some ⟨g, 0, none⟩) n c) n xs) (hp : p ≤ n) (hc : n + 1 ≤ c) (hs : news.length = sz) :
  ((w.drew.setCells g (p * sz + sz) (xs.drop (p * sz))).setCells g (p * sz) news).ownsRow B e sz (.slice (some ⟨g, 0, none⟩) (n + 1) c) (n + 1) (xs.take (p * sz) ++ news ++ xs.drop (p * sz)) ∧
  w.grownBy ((w.drew.setCells g (p * sz + sz) (xs.drop (p * sz))).setCells g (p * sz) news) (some g) := by
 have hlx := hO.1
 rcases hO.2 with ⟨h', _⟩ | ⟨g', cap, cur, h', hb, hg, hnc, hcm, hcs, htake⟩
 ·simp at h'
 ·simp only [Value.slice.injEq, Option.some.injEq, Addr.mk.injEq, and_true, true_and] at h'
  obtain ⟨rfl, rfl⟩ := h'
  have hpn : p * sz ≤ n * sz := Nat.mul_le_mul_right _ hp
  have hcn : n * sz + sz ≤ c * sz := by rw [← Nat.succ_mul]; exact Nat.mul_le_mul_right _ hc
  have hdl : (xs.drop (p * sz)).length = n * sz - p * sz := by rw [List.length_drop, hlx]
  have h1 := heap_setCells g e (xs.drop (p * sz)) (p * sz + sz) w.drew cur hg (by omega)
  have hl1 : (spl cur.toList (p * sz + sz) (xs.drop (p * sz))).length = c * sz := by rw [spl_len (by simp; omega)]; simpa using hcs
  have h2 := heap_setCells g e news (p * sz) _ _ h1 (by simp [hl1]; omega)
  refine ⟨⟨by rw [List.length_append, List.length_append, List.length_take, hdl, Nat.succ_mul]; omega, .inr ⟨g, c, _, rfl, hb, h2, hc, hcm, by simp; rw [spl_len (by rw [hl1]; omega), hl1], ?_⟩⟩, ?_⟩
  ·rw [Nat.succ_mul]
   exact spl_two htake hpn hs (by simp; omega)
  ·exact grown_trans (grown_trans (show w.grownBy w.drew (some g) from ⟨rfl, rfl, rfl, Nat.le_refl _, fun _ _ _ => rfl⟩) (grown_setCells g _ _ w.drew)) (grown_setCells g _ _ _)
theorem own_grow {w : World} {B n p sz G : Nat} {e : TypeId} {xs news : List Value} {R : Array Value} {row : Option Nat} (hB : B ≤ w.heap.size) (hlx : xs.length = n * sz) (hp : p ≤ n) (hs : news.length = sz) (hR : R.size = G * sz) (hRt : R.toList.take (p * sz) = xs.take (p * sz)) (hG : n + 1 ≤ G) (hGm : G ≤ maxLen) (hrow : ∀ q, row = some q → q < w.heap.size) :
  ((((w.alloc (.cells R e)).drew.setCells w.heap.size (p * sz) news).drew).setCells w.heap.size (p * sz + sz) (xs.drop (p * sz))).ownsRow B e sz (.slice (some ⟨w.heap.size, 0, none⟩) (n + 1) G) (n + 1) (xs.take (p * sz) ++ news ++ xs.drop (p * sz)) ∧
  w.grownBy ((((w.alloc (.cells R e)).drew.setCells w.heap.size (p * sz) news).drew).setCells w.heap.size (p * sz + sz) (xs.drop (p * sz))) row := by
 have hpn : p * sz ≤ n * sz := Nat.mul_le_mul_right _ hp
 have hcn : n * sz + sz ≤ G * sz := by rw [← Nat.succ_mul]; exact Nat.mul_le_mul_right _ hG
 have hdl : (xs.drop (p * sz)).length = n * sz - p * sz := by rw [List.length_drop, hlx]
 have h0 : (w.alloc (.cells R e)).drew.heap[w.heap.size]? = some (.cells R e (0, 0)) := by rw [drew_heap]; exact Blk.Blk.new w e R
 have h1 := heap_setCells w.heap.size e news (p * sz) _ R h0 (by omega)
 have hl1 : (spl R.toList (p * sz) news).length = G * sz := by rw [spl_len (by simp; omega)]; simpa using hR
 have h2 := heap_setCells w.heap.size e (xs.drop (p * sz)) (p * sz + sz) (((w.alloc (.cells R e)).drew.setCells w.heap.size (p * sz) news).drew) _ h1 (by simp [hl1]; omega)
 refine ⟨⟨by rw [List.length_append, List.length_append, List.length_take, hdl, Nat.succ_mul]; omega, .inr ⟨w.heap.size, G, _, rfl, hB, h2, hG, hGm, by simp; rw [spl_len (by rw [hl1]; omega), hl1], ?_⟩⟩, ?_⟩
 ·rw [Nat.succ_mul]
  exact spl_grow hRt hlx hpn hs (by simp; omega)
 ·have k1 := grown_setCells w.heap.size news (p * sz) (w.alloc (.cells R e)).drew
  have k2 := grown_setCells w.heap.size (xs.drop (p * sz)) (p * sz + sz) (((w.alloc (.cells R e)).drew.setCells w.heap.size (p * sz) news).drew)
  have k3 : w.grownBy (w.alloc (.cells R e)) (some w.heap.size) := ⟨rfl, rfl, rfl, by simp, fun k hk _ => ((Below.refl w.heap.size w).alloc (Nat.le_refl _) (.cells R e)).block k hk⟩
  have k4 := grown_trans (grown_trans (grown_trans k3 (show (w.alloc (.cells R e)).grownBy (w.alloc (.cells R e)).drew (some w.heap.size) from ⟨rfl, rfl, rfl, Nat.le_refl _, fun _ _ _ => rfl⟩)) k1) (grown_trans (show ((w.alloc (.cells R e)).drew.setCells w.heap.size (p * sz) news).grownBy ((w.alloc (.cells R e)).drew.setCells w.heap.size (p * sz) news).drew (some w.heap.size) from ⟨rfl, rfl, rfl, Nat.le_refl _, fun _ _ _ => rfl⟩) k2)
  exact ⟨k4.os, k4.tape, k4.output, k4.size, fun k hk _ => k4.block k hk (fun e2 => by injection e2 with e2; omega)⟩
theorem blk_shape {w : World} {b : Nat} {t : TypeId} {cs : Array Value} (h : Blk.Blk w b t cs) : w.shape? b = some (t, cs.size) := by
 unfold World.shape?
 rw [show w.heap[b]? = some (.cells cs t (0, 0)) from h]
theorem own_shape {w : World} {B g n c sz : Nat} {e : TypeId} {xs : List Value} (hO : w.ownsRow B e sz (.slice (some ⟨g, 0, none⟩) n c) n xs) : w.shape? g = some (e, c * sz) := by
 rcases hO.2 with ⟨h', _⟩ | ⟨g', cap, cur, h', hb, hg, hnc, hcm, hcs, htake⟩
 ·simp at h'
 ·simp only [Value.slice.injEq, Option.some.injEq, Addr.mk.injEq, and_true, true_and] at h'
  obtain ⟨rfl, rfl⟩ := h'
  unfold World.shape?
  rw [hg]
  show some (e, cur.size) = _
  rw [hcs]
theorem own_cells {w : World} {B g n c sz : Nat} {e : TypeId} {xs : List Value} (hO : w.ownsRow B e sz (.slice (some ⟨g, 0, none⟩) n c) n xs) :
  (∀ j v, xs[j]? = some v → w.cell? ⟨g, j, none⟩ = some v) ∧ (∀ j, j < c * sz → (w.cell? ⟨g, j, none⟩).isSome = true) ∧ (∀ j, w.frozen? ⟨g, j, none⟩ = false) ∧ n ≤ c ∧ c ≤ maxLen := by
 rcases hO.2 with ⟨h', _⟩ | ⟨g', cap, cur, h', hb, hg, hnc, hcm, hcs, htake⟩
 ·simp at h'
 ·simp only [Value.slice.injEq, Option.some.injEq, Addr.mk.injEq, and_true, true_and] at h'
  obtain ⟨rfl, rfl⟩ := h'
  refine ⟨fun j v hj => ?_, fun j hj => ?_, fun j => Lib.frozen_of_heap hg j, hnc, hcm⟩
  ·rw [← htake, List.getElem?_take] at hj
   split at hj
   ·simp only [World.cell?, hg]
    simpa using hj
   ·cases hj
  ·simp only [World.cell?, hg]
   rw [Array.getElem?_eq_getElem (by omega)]; rfl
set_option maxHeartbeats 2000000 in
theorem insT_mid (g n c B vb p : Nat) (xs : List Value) (x : Value) (w : World) (hO : w.ownsRow B 9 1 (.slice (some ⟨g, 0, none⟩) n c) n xs) (hB : B ≤ w.heap.size) (hn : n ≤ 1000) (hp : p < n) (hx : x.oneCell' = true) (h1 : ∀ u ∈ xs, u.oneCell' = true)
  (hv : Blk.Blk w vb 9 #[x]) (hne : vb ≠ g) :
  Calls Tryz.prog 185 #[.slice (some ⟨g, 0, none⟩) n c, .int .i64 (p : Int), .slice (some ⟨vb, 0, none⟩) 1 1] w fun e w' => ∃ A' c', e = .returned (.slice A' (n + 1) c') ∧ w'.ownsRow B 9 1 (.slice A' (n + 1) c') (n + 1) (xs.take p ++ [x] ++ xs.drop p) ∧ w.grownBy w' (some g) := by
 obtain ⟨k1, k2, k3, k4, k5⟩ := own_cells hO
 have hxl : xs.length = n := by simpa using hO.1
 have hm5 : maxLen = 9223372036854775807 := by unfold maxLen; omega
 have hvs : ∀ j v, [x][j]? = some v → w.cell? ⟨vb, 0 + j, none⟩ = some v := fun j v hj => by
  cases j with
  | zero => rw [Nat.zero_add]; exact hv.at 0 hj
  | succ j => simp at hj
 by_cases hc : n + 1 ≤ c
 ·refine (Any2.slices_Insert_string_shift YtgipnbeipfhekaaGreatDoor.lcI22 g 0 n c p vb 0 1 1 xs [x] w hp (by omega) hc (by omega) hne hxl rfl (fun j v hj => by rw [Nat.zero_add]; exact k1 j v hj) (fun j hj => by rw [Nat.zero_add]; exact k2 j (by omega)) (fun j _ => k3 _) hvs h1 (by simpa using hx) 9 9 1 c (blk_shape hv) (by simpa using own_shape hO) (by omega) (Lib.frozen_of_heap hv _) (Lib.frozen_of_heap hv _)).mono ?_
  rintro e w' ⟨rfl, rfl⟩
  have h := own_shift (news := [x]) hO (Nat.le_of_lt hp) hc rfl
  simp only [Nat.mul_one] at h
  refine ⟨_, _, rfl, ?_, ?_⟩
  ·simpa using h.1
  ·simpa using h.2
 ·refine (Any2.slices_Insert_string_grow YtgipnbeipfhekaaGreatDoor.lcI22 g 0 n c p vb 0 1 1 xs [x] w hp (by omega) k4 (by omega) (by omega) hxl rfl (fun j v hj => by rw [Nat.zero_add]; exact k1 j v hj) hvs h1 (by simpa using hx)).mono ?_
  rintro e w' ⟨rfl, rfl⟩
  obtain ⟨G, hG⟩ : ∃ G, G = grownCap w (n + 1) c 9 := ⟨_, rfl⟩
  have hG1 : n + 1 ≤ G := by rw [hG]; exact grownCap_ge w _ _ _
  have hG2 : G ≤ maxLen := by rw [hG]; exact grownCap_le_maxLen w (n + 1) c 9 (by omega)
  have hG' : grownCap w (n + 1) c ((YtgipnbeipfhekaaGreatDoor.lcI22_ren).t 9) = G := hG.symm
  rw [hG']
  have h := own_grow (w := w) (B := B) (n := n) (p := p) (sz := 1) (G := G) (e := 9) (xs := xs) (news := [x]) (R := (xs.take p).toArray ++ Builtin.zeroCells (Value.string ⟨#[]⟩).cells (n + 1 - p) ++ Builtin.zeroCells (Value.string ⟨#[]⟩).cells (G - (n + 1))) (row := some g) hB (by omega) (Nat.le_of_lt hp) rfl (by simp [Builtin.zeroCells, Value.cells]; omega) (by simp [Nat.min_eq_left, hxl, Nat.le_of_lt hp]) hG1 hG2 (fun q e => by injection e with e; subst e; obtain ⟨cur, h2, _, h3⟩ := ownsRow_block hO (g := g) rfl; exact h3)
  simp only [Nat.mul_one] at h
  exact ⟨_, _, rfl, h.1, h.2⟩
end LcM
namespace LcM
open Go.RowKit Base Mem MemS LabM LabV StM CarM LcA
open CopyR (run_copy_wide)
theorem hsz7 : (Tryz.prog.info? 29).map (·.size) = some 7 := by kernel_rfl
theorem szS7 : ∀ w, (Go.sizeOf 29).run Tryz.prog w = .ok 7 w := fun w => by
 obtain ⟨i0, hi, hz0, hz1, hz2⟩ := info_parts infoSt7
 simp [Go.sizeOf, typeInfo, hi, hz1]
set_option maxHeartbeats 4000000 in
set_option maxRecDepth 100000 in
theorem insS_shift (g n c B vb p : Nat) (xs news : List Value) (w : World) (hO : w.ownsRow B 29 7 (.slice (some ⟨g, 0, none⟩) n c) n xs) (hB : B ≤ w.heap.size) (hn : n ≤ 1000) (hp : p < n) (hl : news.length = 7) (hx : ∀ u ∈ news, u.oneCell' = true) (h1 : ∀ u ∈ xs, u.oneCell' = true)
  (hv : Blk.Blk w vb 29 news.toArray) (hne : vb ≠ g) (hc : n + 1 ≤ c) :
  Calls Tryz.prog 186 #[.slice (some ⟨g, 0, none⟩) n c, .int .i64 (p : Int), .slice (some ⟨vb, 0, none⟩) 1 1] w fun e w' => e = .returned (.slice (some ⟨g, 0, none⟩) (n + 1) c) ∧ w' = (w.drew.setCells g (p * 7 + 7) (xs.drop (p * 7))).setCells g (p * 7) news := by
 obtain ⟨k1, k2, k3, k4, k5⟩ := own_cells hO
 have hxl : xs.length = n * 7 := hO.1
 have hm5 : maxLen = 9223372036854775807 := by unfold maxLen; omega
 have hdl : (xs.drop (p * 7)).length = (n - p) * 7 := by rw [List.length_drop, hxl]; omega
 have hov : ∀ o lb cb, (callFunc 223 #[.slice (some ⟨vb, 0, none⟩) 1 1, .slice (some ⟨g, o, none⟩) lb cb]).run Tryz.prog w = .ok (.value (.bool false)) w := fun o lb cb => by
  rw [run_callFunc_extern Tryz.func223 (by kernel_rfl) (by kernel_rfl) (by kernel_rfl) (e := Extern.SlicesOverlaps.overlaps #[51, 51] #[4]) (by kernel_rfl),
   Lib.run_overlaps_apart w 51 4 29 Tryz.underlying51 7 szS7 ⟨vb, 0, none⟩ ⟨g, o, none⟩ 1 1 lb cb hne 29 29 news.toArray.size (c * 7) (blk_shape hv) (own_shape hO) (by omega) (Lib.frozen_of_heap hv _) (Lib.frozen_of_heap hv _)]
  rfl
 have hcp1 : ∀ ty dc sc, (Builtin.copy_ #[51, 51] ty #[.slice (some ⟨g, (p + 1) * 7, none⟩) (n - p) dc, .slice (some ⟨g, p * 7, none⟩) (n + 1 - p) sc]).run Tryz.prog w.drew = .ok (goInt (n - p : Nat)) (w.drew.setCells g ((p + 1) * 7) (xs.drop (p * 7))) := fun ty dc sc =>
  run_copy_wide w.drew _ _ ty 29 7 (n - p) g ((p + 1) * 7) (n - p) dc ⟨g, p * 7, none⟩ (n + 1 - p) sc (xs.drop (p * 7)) Tryz.underlying51 hsz7 (by simp only [Nat.min_def]; split <;> omega) hdl
   (fun j v hj => by rw [Addr.add_lit]; exact k1 (p * 7 + j) v (by rwa [List.getElem?_drop] at hj))
   (fun j hj => k2 _ (by omega)) (fun j hj => k3 _) (fun v hv => h1 v (List.mem_of_mem_drop hv))
 obtain ⟨W1, hW1⟩ : ∃ W1, W1 = w.drew.setCells g ((p + 1) * 7) (xs.drop (p * 7)) := ⟨_, rfl⟩
 have hsp1 : ∀ k, k < c * 7 → (W1.cell? ⟨g, k, none⟩).isSome = true := fun k hk => by
  rw [hW1]
  exact Go.Proofs.isSome_setCells g (xs.drop (p * 7)) ((p + 1) * 7) w.drew (fun j hj => k2 _ (by omega)) k (k2 k hk)
 have hcp2 : ∀ (W : World), (∀ x, W.cell? x = W1.cell? x) → (∀ x, W.frozen? x = W1.frozen? x) → ∀ ty dc, (Builtin.copy_ #[51, 51] ty #[.slice (some ⟨g, p * 7, none⟩) (n + 1 - p) dc, .slice (some ⟨vb, 0, none⟩) 1 1]).run Tryz.prog W = .ok (goInt (1 : Nat)) (W.setCells g (p * 7) news) := fun W hWc hWf ty dc =>
  run_copy_wide W _ _ ty 29 7 1 g (p * 7) (n + 1 - p) dc ⟨vb, 0, none⟩ 1 1 news Tryz.underlying51 hsz7 (by simp only [Nat.min_def]; split <;> omega) (by omega)
   (fun j v hj => by
    rw [Addr.add_lit, hWc, hW1, World.cell?_setCells_out g _ _ _ _ (fun h _ => absurd h hne)]
    rw [Nat.zero_add]
    exact hv.at j (by simpa using hj))
   (fun j hj => by rw [hWc]; exact hsp1 _ (by omega)) (fun j hj => by rw [hWf, hW1, World.frozen?_setCells]; exact k3 _) hx
 rw [show p * 7 + 7 = (p + 1) * 7 by omega, ← hW1]
 rw [← hW1] at hcp1
 have mixed : Tryz.prog.follows .mixedOrders = true := by kernel_rfl
 have hz2 : ¬ ((p : Int) = (n : Int)) := by omega
 have hple : p ≤ n := by omega
 have hw1 : IntKind.i64.wrap ((p : Int) + 1) = (p : Int) + 1 := by rw [IntKind.wrap_i64]; omega
 have hb1 : (0 : Int) ≤ (p : Int) + 1 := by omega
 have htn : ((p : Int) + 1).toNat = p + 1 := by omega
 have hb2 : ¬ (c = p + 1) := by omega
 have hb3 : (p : Int) ≤ (n : Int) + 1 := by omega
 have hb4 : ¬ (c = p) := by omega
 have hc63 : c ≤ 9223372036854775807 := by omega
 have HS := J (And.intro hO (And.intro hsp1 (And.intro k1 (And.intro k2 k3))))
 clear hO hsp1 k1 k2 k3 hxl hdl hW1 h1 hx hv
 go_enter Tryz.func186, Tryz.ntmps186
 go_wp2_with (simp only [hov])
 go_region_law_o (refine Go.Proofs.step_copy_runI rfl _ _ 51 51 rfl _ _ (by simp [Act.eval, Act.put]) (by simp [Act.eval, Act.put]) (hcp1 _ _ _) ?_)
 go_wp2_with (at_builtin; refine Go.Proofs.wpList_copy_runI _ rfl _ _ 51 51 rfl _ _ rfl rfl (hcp2 _ (fun _ => rfl) (fun _ => rfl) _ _) ?_)
 go_ret
 exact ⟨rfl, rfl⟩
abbrev zS7 : Value := .agg #[.int .i64 0, .int .i64 0, .int .i64 0, .int .i64 0, .int .i64 0, .int .i64 0, .int .i64 0]
set_option maxHeartbeats 4000000 in
set_option maxRecDepth 100000 in
theorem insS_grow (g n c B vb p : Nat) (xs news : List Value) (w : World) (hO : w.ownsRow B 29 7 (.slice (some ⟨g, 0, none⟩) n c) n xs) (hB : B ≤ w.heap.size) (hn : n ≤ 1000) (hp : p < n) (hl : news.length = 7) (hx : ∀ u ∈ news, u.oneCell' = true) (h1 : ∀ u ∈ xs, u.oneCell' = true)
  (hv : Blk.Blk w vb 29 news.toArray) (hc : ¬ n + 1 ≤ c) (G : Nat) (R : Array Value) (hG : G = grownCap w (n + 1) c 29) (hR : R = (xs.take (p * 7)).toArray ++ Builtin.zeroCells zS7.cells (n + 1 - p) ++ Builtin.zeroCells zS7.cells (G - (n + 1))) :
  Calls Tryz.prog 186 #[.slice (some ⟨g, 0, none⟩) n c, .int .i64 (p : Int), .slice (some ⟨vb, 0, none⟩) 1 1] w fun e w' => e = .returned (.slice (some ⟨w.heap.size, 0, none⟩) (n + 1) G) ∧ w' = (((w.alloc (.cells R 29)).drew.setCells w.heap.size (p * 7) news).drew).setCells w.heap.size (p * 7 + 7) (xs.drop (p * 7)) := by
 obtain ⟨k1, k2, k3, k4, k5⟩ := own_cells hO
 obtain ⟨i0, hi0, hz0, hzs, hzb⟩ := info_parts infoSt7
 have hgw : g < w.heap.size := (ownsRow_block hO (g := g) rfl).choose_spec.2.2
 have hxl : xs.length = n * 7 := hO.1
 have hm5 : maxLen = 9223372036854775807 := by unfold maxLen; omega
 have hdl : (xs.drop (p * 7)).length = (n - p) * 7 := by rw [List.length_drop, hxl]; omega
 have hvw : vb < w.heap.size := LcA.heap_lt hv
 have hik : p + (n + 1 - p) = n + 1 := by omega
 have hold : (Builtin.firstCells i0.size p (.slice (some ⟨g, 0, none⟩) p c)).run Tryz.prog w.drew = .ok (xs.take (p * 7)).toArray w.drew := by
  rw [hzs]
  exact run_firstCells_some w.drew 7 p ⟨g, 0, none⟩ p c (xs.take (p * 7)) (by rw [List.length_take]; omega) (fun j v hj => by
   rw [Addr.add_lit, Nat.zero_add]
   rw [List.getElem?_take] at hj
   split at hj
   ·exact k1 j v hj
   ·cases hj)
 have hrz : ∀ ty, (Builtin.append_ #[51, 3] ty #[.slice (some ⟨g, 0, none⟩) p c, .int .i64 ((n : Int) + 1 - (p : Int))]).run Tryz.prog w = .ok (.slice (some ⟨w.heap.size, 0, none⟩) (n + 1) G) (w.drew.alloc (.cells R 29)) := fun ty => by
  have h := Lib.run_append_grow_zeros w 51 3 ty 29 i0 _ .i64 .i64 Tryz.underlying51 Tryz.underlying3 hi0 hz0 (some ⟨g, 0, none⟩) p c (xs.take (p * 7)) hold (n + 1 - p) (by omega) (by omega) (by omega) (by omega) (by rw [hzb]; omega) (by rw [hzb, hik]; exact growslice_fits (by omega) (by omega))
  rw [hik, ← hG, show (n + 1 - p : Nat) = (n + 1 - p : Nat) from rfl] at h
  rw [show ((n : Int) + 1 - (p : Int)) = ((n + 1 - p : Nat) : Int) by omega, h, hR]
 have hGn : n + 1 ≤ G := by rw [hG]; exact grownCap_ge w _ _ _
 have hG63 : G ≤ 9223372036854775807 := by
  have := grownCap_le_maxLen w (n + 1) c 29 (by unfold maxLen; omega)
  rw [← hG] at this
  omega
 have hRl : (n + 1) * 7 ≤ R.size := by
  rw [hR]
  simp [Builtin.zeroCells, Value.cells]
  omega
 obtain ⟨W1, hW1⟩ : ∃ W1, W1 = w.drew.alloc (.cells R 29) := ⟨_, rfl⟩
 rw [← hW1] at hrz
 have hN : ∀ j, j < (n + 1) * 7 → (W1.cell? ⟨w.heap.size, j, none⟩).isSome = true := fun j hj => by
  rw [hW1, World.cell?_alloc_at (w := w.drew) R _ w.heap.size j rfl, Array.getElem?_eq_getElem (by omega)]; rfl
 have hNf : ∀ j, W1.frozen? ⟨w.heap.size, j, none⟩ = false := fun j => by rw [hW1]; exact World.frozen?_alloc_at (w := w.drew) R _ w.heap.size j rfl
 have hOb : ∀ j v, w.cell? ⟨g, j, none⟩ = some v → W1.cell? ⟨g, j, none⟩ = some v := fun j v h => by rw [hW1, World.cell?_alloc_past (w := w.drew) _ g j hgw]; exact h
 have hOv : ∀ j v, w.cell? ⟨vb, j, none⟩ = some v → W1.cell? ⟨vb, j, none⟩ = some v := fun j v h => by rw [hW1, World.cell?_alloc_past (w := w.drew) _ vb j hvw]; exact h
 have hcpA : ∀ (W : World), (∀ x, W.cell? x = W1.cell? x) → (∀ x, W.frozen? x = W1.frozen? x) → ∀ ty dc, (Builtin.copy_ #[51, 51] ty #[.slice (some ⟨w.heap.size, p * 7, none⟩) (n + 1 - p) dc, .slice (some ⟨vb, 0, none⟩) 1 1]).run Tryz.prog W = .ok (goInt (1 : Nat)) (W.setCells w.heap.size (p * 7) news) := fun W hWc hWf ty dc =>
  run_copy_wide W _ _ ty 29 7 1 w.heap.size (p * 7) (n + 1 - p) dc ⟨vb, 0, none⟩ 1 1 news Tryz.underlying51 hsz7 (by simp only [Nat.min_def]; split <;> omega) (by omega)
   (fun j v hj => by rw [Addr.add_lit, hWc, Nat.zero_add]; exact hOv _ v (hv.at j (by simpa using hj)))
   (fun j hj => by rw [hWc]; exact hN _ (by omega)) (fun j hj => by rw [hWf]; exact hNf _) hx
 have hcpB : ∀ (W : World), (∀ x, W.cell? x = (W1.setCells w.heap.size (p * 7) news).cell? x) → (∀ x, W.frozen? x = (W1.setCells w.heap.size (p * 7) news).frozen? x) → ∀ ty dc sc, (Builtin.copy_ #[51, 51] ty #[.slice (some ⟨w.heap.size, (p + 1) * 7, none⟩) (n - p) dc, .slice (some ⟨g, p * 7, none⟩) (n - p) sc]).run Tryz.prog W = .ok (goInt (n - p : Nat)) (W.setCells w.heap.size ((p + 1) * 7) (xs.drop (p * 7))) := fun W hWc hWf ty dc sc =>
  run_copy_wide W _ _ ty 29 7 (n - p) w.heap.size ((p + 1) * 7) (n - p) dc ⟨g, p * 7, none⟩ (n - p) sc (xs.drop (p * 7)) Tryz.underlying51 hsz7 (by simp only [Nat.min_def]; split <;> omega) hdl
   (fun j v hj => by
    rw [Addr.add_lit, hWc, World.cell?_setCells_out _ _ _ _ _ (fun h _ => absurd h (by show ¬ g = w.heap.size; omega))]
    exact hOb _ v (k1 (p * 7 + j) v (by rwa [List.getElem?_drop] at hj)))
   (fun j hj => by rw [hWc]; exact Go.Proofs.isSome_setCells _ _ _ _ (fun t ht => hN _ (by omega)) _ (hN _ (by omega)))
   (fun j hj => by rw [hWf, World.frozen?_setCells]; exact hNf _) (fun v hv => h1 v (List.mem_of_mem_drop hv))
 rw [show p * 7 + 7 = (p + 1) * 7 by omega]
 have mixed : Tryz.prog.follows .mixedOrders = true := by kernel_rfl
 have hz2 : ¬ ((p : Int) = (n : Int)) := by omega
 have hz3 : (c : Int) < (n : Int) + 1 := by omega
 have hple : p ≤ n := by omega
 have hp1 : p ≤ n + 1 := by omega
 have hGi : ¬ (G = p) := by omega
 have hGim : ¬ (G = p + 1) := by omega
 have hci : ¬ (c = p) := by omega
 have hw1 : IntKind.i64.wrap ((p : Int) + 1) = (p : Int) + 1 := by rw [IntKind.wrap_i64]; omega
 have hb1 : (0 : Int) ≤ (p : Int) + 1 := by omega
 have htn : ((p : Int) + 1).toNat = p + 1 := by omega
 have hb3 : (p : Int) ≤ (n : Int) := by omega
 subst hW1
 have hE1 : ∀ x, ((w.alloc (.cells R 29)).drew).cell? x = (w.drew.alloc (.cells R 29)).cell? x := fun x => rfl
 have hE2 : ∀ x, ((w.alloc (.cells R 29)).drew).frozen? x = (w.drew.alloc (.cells R 29)).frozen? x := fun x => rfl
 have hF1 : ∀ x, (((w.alloc (.cells R 29)).drew.setCells w.heap.size (p * 7) news).drew).cell? x = ((w.drew.alloc (.cells R 29)).setCells w.heap.size (p * 7) news).cell? x := fun x => rfl
 have hF2 : ∀ x, (((w.alloc (.cells R 29)).drew.setCells w.heap.size (p * 7) news).drew).frozen? x = ((w.drew.alloc (.cells R 29)).setCells w.heap.size (p * 7) news).frozen? x := fun x => rfl
 clear hold hG hR hRl hik hO hN hNf hOb hOv hv k1 k2 k3 hxl hdl hi0 hz0 hzs hzb h1 hx
 go_enter Tryz.func186, Tryz.ntmps186
 go_wp2_with (first
  | (at_builtin; refine Lib.wpList_append_run _ rfl _ _ _ _ rfl _ _ rfl rfl _ _ (hrz _) ?_)
  | (at_builtin; refine Go.Proofs.wpList_copy_runI _ rfl _ _ 51 51 rfl _ _ rfl rfl (hcpA _ hE1 hE2 _ _) ?_)
  | (at_builtin; refine Go.Proofs.wpList_copy_runI _ rfl _ _ 51 51 rfl _ _ rfl rfl (hcpB _ (fun _ => rfl) (fun _ => rfl) _ _ _) ?_))
 go_region_law_o (refine Go.Proofs.step_copy_runI rfl _ _ 51 51 rfl (.slice (some ⟨w.heap.size, (p + 1) * 7, none⟩) (n - p) (G - (p + 1))) (.slice (some ⟨g, p * 7, none⟩) (n - p) (c - p)) (by simp [Act.eval, Act.put]) (by simp [Act.eval, Act.put]) (hcpB _ hF1 hF2 3 (G - (p + 1)) (c - p)) ?_)
 go_wp2
 go_ret
 exact ⟨rfl, rfl⟩
set_option maxHeartbeats 2000000 in
theorem insS_mid (g n c B vb p : Nat) (xs news : List Value) (w : World) (hO : w.ownsRow B 29 7 (.slice (some ⟨g, 0, none⟩) n c) n xs) (hB : B ≤ w.heap.size) (hn : n ≤ 1000) (hp : p < n) (hl : news.length = 7) (hx : ∀ u ∈ news, u.oneCell' = true) (h1 : ∀ u ∈ xs, u.oneCell' = true)
  (hv : Blk.Blk w vb 29 news.toArray) (hne : vb ≠ g) :
  Calls Tryz.prog 186 #[.slice (some ⟨g, 0, none⟩) n c, .int .i64 (p : Int), .slice (some ⟨vb, 0, none⟩) 1 1] w fun e w' => ∃ A' c', e = .returned (.slice A' (n + 1) c') ∧ w'.ownsRow B 29 7 (.slice A' (n + 1) c') (n + 1) (xs.take (p * 7) ++ news ++ xs.drop (p * 7)) ∧ w.grownBy w' (some g) := by
 by_cases hc : n + 1 ≤ c
 ·refine (insS_shift g n c B vb p xs news w hO hB hn hp hl hx h1 hv hne hc).mono ?_
  rintro e w' ⟨rfl, rfl⟩
  have h := own_shift hO (Nat.le_of_lt hp) hc hl
  exact ⟨_, _, rfl, h.1, h.2⟩
 ·obtain ⟨G, hG⟩ : ∃ G, G = grownCap w (n + 1) c 29 := ⟨_, rfl⟩
  obtain ⟨R, hR⟩ : ∃ R, R = (xs.take (p * 7)).toArray ++ Builtin.zeroCells zS7.cells (n + 1 - p) ++ Builtin.zeroCells zS7.cells (G - (n + 1)) := ⟨_, rfl⟩
  have hxl : xs.length = n * 7 := hO.1
  have hm5 : maxLen = 9223372036854775807 := by unfold maxLen; omega
  refine (insS_grow g n c B vb p xs news w hO hB hn hp hl hx h1 hv hc G R hG hR).mono ?_
  rintro e w' ⟨rfl, rfl⟩
  have hG1 : n + 1 ≤ G := by rw [hG]; exact grownCap_ge w _ _ _
  have hG2 : G ≤ maxLen := by rw [hG]; exact grownCap_le_maxLen w (n + 1) c 29 (by omega)
  have h := own_grow (w := w) (B := B) (n := n) (p := p) (sz := 7) (G := G) (e := 29) (xs := xs) (news := news) (R := R) (row := some g) hB hxl (Nat.le_of_lt hp) hl (by rw [hR]; simp [Builtin.zeroCells, Value.cells]; omega) (by rw [hR]; simp; rw [List.take_append_of_le_length (by simp; omega), List.take_take, Nat.min_self]) hG1 hG2 (fun q e => by injection e with e; subst e; obtain ⟨cur, h2, _, h3⟩ := ownsRow_block hO (g := g) rfl; exact h3)
  exact ⟨_, _, rfl, h.1, h.2⟩
end LcM
end Go.Proofs.YtgipnbeipfhekaaGreatDoor

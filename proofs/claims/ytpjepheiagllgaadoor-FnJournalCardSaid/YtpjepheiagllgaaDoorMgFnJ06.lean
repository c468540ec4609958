/- The journal of lines, of the program; the law. -/
import Derived.Test.YtpjepheiagllgaaDoorMgFnJ05
import Derived.Test.YtpjepheiagllgaaDoorMgFnJ02
import Derived.Lib.IndexLaws
import Derived.Lib.Builder
import Derived.Shelf.Strings.Builder1
import Derived.Shelf.Strings.Search3
import Derived.Deep.RegionWith
namespace Go.Proofs
open Go.Shelf
def YtpjepheiagllgaaDoor.lays170_ren : Go.Shelf.Ren := ⟨fun | 170 => 18 | n => n, fun | 70 => 41 | 3 => 3 | 0 => 0 | 72 => 43 | 37 => 22 | 5 => 5 | n => n, fun | n => n⟩
theorem YtpjepheiagllgaaDoor.lays170 : Go.Proofs.Lays.n170 Tryd.prog YtpjepheiagllgaaDoor.lays170_ren := {
 mixed := by kernel_rfl
 f170 := Tryd.func18.trans (congrArg some (by kernel_rfl))
 t0 := Tryd.underlying0
 a0 := Tryd.isAgg0
 z0 := Tryd.sizeOf0
 v0 := Tryd.zeroValue0
 t3 := Tryd.underlying3
 a3 := Tryd.isAgg3
 z3 := Tryd.sizeOf3
 v3 := Tryd.zeroValue3
 t37 := Tryd.underlying22
 a37 := Tryd.isAgg22
 z37 := Tryd.sizeOf22
 v37 := Tryd.zeroValue22
 t70 := Tryd.underlying41
 a70 := Tryd.isAgg41
 z70 := Tryd.sizeOf41
 v70 := Tryd.zeroValue41
 t72 := Tryd.underlying43
 a72 := Tryd.isAgg43
 z72 := Tryd.sizeOf43
 v72 := Tryd.zeroValue43 }
def YtpjepheiagllgaaDoor.lays169_ren : Go.Shelf.Ren := ⟨fun | 169 => 19 | n => n, fun | 70 => 41 | 9 => 9 | 0 => 0 | 72 => 43 | 37 => 22 | 127 => 73 | 3 => 3 | 5 => 5 | n => n, fun | n => n⟩
theorem YtpjepheiagllgaaDoor.lays169 : Go.Proofs.Lays.n169 Tryd.prog YtpjepheiagllgaaDoor.lays169_ren := {
 mixed := by kernel_rfl
 f169 := Tryd.func19.trans (congrArg some (by kernel_rfl))
 t0 := Tryd.underlying0
 a0 := Tryd.isAgg0
 z0 := Tryd.sizeOf0
 v0 := Tryd.zeroValue0
 t3 := Tryd.underlying3
 a3 := Tryd.isAgg3
 z3 := Tryd.sizeOf3
 v3 := Tryd.zeroValue3
 t9 := Tryd.underlying9
 a9 := Tryd.isAgg9
 z9 := Tryd.sizeOf9
 v9 := Tryd.zeroValue9
 t37 := Tryd.underlying22
 a37 := Tryd.isAgg22
 z37 := Tryd.sizeOf22
 v37 := Tryd.zeroValue22
 t70 := Tryd.underlying41
 a70 := Tryd.isAgg41
 z70 := Tryd.sizeOf41
 v70 := Tryd.zeroValue41
 t72 := Tryd.underlying43
 a72 := Tryd.isAgg43
 z72 := Tryd.sizeOf43
 v72 := Tryd.zeroValue43
 t127 := Tryd.underlying73
 a127 := Tryd.isAgg73
 z127 := Tryd.sizeOf73
 v127 := Tryd.zeroValue73 }
def YtpjepheiagllgaaDoor.lays144_ren : Go.Shelf.Ren := ⟨fun | 144 => 17 | 143 => 31 | 219 => 43 | 217 => 50 | 225 => 51 | 224 => 52 | 267 => 53 | 266 => 56 | 314 => 57 | n => n, fun | 9 => 9 | 4 => 4 | 3 => 3 | 5 => 5 | 46 => 74 | 146 => 99 | 51 => 93 | n => n, fun | 1 => 1 | n => n⟩
theorem YtpjepheiagllgaaDoor.lays144 : Go.Proofs.Lays.n144 Tryd.prog YtpjepheiagllgaaDoor.lays144_ren := {
 mixed := by kernel_rfl
 f143 := Tryd.func31.trans (congrArg some (by kernel_rfl))
 f144 := Tryd.func17.trans (congrArg some (by kernel_rfl))
 f217 := Tryd.func50.trans (congrArg some (by kernel_rfl))
 f219 := Tryd.func43.trans (congrArg some (by kernel_rfl))
 f224 := Tryd.func52.trans (congrArg some (by kernel_rfl))
 f225 := Tryd.func51.trans (congrArg some (by kernel_rfl))
 f266 := Tryd.func56.trans (congrArg some (by kernel_rfl))
 f267 := Tryd.func53.trans (congrArg some (by kernel_rfl))
 f314 := Tryd.func57.trans (congrArg some (by kernel_rfl))
 t3 := Tryd.underlying3
 a3 := Tryd.isAgg3
 z3 := Tryd.sizeOf3
 v3 := Tryd.zeroValue3
 t4 := Tryd.underlying4
 a4 := Tryd.isAgg4
 z4 := Tryd.sizeOf4
 v4 := Tryd.zeroValue4
 t5 := Tryd.underlying5
 a5 := Tryd.isAgg5
 z5 := Tryd.sizeOf5
 v5 := Tryd.zeroValue5
 t9 := Tryd.underlying9
 a9 := Tryd.isAgg9
 z9 := Tryd.sizeOf9
 v9 := Tryd.zeroValue9
 t46 := Tryd.underlying74
 a46 := Tryd.isAgg74
 z46 := Tryd.sizeOf74
 v46 := Tryd.zeroValue74
 t51 := Tryd.underlying93
 a51 := Tryd.isAgg93
 z51 := Tryd.sizeOf93
 v51 := Tryd.zeroValue93
 t146 := Tryd.underlying99
 a146 := Tryd.isAgg99
 z146 := Tryd.sizeOf99
 v146 := Tryd.zeroValue99
 g1 := by kernel_rfl }
theorem YtpjepheiagllgaaDoor.extra169 : Builder.Extra Tryd.prog YtpjepheiagllgaaDoor.lays169_ren where
 sizeBuilder := by kernel_rfl
 liesBuilder := by kernel_rfl
 t5 := Tryd.underlying5
 a5 := Tryd.isAgg5
 z5 := Tryd.sizeOf5
 v5 := Tryd.zeroValue5
 infoByte := by kernel_rfl
 cellsByte := by kernel_rfl
 sizeByte := by kernel_rfl
 neB5 := by decide
end Go.Proofs
namespace Go.Proofs.YtpjepheiagllgaaDoor.Jour
open Go.RowKit Go.Proofs.YtpjepheiagllgaaDoor Go.Proofs.YtpjepheiagllgaaDoor.Base Go.Proofs.YtpjepheiagllgaaDoor.Mem Go.Proofs.YtpjepheiagllgaaDoor.Dec Go.Proofs.YtpjepheiagllgaaDoor.LabM
set_option linter.unusedVariables false
def IsJ (B b : Nat) (l : List UInt8) (w : World) : Prop := Lib.IsBuilder 43 5 B b (Lib.byteCells l) w
theorem IsJ.below {B b : Nat} {l : List UInt8} {w w' : World} (h : IsJ B b l w) (hb : Below w.heap.size w w') : IsJ B b l w' := by
 rcases h with ⟨h1, v, h2, h3, h4⟩ | ⟨h1, v, h2, h3, h4⟩
 ·have hlt : b < w.heap.size := Lib.BuilderAt.lt ⟨h1, v, h2, h3, h4⟩
  exact .inl ⟨h1, v, (hb.block b hlt).trans h2, ownsRow_below h3 hb, h4⟩
 ·have hlt : b < w.heap.size := Lib.BuilderAt.lt ⟨h1, v, h2, h3, h4⟩
  exact .inr ⟨h1, v, (hb.block b hlt).trans h2, ownsRow_below h3 hb, h4⟩
set_option maxHeartbeats 2000000 in
set_option maxRecDepth 100000 in
theorem writeJ_any (B b : Nat) (l : List UInt8) (s : ByteArray) (w : World) (h : IsJ B b l w) (hl : l.length + s.size ≤ 1099511627776) (hBw : B ≤ w.heap.size) :
  Calls Tryd.prog 15 #[.pointer (some ⟨b, 0, none⟩), .string s] w fun e w' => e = .returned (.tuple #[.int .i64 s.size, .nilIface]) ∧ IsJ B b (l ++ s.data.toList) w' ∧ Below B w w' := by
 obtain ⟨i0, hi, hz0, hz1, hz2⟩ := info_parts infoByte
 have hlb : (Lib.byteCells l).length = l.length := Lib.byteCells_length l
 go_enter Tryd.func15, Tryd.ntmps15
 go_wp2_with fail
 refine (Bld.copyCheck_any B b (Lib.byteCells l) _ h).mono ?_
 rintro e w1 ⟨rfl, h1, hb1⟩
 obtain ⟨hB, v, hbk, hown, hne⟩ := h1
 have c0 : w1.cell? ⟨b, 0, none⟩ = some (.pointer (some ⟨b, 0, none⟩)) := by rw [Lib.cell_of_heap hbk]; rfl
 have c1 : w1.cell? ⟨b, 1, none⟩ = some v := by rw [Lib.cell_of_heap hbk]; rfl
 have HLB := Lib.hid hlb
 clear hlb
 go_wp2_with (at_builtin; refine Lib.wpList_append_own_string _ rfl _ _ 22 9 rfl B 5 i0 Tryd.underlying22 Tryd.underlying9 hi hz0 hz1 hz2 _ _ _ rfl hown s rfl ?c3 ?c4 ?c5 ?_)
 case c3 => have := HLB.out; unfold maxLen; omega
 case c4 => have := HLB.out; omega
 case c5 => have := hb1.size; omega
 intro v' w2 hown' hgrow _
 have hlt : b < w1.heap.size := by
  rcases Nat.lt_or_ge b w1.heap.size with h' | h'
  ·exact h'
  ·simp [Array.getElem?_eq_none h'] at hbk
 have hb2 : w2.heap[b]? = some (.cells #[.pointer (some ⟨b, 0, none⟩), v] 43 (0, 0)) := by
  rw [hgrow.block b hlt (fun e => hne e.symm)]
  exact hbk
 have d0 : w2.cell? ⟨b, 0, none⟩ = some (.pointer (some ⟨b, 0, none⟩)) := by rw [Lib.cell_of_heap hb2]; rfl
 have d1 : w2.cell? ⟨b, 1, none⟩ = some v := by rw [Lib.cell_of_heap hb2]; rfl
 have f1 : w2.frozen? ⟨b, 1, none⟩ = false := Lib.frozen_of_heap hb2 1
 obtain ⟨ao, n', cap, rfl⟩ : ∃ ao n' cap, v' = .slice ao n' cap := by
  rcases hown'.2 with ⟨hv, _⟩ | ⟨g, cap, cur, hv, _⟩
  ·exact ⟨_, _, _, hv⟩
  ·exact ⟨_, _, _, hv⟩
 go_wp2
 go_ret2
 refine ⟨rfl, .inr ?_, ?_⟩
 ·rw [Lib.byteCells_append]
  exact Lib.BuilderAt.put (T := 43) (e := 5) hB hb2 (bs' := Lib.byteCells l ++ Lib.strCells s) (by simpa [Lib.strCells_length] using hown') (by decide)
 ·exact (hb1.grown hgrow (by have := hb1.size; omega) (fun k hk => (hown.lt k hk).1)).setCell (p := ⟨b, 1, none⟩) hB _
theorem lenJ_any (B b : Nat) (l : List UInt8) (w : World) (h : IsJ B b l w) : Calls Tryd.prog 18 #[.pointer (some ⟨b, 0, none⟩)] w fun e w' => e = .returned (.int .i64 (l.length : Int)) ∧ w = w' := by
 refine (Any.Builder_Len YtpjepheiagllgaaDoor.lays170 B b (Lib.byteCells l) w h).mono ?_
 rintro e w' ⟨rfl, rfl⟩
 exact ⟨by rw [Lib.byteCells_length], rfl⟩
theorem stringJ_any (B b : Nat) (l : List UInt8) (w : World) (h : IsJ B b l w) (hBw : B ≤ w.heap.size) : Calls Tryd.prog 19 #[.pointer (some ⟨b, 0, none⟩)] w fun e w' => e = .returned (.string (tx l)) ∧ Below B w w' :=
 Any.Builder_String_any YtpjepheiagllgaaDoor.lays169 YtpjepheiagllgaaDoor.extra169 B b l w h hBw
theorem nlB_index (s : ByteArray) : decide (0 ≤ Lib.indexByte s.data.toList 10) = nlB s := by
 have hsz : s.data.toList.length = s.size := by rw [Array.length_toList]; rfl
 by_cases h : Lib.indexByte s.data.toList 10 = -1
 ·rw [h]
  have hn := Lib.indexByte_none h
  have : ∀ n, nlIn s n = false := by
   intro n
   induction n with
   | zero => rfl
   | succ n ih =>
    rw [nlIn, ih, Bool.false_or]
    by_cases hi : n < s.size
    ·rw [dif_pos hi]
     have h2 := hn n
     rw [List.getElem?_eq_getElem (by omega)] at h2
     refine decide_eq_false fun e => h2 ?_
     congr 1
     apply UInt8.toNat_inj.1
     exact e
    ·rw [dif_neg hi]
  rw [nlB, this]; rfl
 ·have h0 := Lib.indexByte_ge s.data.toList 10
  obtain ⟨o, ho⟩ := Int.eq_ofNat_of_zero_le (show 0 ≤ Lib.indexByte s.data.toList 10 by omega)
  have hs := (Lib.indexByte_some ho).1
  have hlt : o < s.size := by
   rw [← hsz]
   exact (List.getElem?_eq_some_iff.1 hs).1
  have hv : s[o] = 10 := by
   have := (List.getElem?_eq_some_iff.1 hs).2
   exact this
  have : nlIn s (o + 1) = true := by
   rw [nlIn, dif_pos hlt, hv]
   simp
  rw [nlB, nlIn_yes this s.size hlt, ho]
  simp
theorem containsJ_any (s : ByteArray) (w : World) : Calls Tryd.prog 17 #[.string s, .string ⟨#[10]⟩] w fun e w' => e = .returned (.bool (nlB s)) ∧ w = w' := by
 refine (Any.strings_Contains_one YtpjepheiagllgaaDoor.lays144 s 10 w).mono ?_
 rintro e w' ⟨rfl, rfl⟩
 exact ⟨by rw [nlB_index], rfl⟩
set_option maxHeartbeats 2000000 in
theorem implJour_any (A : Option Addr) (c B : Nat) (ss : List ByteArray) (w : World) (hp : Pow w.heap.size w) (hx : RdT w B A ss) (hB : B ≤ w.heap.size) (hl : ss.length ≤ 1048576) (hs : ∀ i, i < ss.length → (getT ss i).size ≤ 1048576) :
  Calls Tryd.prog 7 #[.slice A ss.length c] w (JourRet ss w) := by
 have HX := Lib.hid hx
 have HS := Lib.hid hs
 have HP := Lib.hid hp
 obtain ⟨n, hn⟩ : ∃ n, n = ss.length := ⟨_, rfl⟩
 rw [← hn] at hl ⊢
 have HN := Lib.hid hn
 have H0 : Hid (IsJ w.heap.size w.heap.size [] (w.alloc (.cells #[.pointer none, .slice none 0 0] 43))) := Lib.hid (Lib.fresh_isBuilder _ _ w)
 have B0 : Hid (Below w.heap.size w (w.alloc (.cells #[.pointer none, .slice none 0 0] 43))) := Lib.hid ((Below.refl _ _).alloc (Nat.le_refl _) _)
 clear hx hn hs hp
 go_enter Tryd.func7, Tryd.ntmps7
 go_wp2
 go_loopw [5, 10] (fun v i wr => ∃ k : Nat, k ≤ n ∧ v = .int .i64 (ckTo ss k : Nat) ∧ i = .int .i64 (k : Int) ∧ Hid (nlTo ss k = false) ∧ Hid ((jourTo ss k).length ≤ 4000) ∧ Hid (IsJ w.heap.size w.heap.size (jourTo ss k) wr) ∧ Hid (Below w.heap.size w wr)) (fun _ i _ => n - (intOf i).toNat)
 case atStart => exact ⟨0, Nat.zero_le _, rfl, rfl, Lib.hid rfl, Lib.hid (by simp [jourTo]), Lib.hid H0.out, Lib.hid B0.out⟩
 case round =>
  obtain ⟨k, hk, rfl, rfl, HNl, HLe, HI, HB⟩ := hrel
  clear H0 B0
  by_cases hlt : k < n
  ·obtain ⟨b, off, rfl, hbB, hc⟩ := HX.out (by have := HN.out; omega)
   have g0 := (HB.out.cell (p := ⟨b, off + k, none⟩) (show b < w.heap.size by omega)).trans (hc k (by have := HN.out; omega))
   change wr.cell? ⟨b, off + k, none⟩ = some (.string (getT ss k)) at g0
   have hws := HB.out.size
   have hsz := HS.out k (by have := HN.out; omega)
   have hck := ckTo_lt ss k
   have hck1 := ckTo_lt ss (k + 1)
   have hJl := HLe.out
   have HK := Lib.hid (show chk (ckTo ss k) (getT ss k) = ckTo ss (k + 1) from rfl)
   have hdl := dec_len (u := ckTo ss (k + 1)) (by omega)
   have HJ := Lib.hid (show jourTo ss (k + 1) = jourTo ss k ++ lineJ (ckTo ss (k + 1)) (getT ss k) from rfl)
   have HC := Lib.hid (fun w => checkOf_any (ckTo ss k) (getT ss k) w hck (by omega))
   rw [HK.out] at HC
   have HD := Lib.hid (formatInt_any (ckTo ss (k + 1)) (by omega) w.heap.size wr (HP.out.on HB.out) hws)
   have HCo := Lib.hid (fun w => containsJ_any (getT ss k) w)
   have HNo := Lib.hid (fun (h : nlB (getT ss k) = true) => jourB_nl (ss := ss) (i := k + 1) (by have := HN.out; omega) (by rw [nlTo, h, Bool.or_true]))
   have HNo2 := Lib.hid (fun (h : 4000 < (jourTo ss (k + 1)).length) => jourB_len (ss := ss) (i := k + 1) (by have := HN.out; omega) h)
   have HYe := Lib.hid (fun (h : nlB (getT ss k) = false) => show nlTo ss (k + 1) = false by rw [nlTo, h, HNl.out]; rfl)
   have hj1 := lineJ_len (ckTo ss (k + 1)) (getT ss k) (by omega)
   have HZ : Hid ((jourTo ss (k + 1)).length ≤ 2097152) := Lib.hid (by rw [HJ.out, List.length_append]; omega)
   clear hc hj1
   generalize hnb : nlB (getT ss k) = nb at *
   clear hnb
   generalize hc1 : ckTo ss (k + 1) = c1 at *
   have HC1 := Lib.hid hc1
   clear hc1
   generalize ckTo ss k = c0 at *
   generalize hJ1 : jourTo ss (k + 1) = J1 at *
   have HJ1 := Lib.hid hJ1
   clear hJ1
   generalize jourTo ss k = J at *
   generalize getT ss k = s at *
   obtain ⟨d, hd⟩ : ∃ d, tx (Lib.decDigits c1) = d := ⟨_, rfl⟩
   have hdz : d.size ≤ 6 := by rw [← hd, size_tx]; exact hdl.2
   obtain ⟨a1, h1⟩ : ∃ a, d ++ (ByteArray.mk #[32]) = a := ⟨_, rfl⟩
   obtain ⟨a2, h2⟩ : ∃ a, a1 ++ s = a := ⟨_, rfl⟩
   obtain ⟨a3, h3⟩ : ∃ a, a2 ++ (ByteArray.mk #[10]) = a := ⟨_, rfl⟩
   have z1 : a1.size ≤ 7 := by rw [← h1, ByteArray.size_append]; show d.size + 1 ≤ 7; omega
   have z2 : a2.size ≤ 1048583 := by rw [← h2, ByteArray.size_append]; omega
   have z3 : a3.size ≤ 1048584 := by rw [← h3, ByteArray.size_append]; show a2.size + 1 ≤ _; omega
   have r1 := strAdd h1 (by show d.size + 1 ≤ _; omega)
   have r2 := strAdd h2 (by omega)
   have r3 := strAdd h3 (by show a2.size + 1 ≤ _; omega)
   have HA : Hid (J ++ a3.data.toList = J1) := Lib.hid (by
    rw [HJ.out, ← h3, ← h2, ← h1, ← hd]
    simp [lineJ])
   rw [hd] at HD
   clear hd h1 h2 h3 HJ HK hdl hJl
   go_wp2_with (first | (go_at_call 14; refine (HC.out _).mono ?_; rintro e w' ⟨rfl, rfl⟩) | (go_at_call 16; refine HD.out.mono ?_; rintro e w1 ⟨rfl, hb1⟩; refine Hid.out ?_))
   refine Lib.hid ?_
   have hw1 := hb1.size
   have HW := Lib.hid (writeJ_any w.heap.size w.heap.size J a3 w1 (HI.out.below hb1) (by have := HLe.out; omega) (by omega))
   rw [HA.out] at HW
   have HB1 := Lib.hid (HB.out.trans (hb1.mono hws))
   clear hb1 g0
   go_wp2_with (go_at_call 15; refine HW.out.mono ?_; rintro e w2 ⟨rfl, hI2, hb2⟩; refine Hid.out ?_)
   refine Lib.hid ?_
   have HI2 := Lib.hid hI2
   have HB2 := Lib.hid (HB1.out.trans hb2)
   have HLn := Lib.hid (lenJ_any _ _ _ _ hI2)
   have hJ1 := HZ.out
   clear hI2 hb2
   cases nb
   ·by_cases hbig : 4000 < J1.length
    ·have hbi : (4000 : Int) < (J1.length : Int) := by omega
     go_wp2_with (first | (go_at_call 17; refine (HCo.out _).mono ?_; rintro e w' ⟨rfl, rfl⟩) | (go_at_call 18; refine HLn.out.mono ?_; rintro e w' ⟨rfl, rfl⟩))
     go_ret2
     exact JourRet.no (HNo2.out hbig) HB2.out
    ·have hbi : ¬ ((4000 : Int) < (J1.length : Int)) := by omega
     go_wp2_with (first | (go_at_call 17; refine (HCo.out _).mono ?_; rintro e w' ⟨rfl, rfl⟩) | (go_at_call 18; refine HLn.out.mono ?_; rintro e w' ⟨rfl, rfl⟩))
     go_roundw
     case rel => exact ⟨k + 1, hlt, by rw [HC1.out], by go_num, Lib.hid (HYe.out (by first | rfl | trivial)), Lib.hid (by rw [HJ1.out]; omega), Lib.hid (by rw [HJ1.out]; exact HI2.out), Lib.hid HB2.out⟩
     case measure => simp [intOf]; omega
   ·go_wp2_with (first | (go_at_call 17; refine (HCo.out _).mono ?_; rintro e w' ⟨rfl, rfl⟩) | (go_at_call 18; refine HLn.out.mono ?_; rintro e w' ⟨rfl, rfl⟩))
    go_ret2
    exact JourRet.no (HNo.out (by first | rfl | trivial)) HB2.out
  ·obtain rfl : k = n := by omega
   have HE := Lib.hid (jourB_yes (ss := ss) (by rw [← HN.out]; exact HNl.out) (by rw [← HN.out]; exact HLe.out))
   have HR : Hid (jourR ss = jourTo ss k) := Lib.hid (by rw [jourR, if_pos HE.out, ← HN.out])
   have HC := Lib.hid (stringJ_any _ _ _ _ HI.out HB.out.size)
   go_wp2_with (go_at_call 19; refine HC.out.mono ?_; rintro e w1 ⟨rfl, hb1⟩)
   go_ret2
   exact ⟨by rw [HE.out, HR.out]; rfl, HB.out.trans hb1⟩
end Go.Proofs.YtpjepheiagllgaaDoor.Jour

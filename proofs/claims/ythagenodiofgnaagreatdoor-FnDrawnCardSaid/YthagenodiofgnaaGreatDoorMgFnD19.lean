/- Cards shuffled by choices, of the program and of the reference. -/
import Derived.Test.YthagenodiofgnaaGreatDoorMgFnD18
import Derived.Shelf.RegionOpenPlain
namespace Go.Proofs.YthagenodiofgnaaGreatDoor.Shuf
open Go.RowKit Go.Proofs.YthagenodiofgnaaGreatDoor Go.Proofs.YthagenodiofgnaaGreatDoor.Base Go.Proofs.YthagenodiofgnaaGreatDoor.Mem Go.Proofs.YthagenodiofgnaaGreatDoor.AllIn Go.Proofs.YthagenodiofgnaaGreatDoor.RevNet Go.Proofs.YthagenodiofgnaaGreatDoor.Shift
set_option linter.unusedVariables false
def ascL (n : Nat) : List Int := (List.range n).map fun (i : Nat) => ((i : Nat) : Int)
theorem ascL_len (n : Nat) : (ascL n).length = n := by simp [ascL]
theorem ascL_at (n i : Nat) (h : i < n) : (ascL n).getD i 0 = (i : Int) := by simp [ascL, List.getD, h]
def swapL (l : List Int) (i c : Nat) : List Int := (l.set i (l.getD c 0)).set c (l.getD i 0)
theorem swapL_len (l : List Int) (i c : Nat) : (swapL l i c).length = l.length := by simp [swapL]
def shufTo (n : Nat) (ch : List Int) : Nat → List Int
 | 0 => ascL n
 | j + 1 => swapL (shufTo n ch j) (n - 1 - j) (ch.getD j 0).toNat
theorem shufTo_len (n : Nat) (ch : List Int) : ∀ j, (shufTo n ch j).length = n
 | 0 => ascL_len n
 | j + 1 => by rw [shufTo, swapL_len, shufTo_len n ch j]
def ListMade (R : List Int) (w : World) (e : Ending) (w' : World) : Prop := ∃ A c, e = .returned (.slice A R.length c) ∧ OwnI w' w.heap.size (.slice A R.length c) R ∧ Below w.heap.size w w'
set_option maxHeartbeats 1000000 in
theorem first_any (n : Nat) (hn : n ≤ 12) (w : World) : Calls Tryz.prog 58 #[.int .i64 (n : Int)] w (ListMade (ascL n) w) := by
 obtain ⟨i0, hi, hz0, hz1, hz2⟩ := info_parts infoI
 have H0 := Lib.hid (IRel.start (ascL n) w)
 have HL := Lib.hid (ascL_len n)
 go_enter Tryz.func58, Tryz.ntmps58
 go_wp2
 go_loopw [3, 4] (fun o i wr => IRel (ascL n) w o i wr) (fun _ i _ => n - (intOf i).toNat)
 case atStart => exact H0.out
 case round =>
  obtain ⟨d, hd, rfl, hO, hb⟩ := hrel
  rw [HL.out] at hd
  by_cases hlt : d < n
  ·have HN := Lib.hid (fun v' w2 => IRel.next (L := ascL n) (w2 := w2) (v' := v') (by rw [HL.out]; exact hlt) hO hb ((Below.refl wr.heap.size wr).alloc (Nat.le_refl _) (.cells #[.int .i64 (d : Int)] 2)))
   have hlen : ((ascL n).take d).length = d := by rw [List.length_take, HL.out]; omega
   have hown := World.ownsRow.alloc hO (.cells #[.int .i64 (d : Int)] 2)
   rw [hlen] at hown
   rw [ascL_at n d hlt] at HN
   have hsz := hb.size
   have HW := Lib.hid hown
   clear hO hb hown hlen
   go_wp2_with (at_builtin; refine wpList_append_own_at _ rfl (.tmp 11) (.tmp 13) 32 rfl w.heap.size 2 i0 (.int .i64 0) 1 8 Tryz.underlying32 hi hz0 hz1 hz2 rfl (by decide) _ _ _ rfl HW.out ⟨wr.heap.size, 0, none⟩ 1 1 [.int .i64 (d : Int)] rfl rfl ?p1a ?p2a ?p3a ?p4a ?p5a ?_)
   try case p1a => exact news_one _ _ _ (by simp)
   try case p2a => first | exact one_int | rfl | simp
   try case p3a => first | (simp only [maxLen]; omega) | omega
   try case p4a => omega
   try case p5a => first | (simp only [World.size_alloc]; omega) | omega
   intro v' w2 hown' hg' _ he
   have HN2 := Lib.hid (HN.out v' w2 hown' hg')
   clear hown' hg' he HN HW
   go_wp2
   go_roundw
   case rel => exact HN2.out
   case measure => simp [intOf]; omega
  ·obtain rfl : d = n := by omega
   rw [show (ascL d).take d = ascL d from List.take_of_length_le (by rw [HL.out]; exact Nat.le_refl _)] at hO
   obtain ⟨A2, c2, e2, _⟩ := hO.form
   subst e2
   have HO := Lib.hid hO
   have HB := Lib.hid hb
   clear hO hb
   go_wp2
   go_ret
   exact ⟨A2, c2, rfl, HO.out, HB.out⟩
set_option maxHeartbeats 1000000 in
theorem ascending_any (n : Nat) (hn : n ≤ 12) (w : World) : Calls Tryz.prog 33 #[.int .i64 (n : Int)] w (ListMade (ascL n) w) := by
 obtain ⟨i0, hi, hz0, hz1, hz2⟩ := info_parts infoI
 have H0 := Lib.hid (IRel.start (ascL n) w)
 have HL := Lib.hid (ascL_len n)
 go_enter Tryz.func33, Tryz.ntmps33
 go_wp2
 go_loopw [3, 7] (fun o i wr => IRel (ascL n) w o i wr) (fun _ i _ => n - (intOf i).toNat)
 case atStart => exact H0.out
 case round =>
  obtain ⟨d, hd, rfl, hO, hb⟩ := hrel
  rw [HL.out] at hd
  by_cases hlt : d < n
  ·have HN := Lib.hid (fun v' w2 => IRel.next (L := ascL n) (w2 := w2) (v' := v') (by rw [HL.out]; exact hlt) hO hb ((Below.refl wr.heap.size wr).alloc (Nat.le_refl _) (.cells #[.int .i64 (d : Int)] 2)))
   have hlen : ((ascL n).take d).length = d := by rw [List.length_take, HL.out]; omega
   have hown := World.ownsRow.alloc hO (.cells #[.int .i64 (d : Int)] 2)
   rw [hlen] at hown
   rw [ascL_at n d hlt] at HN
   have hsz := hb.size
   have HW := Lib.hid hown
   clear hO hb hown hlen
   go_wp2_with (at_builtin; refine wpList_append_own_at _ rfl (.tmp 10) (.tmp 12) 32 rfl w.heap.size 2 i0 (.int .i64 0) 1 8 Tryz.underlying32 hi hz0 hz1 hz2 rfl (by decide) _ _ _ rfl HW.out ⟨wr.heap.size, 0, none⟩ 1 1 [.int .i64 (d : Int)] rfl rfl ?p1a ?p2a ?p3a ?p4a ?p5a ?_)
   try case p1a => exact news_one _ _ _ (by simp)
   try case p2a => first | exact one_int | rfl | simp
   try case p3a => first | (simp only [maxLen]; omega) | omega
   try case p4a => omega
   try case p5a => first | (simp only [World.size_alloc]; omega) | omega
   intro v' w2 hown' hg' _ he
   have HN2 := Lib.hid (HN.out v' w2 hown' hg')
   clear hown' hg' he HN HW
   go_wp2
   go_roundw
   case rel => exact HN2.out
   case measure => simp [intOf]; omega
  ·obtain rfl : d = n := by omega
   rw [show (ascL d).take d = ascL d from List.take_of_length_le (by rw [HL.out]; exact Nat.le_refl _)] at hO
   obtain ⟨A2, c2, e2, _⟩ := hO.form
   subst e2
   have HO := Lib.hid hO
   have HB := Lib.hid hb
   clear hO hb
   go_wp2
   go_ret
   exact ⟨A2, c2, rfl, HO.out, HB.out⟩
theorem swap_own {w : World} {B c0 g i c : Nat} {l : List Int} (h : OwnI w B (.slice (some ⟨g, 0, none⟩) l.length c0) l) (hi : i < l.length) (hc : c < l.length) :
  OwnI ((w.setCell ⟨g, i, none⟩ (.int .i64 (l.getD c 0))).setCell ⟨g, c, none⟩ (.int .i64 (l.getD i 0))) B (.slice (some ⟨g, 0, none⟩) l.length c0) (swapL l i c) ∧ w.grownBy ((w.setCell ⟨g, i, none⟩ (.int .i64 (l.getD c 0))).setCell ⟨g, c, none⟩ (.int .i64 (l.getD i 0))) (some g) := by
 unfold OwnI at *
 obtain ⟨h1, g1⟩ := h.stored i (.int .i64 (l.getD c 0))
 rw [ints_set] at h1
 obtain ⟨h2, g2⟩ := h1.stored c (.int .i64 (l.getD i 0))
 rw [ints_set] at h2
 refine ⟨?_, grown_trans g1 g2⟩
 rw [swapL_len]
 exact h2
def SwapRet (B n c0 g i c : Nat) (l : List Int) (w : World) (e : Ending) (w' : World) : Prop := e = .returned (.tuple #[]) ∧ OwnI w' B (.slice (some ⟨g, 0, none⟩) n c0) (swapL l i c) ∧ w.grownBy w' (some g)
set_option maxHeartbeats 1000000 in
theorem swap_any (B n c0 g i c : Nat) (l : List Int) (w : World) (h : OwnI w B (.slice (some ⟨g, 0, none⟩) n c0) l) (hn : l.length = n) (hi : i < n) (hc : c < n) (hm : n ≤ 12) :
  Calls Tryz.prog 59 #[.slice (some ⟨g, 0, none⟩) n c0, .int .i64 (i : Int), .int .i64 (c : Int)] w (SwapRet B n c0 g i c l w) := by
 subst hn
 have h' : w.ownsRow B 2 1 (.slice (some ⟨g, 0, none⟩) l.length c0) l.length (ints l) := h
 have e1 := World.ownsRow.cellAt h' i (by omega)
 have e2 := World.ownsRow.cellAt h' c (by omega)
 rw [ints_get l i (by omega)] at e1
 rw [ints_get l c (by omega)] at e2
 have f1 := h'.frozenAt i
 have f2 := h'.frozenAt c
 have HS := Lib.hid (swap_own h (i := i) (c := c) (by omega) (by omega))
 clear h h'
 by_cases hic : i = c
 ·subst hic
  generalize l.getD i 0 = x at *
  go_enter Tryz.func59, Tryz.ntmps59
  go_wp2
  exact bodyPost_ret (v := .tuple #[]) (by simp [results, Tryz.results59, go_sem]) rfl ⟨rfl, HS.out.1, HS.out.2⟩
 ·have hne : ¬ c = i := fun e => hic e.symm
  generalize l.getD i 0 = x at *
  generalize l.getD c 0 = y at *
  go_enter Tryz.func59, Tryz.ntmps59
  go_wp2
  exact bodyPost_ret (v := .tuple #[]) (by simp [results, Tryz.results59, go_sem]) rfl ⟨rfl, HS.out.1, HS.out.2⟩
def okCh (n : Nat) (ch : List Int) : Prop := n = ch.length + 1 ∧ n ≤ 12 ∧ ∀ j, j < ch.length → 0 ≤ ch.getD j 0 ∧ ch.getD j 0 ≤ ((n - 1 - j : Nat) : Int)
def ShufRet (n : Nat) (ch : List Int) (w : World) (e : Ending) (w' : World) : Prop := ∃ A c, e = .returned (.tuple #[.slice A n c, .bool true]) ∧ OwnI w' w.heap.size (.slice A n c) (shufTo n ch ch.length) ∧ Below w.heap.size w w'
def ShRel (n : Nat) (ch : List Int) (g c0 : Nat) (w : World) (j : Nat) (wr : World) : Prop := OwnI wr w.heap.size (.slice (some ⟨g, 0, none⟩) n c0) (shufTo n ch j) ∧ Below w.heap.size w wr
theorem shuf_next {n j g c0 : Nat} {ch : List Int} {w wr w2 : World} (h : ShRel n ch g c0 w j wr) (ho : OwnI w2 w.heap.size (.slice (some ⟨g, 0, none⟩) n c0) (swapL (shufTo n ch j) (n - 1 - j) (ch.getD j 0).toNat)) (hg : wr.grownBy w2 (some g)) (hgw : w.heap.size ≤ g) : ShRel n ch g c0 w (j + 1) w2 :=
 ⟨ho, h.2.trans (grown_below hg (fun q e => by injection e with e; omega) h.2.size)⟩
set_option maxHeartbeats 1000000 in
set_option maxRecDepth 100000 in
theorem specShuf_yes (n : Nat) (ch : List Int) (A : Option Addr) (c B : Nat) (w : World) (hx : RdI w B A ch) (hB : B ≤ w.heap.size) (hk : okCh n ch) :
  Calls Tryz.prog 32 #[.slice A ch.length c, .int .i64 0] w (ShufRet n ch w) := by
 obtain ⟨hn, hn2, hch⟩ := hk
 have HX := Lib.hid hx
 have HCh := Lib.hid hch
 have HF := Lib.hid (fun w => first_any n hn2 w)
 have hca : ((ch.length : Int) + 1) = (n : Int) := by omega
 have HCA := Lib.hid hca
 have HLn := Lib.hid (fun j => shufTo_len n ch j)
 have HN := Lib.hid hn
 have hch12 : ch.length ≤ 11 := by omega
 clear hx hch hn hca
 go_enter Tryz.func32, Tryz.ntmps32
 go_wp2_with fail
 rw [HCA.out]
 refine (HF.out _).mono ?_
 rintro e w1 ⟨A1, c1, rfl, o1, b1⟩
 have hlen := ascL_len n
 obtain ⟨A1', c1', e1, hA⟩ := OwnI.form o1
 rw [hlen] at hA
 obtain ⟨g, hg, hg1, hg2⟩ := hA (by have := HN.out; omega)
 injection e1 with e1 e2 e3
 subst e1 e3
 subst hg
 rw [hlen] at o1
 have H0 : Hid (ShRel n ch g c1 w 0 w1) := Lib.hid ⟨o1, b1⟩
 rw [hlen]
 clear o1 b1 hlen hg2 e2
 go_wp2
 go_loopw [8] (fun i wr => ∃ j k : Nat, j + k = ch.length ∧ i = .int .i64 (k : Int) ∧ ShRel n ch g c1 w j wr) (fun i _ => (intOf i).toNat)
 case atStart => exact ⟨0, ch.length, by omega, by congr 1; have := HN.out; omega, H0.out⟩
 case round =>
  obtain ⟨j, k, hjk, rfl, hS⟩ := hrel
  clear H0
  have hs := hS.2.size
  have HS := Lib.hid hS
  clear hS
  by_cases hk : 0 < k
  ·have hnj : n - 1 - j = k := by have := HN.out; omega
   obtain ⟨b, off, rfl, _, hc⟩ := (HX.out.below HS.out.2 hB) (by omega)
   have gc := hc j (by omega)
   have hin := HCh.out j (by omega)
   rw [hnj] at hin
   obtain ⟨x, hx⟩ := Int.eq_ofNat_of_zero_le hin.1
   rw [hx] at gc hin
   have hidx : (n : Int) - 1 - (k : Int) = (j : Int) := by omega
   have HC := Lib.hid (fun w => l00In_any (x : Int) 0 (k : Int) w)
   rw [inR_yes (n := (x : Int)) (lo := 0) (hi := (k : Int)) (by omega)] at HC
   have HSw := Lib.hid (swap_any w.heap.size n c1 g k x (shufTo n ch j) wr HS.out.1 (HLn.out j) (by have := HN.out; omega) (by have := HN.out; omega) hn2)
   have HNx := Lib.hid (fun w2 => shuf_next (w2 := w2) HS.out)
   rw [hnj, hx, Int.toNat_natCast] at HNx
   have hjn : (j : Int) < (ch.length : Int) := by omega
   clear hc hx hnj hin
   go_wp2_with fail
   refine (HC.out _).mono ?_
   rintro e w' ⟨rfl, rfl⟩
   go_wp2_with fail
   refine HSw.out.mono ?_
   rintro e w2 ⟨rfl, o2, g2⟩
   have HR := Lib.hid (HNx.out w2 o2 g2 hg1)
   clear o2 g2
   go_wp2
   go_roundw
   case rel => exact ⟨j + 1, k - 1, by omega, by congr 1; omega, HR.out⟩
   case measure => simp [intOf]; omega
  ·obtain rfl : k = 0 := by omega
   obtain rfl : j = ch.length := by omega
   go_wp2
   go_ret2
   exact ⟨some ⟨g, 0, none⟩, c1, rfl, HS.out.1, HS.out.2⟩
theorem isCards_any (n : Int) (w : World) : Calls Tryz.prog 29 #[.int .i64 n] w fun e w' => e = .returned (.bool (inR n 1 12)) ∧ w = w' := by
 go_enter Tryz.func29, Tryz.ntmps29
 go_wp2_with (go_at_call 19; refine (inRange_any _ _ _ _).mono ?_; rintro e w' ⟨rfl, rfl⟩)
 go_ret
 exact ⟨rfl, rfl⟩
theorem l07Many_any (n : Int) (w : World) : Calls Tryz.prog 31 #[.int .i64 n] w fun e w' => e = .returned (.bool (inR n 1 12)) ∧ w = w' := by
 go_enter Tryz.func31, Tryz.ntmps31
 go_wp2_with (go_at_call 22; refine (l00In_any _ _ _ _).mono ?_; rintro e w' ⟨rfl, rfl⟩)
 go_ret
 exact ⟨rfl, rfl⟩
set_option maxHeartbeats 1000000 in
set_option maxRecDepth 100000 in
theorem implShuf_yes (n : Nat) (ch : List Int) (A : Option Addr) (c B : Nat) (w : World) (hx : RdI w B A ch) (hB : B ≤ w.heap.size) (hk : okCh n ch) :
  Calls Tryz.prog 57 #[.slice A ch.length c, .int .i64 0] w (ShufRet n ch w) := by
 obtain ⟨hn, hn2, hch⟩ := hk
 have HX := Lib.hid hx
 have HCh := Lib.hid hch
 have HF := Lib.hid (fun w => ascending_any n hn2 w)
 have hca : ((ch.length : Int) + 1) = (n : Int) := by omega
 have HCA := Lib.hid hca
 have HLn := Lib.hid (fun j => shufTo_len n ch j)
 have HN := Lib.hid hn
 have hch12 : ch.length ≤ 11 := by omega
 have HCds := Lib.hid (fun w => isCards_any (n : Int) w)
 rw [inR_yes (n := (n : Int)) (lo := 1) (hi := 12) (by omega)] at HCds
 clear hx hch hn hca
 go_enter Tryz.func57, Tryz.ntmps57
 go_wp2_with fail
 refine (lenI_any _ _ _ _ (by omega)).mono ?_
 rintro e w' ⟨rfl, rfl⟩
 go_wp2_with fail
 rw [HCA.out]
 refine (HCds.out _).mono ?_
 rintro e w' ⟨rfl, rfl⟩
 go_wp2_with fail
 refine (HF.out _).mono ?_
 rintro e w1 ⟨A1, c1, rfl, o1, b1⟩
 have hlen := ascL_len n
 obtain ⟨A1', c1', e1, hA⟩ := OwnI.form o1
 rw [hlen] at hA
 obtain ⟨g, hg, hg1, hg2⟩ := hA (by have := HN.out; omega)
 injection e1 with e1 e2 e3
 subst e1 e3
 subst hg
 rw [hlen] at o1
 have H0 : Hid (ShRel n ch g c1 w 0 w1) := Lib.hid ⟨o1, b1⟩
 rw [hlen]
 clear o1 b1 hlen hg2 e2
 go_wp2
 go_loopw [21] (fun i wr => ∃ j k : Nat, j + k = ch.length ∧ i = .int .i64 (j : Int) ∧ ShRel n ch g c1 w j wr) (fun i _ => ch.length - (intOf i).toNat)
 case atStart => exact ⟨0, ch.length, by omega, rfl, H0.out⟩
 case round =>
  obtain ⟨j, k, hjk, rfl, hS⟩ := hrel
  clear H0
  have hs := hS.2.size
  have HS := Lib.hid hS
  clear hS
  by_cases hk : 0 < k
  ·have hnj : n - 1 - j = k := by have := HN.out; omega
   obtain ⟨b, off, rfl, _, hc⟩ := (HX.out.below HS.out.2 hB) (by omega)
   have gc := hc j (by omega)
   have hin := HCh.out j (by omega)
   rw [hnj] at hin
   obtain ⟨x, hx⟩ := Int.eq_ofNat_of_zero_le hin.1
   rw [hx] at gc hin
   have hidx : (n : Int) - 1 - (j : Int) = (k : Int) := by have := HN.out; omega
   have HC := Lib.hid (fun w => inRange_any (x : Int) 0 (k : Int) w)
   rw [inR_yes (n := (x : Int)) (lo := 0) (hi := (k : Int)) (by omega)] at HC
   have HNx := Lib.hid (fun w2 => shuf_next (w2 := w2) HS.out)
   rw [hnj, hx, Int.toNat_natCast] at HNx
   have hjn : (j : Int) < (ch.length : Int) := by omega
   have hl0 := HLn.out j
   have hO := HS.out.1
   have hO' : wr.ownsRow w.heap.size 2 1 (.slice (some ⟨g, 0, none⟩) (shufTo n ch j).length c1) (shufTo n ch j).length (ints (shufTo n ch j)) := by rw [hl0]; have := hO; unfold OwnI at this; rw [hl0] at this; exact this
   have e1 := World.ownsRow.cellAt hO' k (by have := HN.out; omega)
   have e2 := World.ownsRow.cellAt hO' x (by have := HN.out; omega)
   rw [ints_get _ k (by have := HN.out; omega)] at e1
   rw [ints_get _ x (by have := HN.out; omega)] at e2
   have f1 := hO'.frozenAt k
   have f2 := hO'.frozenAt x
   have HSo := Lib.hid (swap_own (l := shufTo n ch j) (w := wr) (B := w.heap.size) (c0 := c1) (g := g) hO' (i := k) (c := x) (by have := HN.out; omega) (by have := HN.out; omega))
   rw [hl0] at HSo
   have hkn : (k : Int) < (n : Int) := by have := HN.out; omega
   have hxn : (x : Int) < (n : Int) := by omega
   have HNN : n = j + k + 1 := by have := HN.out; omega
   have HN3 := Lib.hid HNN
   have mixed : Tryz.prog.follows .mixedOrders = true := by kernel_rfl
   clear hc hx hnj hin hO hO' hl0 HNN
   by_cases hkx : k = x
   ·subst hkx
    generalize (shufTo n ch j).getD k 0 = y1 at *
    go_wp2_with fail
    refine (HC.out _).mono ?_
    rintro e w' ⟨rfl, rfl⟩
    go_wp2_with fail
    go_region_o
    all_goals
     have HR := Lib.hid (HNx.out _ HSo.out.1 HSo.out.2 hg1)
     go_wp2
     go_roundw
     case rel => exact ⟨j + 1, k - 1, by omega, by go_num, OwnI.below HR.out.1 ((Below.refl _ _).drew), HR.out.2.drew⟩
     case measure => simp [intOf]; omega
   ·have hne : ¬ x = k := fun e => hkx e.symm
    generalize (shufTo n ch j).getD k 0 = y1 at *
    generalize (shufTo n ch j).getD x 0 = y2 at *
    go_wp2_with fail
    refine (HC.out _).mono ?_
    rintro e w' ⟨rfl, rfl⟩
    go_wp2_with fail
    go_region_o
    all_goals
     have HR := Lib.hid (HNx.out _ HSo.out.1 HSo.out.2 hg1)
     go_wp2
     go_roundw
     case rel => exact ⟨j + 1, k - 1, by omega, by go_num, OwnI.below HR.out.1 ((Below.refl _ _).drew), HR.out.2.drew⟩
     case measure => simp [intOf]; omega
  ·obtain rfl : k = 0 := by omega
   obtain rfl : j = ch.length := by omega
   go_wp2
   go_ret2
   exact ⟨some ⟨g, 0, none⟩, c1, rfl, HS.out.1, HS.out.2⟩
theorem implShufBy_yes (n : Nat) (ch : List Int) (A : Option Addr) (c B : Nat) (w : World) (hx : RdI w B A ch) (hB : B ≤ w.heap.size) (hk : okCh n ch) :
  Calls Tryz.prog 30 #[.slice A ch.length c] w (ShufRet n ch w) := by
 have HC := Lib.hid (implShuf_yes n ch A c B w hx hB hk)
 clear hx hk
 go_enter Tryz.func30, Tryz.ntmps30
 go_wp2_with fail
 refine HC.out.mono ?_
 rintro e w1 ⟨A1, c1, rfl, o1, b1⟩
 have O1 := Lib.hid o1
 have B1 := Lib.hid b1
 clear o1 b1
 go_wp2
 go_ret2
 exact ⟨A1, c1, rfl, O1.out, B1.out⟩
end Go.Proofs.YthagenodiofgnaaGreatDoor.Shuf

/- Journals of drawn lines that are cut and bent: the law walked. -/
import Derived.Test.YtpjepheiagllgaaDoorMgFnJ20
namespace Go.Proofs.YtpjepheiagllgaaDoor.JrnM
open Go.RowKit Go.Proofs.YtpjepheiagllgaaDoor Go.Proofs.YtpjepheiagllgaaDoor.Base Go.Proofs.YtpjepheiagllgaaDoor.Mem Go.Proofs.YtpjepheiagllgaaDoor.Dec Go.Proofs.YtpjepheiagllgaaDoor.LabM Go.Proofs.YtpjepheiagllgaaDoor.Jour Go.Proofs.YtpjepheiagllgaaDoor.RecJ Go.Proofs.YtpjepheiagllgaaDoor.JnM Go.Proofs.YtpjepheiagllgaaDoor.LabD
set_option linter.unusedVariables false
set_option maxHeartbeats 8000000 in
set_option maxRecDepth 100000 in
theorem journal_any (A A' : Option Addr) (c c' : Nat) (zs ys : List Int) (w : World) (hp : Pow w.heap.size w) (hx : RdB w w.heap.size A zs) (hy : RdB w w.heap.size A' ys) (hl : zs.length ≤ 9223372036854775807) (hl' : ys.length ≤ 9223372036854775807) (hz : ∀ z ∈ zs, 0 ≤ z ∧ z ≤ 255) (hz' : ∀ z ∈ ys, 0 ≤ z ∧ z ≤ 255) :
  Calls Tryd.prog 3 #[.slice A zs.length c, .slice A' ys.length c'] w fun e w' => e = .returned (.bool true) ∧ Below w.heap.size w w' := by
 have HL := Lib.hid (fun w => Cycled.b10Long_any A A' zs.length c ys.length c' w)
 have HLab := Lib.hid (b10Lab_any A' c' w.heap.size ys w hy (Nat.le_refl _) hl' hz')
 have HX := Lib.hid hx
 have HZ := Lib.hid hz
 have HY := Lib.hid hy
 have HZ' := Lib.hid hz'
 have HP : Hid (∀ w', Below w.heap.size w w' → Pow w'.heap.size w') := Lib.hid fun w' hb => fun w2 h2 => hp w2 (hb.trans (h2.mono hb.size))
 clear hx hz hy hz' hp
 cases hlong : Cycled.longB zs.length ys.length with
 | true =>
  rw [hlong] at HL
  clear hlong
  go_enter Tryd.func3, Tryd.ntmps3
  go_wp2_with fail
  refine (HL.out _).mono ?_
  rintro e w' ⟨rfl, rfl⟩
  go_wp2
  go_ret
  exact ⟨rfl, Below.refl _ _⟩
 | false =>
  rw [hlong] at HL
  clear hlong
  go_enter Tryd.func3, Tryd.ntmps3
  go_wp2_with fail
  refine (HL.out _).mono ?_
  rintro e w' ⟨rfl, rfl⟩
  go_wp2_with fail
  refine HLab.out.mono ?_
  rintro e w1 ⟨A1, A2, c1, c2, ss, rfl, hn, hg, r1, b1⟩
  have HLn := Lib.hid (b10Lines_any A c w.heap.size zs A1 A2 c1 c2 ss w1 (HX.out.below b1 (Nat.le_refl _)) b1.size hl HZ.out r1 hn hg)
  have B1 := Lib.hid b1
  clear r1 b1 hg hn HX HZ HLab HL
  go_wp2_with fail
  refine HLn.out.mono ?_
  rintro e w2 ⟨A3, c3, D, rfl, h6, hg, o2, b2⟩
  have B2 := Lib.hid (Base.Below.nextA B1.out b2)
  have RD2 := Lib.hid (show RdT w2 w2.heap.size A3 D from OwnT.rd (B := w1.heap.size) o2)
  obtain ⟨j1, j2, j3⟩ := jour_lines h6 hg
  have hnil : D ≠ [] → jl 0 (D.map fun s => s.data.toList) ≠ [] := jl_nil
  obtain ⟨J, hJ⟩ : ∃ J, J = jl 0 (D.map fun s => s.data.toList) := ⟨_, rfl⟩
  rw [← hJ] at j2 hnil
  rw [j2] at j3
  have HJ := Lib.hid (jour_a (c := c3) (HP.out w2 B2.out) RD2.out (Nat.le_refl _) (by omega) (fun i hi => by have := (hg i hi).1; show (D.getD i ByteArray.empty).size ≤ _; omega) j1 j2)
  have HRL := Lib.hid (fun a ha => rec_lines D (fun i hi => (hg i hi).2) J hJ j3 a ha)
  obtain ⟨t, ht⟩ : ∃ t, t = tx J := ⟨_, rfl⟩
  have htz : t.size = J.length := by rw [ht, size_tx]
  have HT := Lib.hid ht
  rw [← ht] at HJ
  have HHt0 : Hid ((t.size : Int) ≤ 4000 ∧ D.length ≤ 6) := Lib.hid ⟨by omega, h6⟩
  clear ht o2 b2 hJ j1 j2 HLn
  go_wp2_with fail
  refine HJ.out.mono ?_
  rintro e w3 ⟨rfl, b3⟩
  have B3 := Lib.hid (Base.Below.nextA B2.out b3)
  have RD3 := Lib.hid (RD2.out.below b3 (Nat.le_refl _))
  have hsz3 := b3.size
  clear b3 HJ RD2 hg
  by_cases h0 : J.length = 0
  ·have hd : D = [] := Classical.byContradiction fun h => hnil h (List.eq_nil_of_length_eq_zero h0)
   subst hd
   have ht0 : t.size = 0 := by omega
   go_wp2
   go_ret
   exact ⟨rfl, B3.out⟩
  ·have ht0 : ¬ ((t.size : Int) = 0) := by omega
   have hAt := Lib.hid (fun i n hi hn => ApartL.b10At_any A' c' w.heap.size ys i n w3 HZ'.out hl' (HY.out.below B3.out (Nat.le_refl _)) hi hn)
   clear hnil
   go_wp2_with fail
   refine (hAt.out 0 256 (.inl rfl) (by decide)).mono ?_
   rintro e w' ⟨p0, hp0, hp1, rfl, rfl⟩
   go_wp2_with fail
   refine (hAt.out 1 256 (.inr rfl) (by decide)).mono ?_
   rintro e w' ⟨q0, hq0, hq1, rfl, rfl⟩
   have ha0 : 0 ≤ (p0 * 256 + q0) % (t.size : Int) := Int.emod_nonneg _ (by omega)
   have ha1 : (p0 * 256 + q0) % (t.size : Int) < (t.size : Int) := Int.emod_lt_of_pos _ (by omega)
   have hat : (p0 * 256 + q0).tmod (t.size : Int) = (p0 * 256 + q0) % (t.size : Int) := Int.tmod_eq_emod_of_nonneg (by omega)
   obtain ⟨a, haa⟩ := Int.eq_ofNat_of_zero_le ha0
   rw [haa] at ha1 hat
   rw [Int.ofNat_lt] at ha1
   obtain ⟨q1, q2, q3⟩ := HRL.out a (by omega)
   have h4k : J.length ≤ 4000 := j3
   obtain ⟨g1, g2, g3⟩ := rec_back (J.take a) (by rw [List.length_take]; omega)
   obtain ⟨s1, s2⟩ := rec_small (J.take a) (by rw [List.length_take]; omega)
   have HM := Lib.hid (fun b hb => rec_bent J j3 a (by omega) b hb)
   have HR := Lib.hid (rec_a (l := J.take a) (by rw [List.length_take]; omega) (HP.out w3 B3.out))
   rw [q1] at HR
   have HTa : Hid (t.extract 0 a = tx (J.take a)) := Lib.hid (by rw [HT.out, ext_tx]; rfl)
   have ha2 : (a : Int) ≤ (t.size : Int) := by omega
   have han : (recO (tx (J.take a))).2 ≤ a := by rw [List.length_take] at g3; omega
   obtain ⟨n, hn⟩ : ∃ n, n = (recO (tx (J.take a))).2 := ⟨_, rfl⟩
   rw [← hn] at HR g2 han
   replace HM := Lib.hid (fun b hb => hn ▸ HM.out b hb)
   have g2' : jourR (txs (recO (tx (J.take a))).1) = J.take n := by rw [g2, List.take_take, Nat.min_eq_left han]
   have HTn : Hid (t.extract 0 n = tx (J.take n)) := Lib.hid (by rw [HT.out, ext_tx]; rfl)
   have q1' := txs_length (recO (tx (J.take a))).1
   rw [q1] at q1'
   obtain ⟨k, hk⟩ : ∃ k, k = cntL (J.take a) := ⟨_, rfl⟩
   have HK := Lib.hid hk
   rw [← hk] at q2 q3 HR q1'
   generalize txs (recO (tx (J.take a))).1 = ls at *
   have HTa' := HTa.out
   rw [← HTa'] at HR
   have HQ3 := Lib.hid q3
   clear hk hn q1 q3 g2 g3 HTa' hAt ha0 HRL
   have htn : (n : Int) ≤ (t.size : Int) := by omega
   have HTZ := Lib.hid htz
   clear htz
   go_wp2_with fail
   refine HR.out.mono ?_
   rintro e w4 ⟨A4, c4, rfl, r4, b4⟩
   have B4 := Lib.hid (Base.Below.nextA B3.out b4)
   have RD4 := Lib.hid r4
   have RL4 := Lib.hid (RD3.out.below b4 hsz3)
   have hsz4 := b4.size
   have HJ4 := Lib.hid (jour_a (c := c4) (HP.out w4 B4.out) r4 (Nat.le_refl _) s1 s2 g1 g2')
   rw [q1'] at HJ4
   clear r4 b4 RD3 HR s1 s2 g1 g2' hat haa hp0 hp1 hq0 hq1
   go_wp2_with fail
   refine HJ4.out.mono ?_
   rintro e w5 ⟨rfl, b5⟩
   have B5 := Lib.hid (Base.Below.nextA B4.out b5)
   have RD5 := Lib.hid (RD4.out.below b5 (Nat.le_refl _))
   have RL5 := Lib.hid (RL4.out.below b5 (by omega))
   have hsz5 := b5.size
   clear b5 HJ4 RD4 RL4
   go_wp2
   have HQ1 := Lib.hid q1'
   rw [← HTn.out]
   have hnn : ((t.extract 0 n).toList != (t.extract 0 n).toList) = false := by simp
   have hkk : ((k : Int) != (k : Int)) = false := by simp
   have hn0 : ¬ ((n : Int) < 0) := by omega
   have hna : ¬ ((a : Int) < (n : Int)) := by omega
   clear q1'
   go_loop [14, 15] (fun kv iv => ∃ i, i ≤ a ∧ iv = .int .i64 (i : Int) ∧ kv = .int .i64 ((cntL (J.take i) : Nat) : Int) ∧ cntL (J.take i) ≤ i) (fun _ iv => a - (intOf iv).toNat)
   case atStart => exact ⟨0, Nat.zero_le _, rfl, rfl, Nat.le_refl _⟩
   case round =>
    obtain ⟨i, hi, rfl, rfl, hci⟩ := hrel
    by_cases hia : i < a
    ·have hit : i < t.size := by omega
     have hi4 : (i : Int) + 1 ≤ 4000 := by have := HTZ.out; omega
     obtain ⟨x, hx⟩ : ∃ x, (t[i]'hit).toNat = x := ⟨_, rfl⟩
     have hx2 : x < 256 := by rw [← hx]; exact (t[i]'hit).toNat_lt
     have hb := RecJ.byte_at hit hx
     rw [HT.out, jlist_tx] at hb
     have hc := cnt_byte hb hx2
     by_cases hx10 : x = 10
     ·rw [if_pos hx10] at hc
      subst hx10
      generalize cntL (J.take i) = q0 at *
      clear hb
      go_wp2
      go_round
      case rel => exact ⟨i + 1, by omega, by go_num, by rw [hc]; go_num, by omega⟩
      case measure => simp [intOf]; omega
     ·rw [if_neg hx10] at hc
      generalize cntL (J.take i) = q0 at *
      have hxi : ((x : Int) == 10) = false := by simp only [beq_eq_false_iff_ne]; omega
      clear hb
      go_wp2
      go_round
      case rel => exact ⟨i + 1, by omega, by go_num, by rw [hc]; go_num, by omega⟩
      case measure => simp [intOf]; omega
    ·obtain rfl : i = a := by omega
     rw [← HK.out]
     go_wp2
     go_loopw [16] (fun iv wr => ∃ (q m : Nat), q ≤ k ∧ iv = .int .i64 (q : Int) ∧ wr = w5.drewN m) (fun iv _ => k - (intOf iv).toNat)
     case atStart => exact ⟨0, 0, Nat.zero_le _, rfl, rfl⟩
     case round =>
      obtain ⟨q, m, hq, rfl, rfl⟩ := hrel
      by_cases hqk : q < k
      ·obtain ⟨b, off, rfl, _, h1⟩ := RD5.out (by rw [HQ1.out]; omega)
       obtain ⟨b', off', rfl, _, h2⟩ := RL5.out (by omega)
       have g1 := h1 q (by rw [HQ1.out]; exact hqk)
       have g2 := h2 q (by omega)
       have g3 : ls.getD q ByteArray.empty = D.getD q ByteArray.empty := HQ3.out q hqk
       rw [g3] at g1
       have hqD : (q : Int) < (D.length : Int) := by omega
       clear h1 h2 g3
       generalize D.getD q ByteArray.empty = y at *
       go_wp2
       go_quiet (fail)
       go_wp2
       go_roundw
       case rel => exact ⟨q + 1, _, by omega, by go_num, rfl⟩
       case measure => simp [intOf]; omega
      ·clear RD5 RL5 HQ3
       have HB5 := Lib.hid (below_drewN B5.out m)
       generalize w5.drewN m = w6 at *
       obtain ⟨x, hxx⟩ : ∃ x, x = third ys := ⟨_, rfl⟩
       have hx0 : 0 ≤ x := by rw [hxx]; exact (third_in ys).1
       have hx1 : x < 256 := by rw [hxx]; exact (third_in ys).2
       have HThird : Hid (∀ wq, Below w6.heap.size w6 wq → Calls Tryd.prog 8 #[.slice A' ys.length c', .int .i64 2, .int .i64 256] wq fun e w' => e = .returned (.int .i64 x) ∧ wq = w') := Lib.hid fun wq hb => by
        rw [hxx]; exact b10At_third A' c' w.heap.size ys wq HZ'.out hl' (HY.out.below (Base.Below.nextA HB5.out hb) (Nat.le_refl _))
       have hxm : IntKind.u8.wrap x = x := by simp [IntKind.wrap, IntKind.bits, IntKind.signed]; omega
       clear hxx
       obtain ⟨u, hu⟩ : ∃ u, u = UInt8.ofNat x.toNat :: J.drop (i + 1) := ⟨_, rfl⟩
       have hul : (J.take i ++ u).length = t.size := by rw [hu, List.length_append, List.length_take, List.length_cons, List.length_drop, HTZ.out]; have := HTZ.out; omega
       have htJ := HTZ.out
       obtain ⟨t1, ht1⟩ : ∃ t1, t.extract 0 i ++ tx [UInt8.ofNat x.toNat] = t1 := ⟨_, rfl⟩
       obtain ⟨tb, htb⟩ : ∃ tb, t.extract (i + 1) t.size = tb := ⟨_, rfl⟩
       obtain ⟨bt, hbt⟩ : ∃ bt, t1 ++ tb = bt := ⟨_, rfl⟩
       have hbt2 : bt = tx (J.take i ++ u) := by
        rw [← hbt, ← ht1, ← htb, HTa.out, HT.out, ext_tx, hu]
        apply tx_ext
        rw [jlist_tx, size_tx, List.take_length]
        simp
       have z0 : (t.extract 0 i).size = i := by rw [HTa.out, size_tx, List.length_take]; omega
       have z1 : (tx [UInt8.ofNat x.toNat]).size = 1 := by rw [size_tx]; rfl
       have z2 : t1.size = i + 1 := by rw [← ht1, ByteArray.size_append, z0, z1]
       have z3 : tb.size ≤ t.size := by rw [← htb]; simp
       have HAdd1 := Lib.hid (strAdd ht1 (by rw [z0, z1]; omega))
       have HAdd2 := Lib.hid (strAdd hbt (by rw [z2]; omega))
       have HTb := Lib.hid htb
       have HBT := Lib.hid hbt2
       have HUL := Lib.hid hul
       have HMn := Lib.hid (HM.out u (by rw [hul]; omega))
       have hia1 : (i : Int) + 1 ≤ (t.size : Int) := by omega
       have HIW : Hid (IntKind.i64.wrap ((i : Int) + 1) = (i : Int) + 1) := Lib.hid (by rw [IntKind.wrap_i64]; omega)
       have hw2 : ((i : Int) + 1).toNat = i + 1 := by omega
       have hw3 : (0 : Int) ≤ (i : Int) + 1 := by omega
       clear hu hul htJ ht1 htb hbt hbt2 z0 z1 z2 z3 HM hnn
       go_wp2_with fail
       refine Rel.wp_region_rel 14 (by kernel_rfl) (by kernel_rfl) (fun F hF => ?_)
       simp only [List.take_succ_cons, List.take_zero, List.drop_succ_cons, List.drop_zero, Rel.putL] at hF ⊢
       have HF := Lib.hid hF
       clear hF
       have uv := @Rel.upon_value Tryd.prog
       have ue := @Rel.upon_enter Tryd.prog
       apply Rel.rel_pure
       apply Exists.intro
       refine ⟨fun vs wq hq hdp R hR => ?_, ?_⟩
       ·(rw [HF.out, Rel.stepAt_eq]; clear hdp; skip; go_simp; exact hR)
       apply Rel.rel_pure
       apply Exists.intro
       refine ⟨fun vs wq hq hdp R hR => ?_, ?_⟩
       ·(rw [HF.out, Rel.stepAt_eq]; clear hdp; skip; go_simp; exact hR)
       apply Rel.rel_pure
       apply Exists.intro
       refine ⟨fun vs wq hq hdp R hR => ?_, ?_⟩
       ·(rw [HF.out, Rel.stepAt_eq]; have qd0 : vs 0 = _ := Rel.dep hdp 0 (by kernel_rfl); have qd1 : vs 1 = _ := Rel.dep hdp 1 (by kernel_rfl); clear hdp; skip; go_simp; exact hR)
       apply Rel.rel_pure
       apply Exists.intro
       refine ⟨fun vs wq hq hdp R hR => ?_, ?_⟩
       ·(rw [HF.out, Rel.stepAt_eq]; clear hdp; skip; go_simp; exact hR)
       apply Rel.rel_same
       apply Exists.intro
       refine ⟨fun vs wq hq hdp => ?_, ?_⟩
       ·(rw [HF.out, Rel.stepAt_eq]; have qd3 : vs 3 = _ := Rel.dep hdp 3 (by kernel_rfl); clear hdp; skip; go_simp; refine (HThird.out wq hq).mono ?_; rintro e w7 ⟨rfl, rfl⟩; exact ⟨_, rfl, rfl, Below.refl _ _⟩)
       apply Rel.rel_pure
       apply Exists.intro
       refine ⟨fun vs wq hq hdp R hR => ?_, ?_⟩
       ·(rw [HF.out, Rel.stepAt_eq]; have qd4 : vs 4 = _ := Rel.dep hdp 4 (by kernel_rfl); clear hdp; skip; go_simp; exact hR)
       refine Rel.rel_law (S := NewU x) (newU_mono x) (fun vs wq hq hdp => ?_) ?_
       ·(rw [HF.out, Rel.stepAt_eq]; have qd5 : vs 5 = _ := Rel.dep hdp 5 (by kernel_rfl); clear hdp; skip; go_simp; exact newU_new x wq)
       apply Rel.rel_pure
       apply Exists.intro
       refine ⟨fun vs wq hq hdp R hR => ?_, ?_⟩
       ·(rw [HF.out, Rel.stepAt_eq]; have qd6 : NewU x (vs 6) wq := Rel.dep hdp 6 (by kernel_rfl); clear hdp; obtain ⟨g, e6, h6⟩ := qd6; have x6 := newU_conv x hx0 hx1 h6; rw [e6]; go_simp; exact hR)
       apply Rel.rel_pure
       apply Exists.intro
       refine ⟨fun vs wq hq hdp R hR => ?_, ?_⟩
       ·(rw [HF.out, Rel.stepAt_eq]; have qd2 : vs 2 = _ := Rel.dep hdp 2 (by kernel_rfl); have qd7 : vs 7 = _ := Rel.dep hdp 7 (by kernel_rfl); clear hdp; have x8 := HAdd1.out; go_simp; exact hR)
       apply Rel.rel_pure
       apply Exists.intro
       refine ⟨fun vs wq hq hdp R hR => ?_, ?_⟩
       ·(rw [HF.out, Rel.stepAt_eq]; clear hdp; skip; go_simp; exact hR)
       apply Rel.rel_pure
       apply Exists.intro
       refine ⟨fun vs wq hq hdp R hR => ?_, ?_⟩
       ·(rw [HF.out, Rel.stepAt_eq]; clear hdp; skip; go_simp; exact hR)
       apply Rel.rel_pure
       apply Exists.intro
       refine ⟨fun vs wq hq hdp R hR => ?_, ?_⟩
       ·(rw [HF.out, Rel.stepAt_eq]; have qd10 : vs 10 = _ := Rel.dep hdp 10 (by kernel_rfl); clear hdp; have x11 := HIW.out; go_simp; exact hR)
       apply Rel.rel_pure
       apply Exists.intro
       refine ⟨fun vs wq hq hdp R hR => ?_, ?_⟩
       ·(rw [HF.out, Rel.stepAt_eq]; have qd9 : vs 9 = _ := Rel.dep hdp 9 (by kernel_rfl); have qd11 : vs 11 = _ := Rel.dep hdp 11 (by kernel_rfl); clear hdp; have x11 := HIW.out; have x12 := HTb.out; go_simp; exact hR)
       apply Rel.rel_pure
       apply Exists.intro
       refine ⟨fun vs wq hq hdp R hR => ?_, ?_⟩
       ·(rw [HF.out, Rel.stepAt_eq]; have qd8 : vs 8 = _ := Rel.dep hdp 8 (by kernel_rfl); have qd12 : vs 12 = _ := Rel.dep hdp 12 (by kernel_rfl); clear hdp; have x13 := HAdd2.out; go_simp; exact hR)
       refine Rel.rel_end (fun vs wq hq hall => ?_)
       rw [HF.out]
       have qe0 : vs 0 = _ := Rel.fin hall 0 (by decide)
       have qe1 : vs 1 = _ := Rel.fin hall 1 (by decide)
       have qe2 : vs 2 = _ := Rel.fin hall 2 (by decide)
       have qe3 : vs 3 = _ := Rel.fin hall 3 (by decide)
       have qe4 : vs 4 = _ := Rel.fin hall 4 (by decide)
       have qe5 : vs 5 = _ := Rel.fin hall 5 (by decide)
       have qe6 : NewU x (vs 6) wq := Rel.fin hall 6 (by decide)
       have qe7 : vs 7 = _ := Rel.fin hall 7 (by decide)
       have qe8 : vs 8 = _ := Rel.fin hall 8 (by decide)
       have qe9 : vs 9 = _ := Rel.fin hall 9 (by decide)
       have qe10 : vs 10 = _ := Rel.fin hall 10 (by decide)
       have qe11 : vs 11 = _ := Rel.fin hall 11 (by decide)
       have qe12 : vs 12 = _ := Rel.fin hall 12 (by decide)
       have qe13 : vs 13 = _ := Rel.fin hall 13 (by decide)
       clear hall HF uv ue
       rw [show vs (0 + 1 + 1 + 1 + 1 + 1 + 1 + 1 + 1 + 1 + 1 + 1 + 1 + 1) = .string bt from qe13]
       clear qe0 qe1 qe2 qe3 qe4 qe5 qe6 qe7 qe8 qe9 qe10 qe11 qe12 qe13 HAdd1 HAdd2 HTb HThird HIW hw2 hw3 hxm hx0 hx1
       have HB6 := Lib.hid (Base.Below.nextA HB5.out hq)
       have HR6 := Lib.hid (rec_a (l := J.take i ++ u) (by rw [HUL.out]; have := HTZ.out; omega) (HP.out wq HB6.out))
       obtain ⟨r1, r2, r3⟩ := rec_back (J.take i ++ u) (by rw [HUL.out]; have := HTZ.out; omega)
       obtain ⟨s1, s2⟩ := rec_small (J.take i ++ u) (by rw [HUL.out]; have := HTZ.out; omega)
       have ql := txs_length (recO (tx (J.take i ++ u))).1
       have hmn := HMn.out
       rw [HUL.out] at r3
       rw [← ql] at HR6
       clear ql
       generalize txs (recO (tx (J.take i ++ u))).1 = ls2 at *
       generalize (recO (tx (J.take i ++ u))).2 = m2 at *
       have hbz : bt.size = t.size := by rw [HBT.out, size_tx, HUL.out]
       have HTm : Hid (bt.extract 0 m2 = tx ((J.take i ++ u).take m2)) := Lib.hid (by rw [HBT.out, ext_tx]; rfl)
       rw [← HBT.out] at HR6
       clear HMn hq
       go_wp2_with fail
       refine HR6.out.mono ?_
       rintro e w8 ⟨A8, c8, rfl, r8, b8⟩
       have HB8 := Lib.hid (Base.Below.nextA HB6.out b8)
       have HJ8 := Lib.hid (jour_a (c := c8) (HP.out w8 HB8.out) r8 (Nat.le_refl _) s1 s2 r1 r2)
       rw [← HTm.out] at HJ8
       clear r8 b8 HR6 s1 s2 r1 r2
       go_wp2_with fail
       refine HJ8.out.mono ?_
       rintro e w9 ⟨rfl, b9⟩
       have HB9 := Lib.hid (Base.Below.nextA HB8.out b9)
       clear b9 HJ8
       have hmn2 : ¬ ((m2 : Int) < (n : Int)) := by omega
       have hmn3 : (n : Int) ≤ (m2 : Int) := by omega
       have hm4 : (m2 : Int) ≤ (bt.size : Int) := by omega
       go_wp2
       go_ret
       exact ⟨rfl, HB9.out⟩
theorem journal_v {w : World} {v u : Value} (h : Open.IsBytes w v) (h' : Open.IsBytes w u) (hp : Pow w.heap.size w) : Calls Tryd.prog 3 #[v, u] w fun e w' => e = .returned (.bool true) ∧ Below w.heap.size w w' := by
 obtain ⟨A, c, zs, rfl, hl, hz, hx⟩ := h.ex
 obtain ⟨A', c', ys, rfl, hl', hz', hx'⟩ := h'.ex
 exact journal_any A A' c c' zs ys w hp hx hx' hl hl' hz hz'
end Go.Proofs.YtpjepheiagllgaaDoor.JrnM

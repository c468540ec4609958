/- A journal that is recovered: marks of texts; the law. -/
import Derived.Test.YtjajemdeioabkaaDoorRecI
import Derived.Test.YtjajemdeioabkaaDoorOpenT
namespace Go.Proofs.YtjajemdeioabkaaDoor.RecJ
open Go.RowKit Go.Proofs.YtjajemdeioabkaaDoor Go.Proofs.YtjajemdeioabkaaDoor.Base Go.Proofs.YtjajemdeioabkaaDoor.Mem Go.Proofs.YtjajemdeioabkaaDoor.Dec Go.Proofs.YtjajemdeioabkaaDoor.LabM Go.Proofs.YtjajemdeioabkaaDoor.Jour
set_option linter.unusedVariables false
/-- the mark of a number -/
def markX (k : Nat) : ByteArray := tx (109 :: Lib.decDigits k)
def MkTo (k0 : Nat) (w : World) (kv ov : Value) (wr : World) : Prop := ∃ (k : Nat) (D : List UInt8), k ≤ k0 ∧ D.length ≤ 20 ∧ kv = .int .i64 (k : Int) ∧ ov = .string (tx D) ∧ Hid ((rd k).reverse ++ D = (rd k0).reverse) ∧ Hid (Below w.heap.size w wr)
set_option maxHeartbeats 2000000 in
set_option maxRecDepth 100000 in
theorem markText_any (k : Nat) (h0 : 0 < k) (hk : k ≤ 1099511627776) (w : World) : Calls Tryd.prog 36 #[.int .i64 (k : Int)] w fun e w' => e = .returned (.string (markX k)) ∧ Below w.heap.size w w' := by
  have HR := Lib.hid (rd_rev k h0)
  have HL := Lib.hid (rd_len 20 k (by omega))
  have hk0 : ¬ ((k : Int) ≤ 0) := by omega
  have H0 : Hid (MkTo k w (.int .i64 (k : Int)) (.string { data := #[] }) w) := Lib.hid ⟨k, [], Nat.le_refl _, by simp, rfl, rfl, Lib.hid (by simp), Lib.hid (Below.refl _ _)⟩
  go_enter Tryd.func36, Tryd.ntmps36
  go_wp2
  go_loopw [0, 3] (fun kv ov wr => MkTo k w kv ov wr) (fun kv _ _ => (intOf kv).toNat)
  case atStart => exact H0.out
  case round =>
    obtain ⟨q, D, hq, hD, rfl, rfl, HD, HB⟩ := hrel
    clear H0
    by_cases hpos : 0 < q
    · obtain ⟨x, hx⟩ : ∃ x, q % 10 = x := ⟨_, rfl⟩
      obtain ⟨q1, hq1⟩ : ∃ q1, q / 10 = q1 := ⟨_, rfl⟩
      have HRp : Hid (rd q = UInt8.ofNat (48 + x) :: rd q1) := Lib.hid (by rw [rd_pos hpos, hx, hq1])
      have hm : (q : Int) % 10 = (x : Int) := by omega
      have hmt : (q : Int).tmod 10 = (x : Int) := by rw [Int.tmod_eq_emod_of_nonneg (by omega)]; exact hm
      have hd : (q : Int) / 10 = (q1 : Int) := by omega
      have hdt : (q : Int).tdiv 10 = (q1 : Int) := by rw [Int.tdiv_eq_ediv_of_nonneg (by omega)]; exact hd
      have hx10 : x < 10 := by omega
      have hqr : q1 < q := by omega
      have hcast : ((48 + x : Nat) : Int) = 48 + (x : Int) := by omega
      have HLe : Hid (D.length + 1 ≤ 20) := Lib.hid (by
        have h1 := congrArg List.length HD.out
        rw [HRp.out] at h1
        have h2 := HL.out
        simp only [List.length_append, List.length_reverse, List.length_cons] at h1
        omega)
      have hCV : (convert 54 9 (.slice (some ⟨wr.heap.size, 0, none⟩) 1 1)).run Tryd.prog (wr.alloc (.cells #[.int .u8 (48 + (x : Int))] 5)) = .ok (.string (tx [UInt8.ofNat (48 + x)])) (wr.alloc (.cells #[.int .u8 (48 + (x : Int))] 5)) := by
        refine convT_own (B := 0) (w := wr.alloc (.cells #[.int .u8 (48 + (x : Int))] 5)) (l := [UInt8.ofNat (48 + x)]) ?_ rfl
        have := World.ownsRow_lit (e := 5) (size := 1) (base := 0) wr #[.int .u8 (48 + (x : Int))] 1 (Nat.zero_le _) (by simp [maxLen]) (by simp)
        have e : Lib.byteCells [UInt8.ofNat (48 + x)] = [.int .u8 (48 + (x : Int))] := by
          simp [Lib.byteCells]
          omega
        rw [e]
        exact this
      obtain ⟨b1, hb1⟩ : ∃ b, tx [UInt8.ofNat (48 + x)] = b := ⟨_, rfl⟩
      have hb1z : b1.size = 1 := by rw [← hb1]; rfl
      obtain ⟨o, ho⟩ : ∃ o, tx D = o := ⟨_, rfl⟩
      have hoz : o.size ≤ 20 := by rw [← ho, size_tx]; exact hD
      obtain ⟨a, ha⟩ : ∃ a, b1 ++ o = a := ⟨_, rfl⟩
      have r1 := strAdd ha (by omega)
      have HA : Hid (a = tx (UInt8.ofNat (48 + x) :: D)) := Lib.hid (by rw [← ha, ← hb1, ← ho]; apply tx_ext; simp)
      rw [hb1] at hCV
      rw [ho]
      clear hx hq1 hb1 ho ha
      have hpi : (0 : Int) < (q : Int) := by omega
      have hws := HB.out.size
      go_wp2
      go_roundw
      case rel => exact ⟨q1, UInt8.ofNat (48 + x) :: D, by omega, HLe.out, rfl, by rw [HA.out], Lib.hid (by rw [← HD.out, HRp.out]; simp), Lib.hid (HB.out.alloc hws _)⟩
      case measure => simp [intOf]; omega
    · obtain rfl : q = 0 := by omega
      have HDk : Hid (D = Lib.decDigits k) := Lib.hid (by have := HD.out; rw [rd_zero] at this; rw [← HR.out, ← this]; rfl)
      obtain ⟨o, ho⟩ : ∃ o, tx D = o := ⟨_, rfl⟩
      have hoz : o.size ≤ 20 := by rw [← ho, size_tx]; exact hD
      obtain ⟨a, ha⟩ : ∃ a, (ByteArray.mk #[109]) ++ o = a := ⟨_, rfl⟩
      have r1 := strAdd ha (by show 1 + o.size ≤ _; omega)
      have HA : Hid (a = markX k) := Lib.hid (by rw [← ha, ← ho, HDk.out]; apply tx_ext; simp [markX])
      rw [ho]
      clear ho ha
      go_wp2
      go_ret
      exact ⟨by rw [HA.out]; rfl, HB.out⟩
/-- marks from k on -/
def marksX (k n : Nat) : List ByteArray := (List.range n).map fun i => markX (k + i)
theorem marksX_len (k n : Nat) : (marksX k n).length = n := by simp [marksX]
theorem marksX_get (k n i : Nat) (h : i < n) : (marksX k n).getD i ByteArray.empty = markX (k + i) := by simp [marksX, List.getD, h]
theorem marksX_set (k j : Nat) (ss : List ByteArray) (h : j < ss.length) : (texts (marksX k j ++ ss.drop j)).set j (.string (markX (k + j))) = texts (marksX k (j + 1) ++ ss.drop (j + 1)) := by
  have e1 : marksX k (j + 1) = marksX k j ++ [markX (k + j)] := by simp [marksX, List.range_succ]
  have e2 : ss.drop j = ss[j]'h :: ss.drop (j + 1) := List.drop_eq_getElem_cons h
  rw [e1, e2]
  simp only [texts, List.map_append, List.map_cons, List.map_nil]
  rw [List.set_append_right _ _ (by simp [marksX])]
  simp [marksX]
def MarkXRel (B k n : Nat) (A : Option Addr) (c : Nat) (ss : List ByteArray) (w : World) (q i : Value) (wr : World) : Prop :=
  ∃ j : Nat, j ≤ n ∧ i = .int .i64 (j : Int) ∧ q = .int .i64 ((k + j : Nat) : Int) ∧ Hid (wr.ownsRow B 9 1 (.slice A n c) n (texts (marksX k j ++ ss.drop j))) ∧ Hid (Below B w wr)
set_option maxHeartbeats 1000000 in
theorem markX_any (A : Option Addr) (c B k n : Nat) (ss : List ByteArray) (w : World) (hn : ss.length = n) (hx : w.ownsRow B 9 1 (.slice A n c) n (texts ss)) (hB : B ≤ w.heap.size) (h0 : 0 < k) (hm : k + n ≤ 1099511627776) :
    Calls Tryd.prog 16 #[.slice A n c, .int .i64 (k : Int)] w fun e w' => e = .returned (.int .i64 ((k + n : Nat) : Int)) ∧ w'.ownsRow B 9 1 (.slice A n c) n (texts (marksX k n)) ∧ Below B w w' := by
  have H0 : Hid (MarkXRel B k n A c ss w (.int .i64 (k : Int)) (.int .i64 0) w) := Lib.hid ⟨0, Nat.zero_le _, rfl, by simp, Lib.hid (by simpa [marksX] using hx), Lib.hid (Below.refl _ _)⟩
  have HN := Lib.hid hn
  clear hx hn
  go_enter Tryd.func16, Tryd.ntmps16
  go_wp2
  go_loopw [1, 5] (fun q i wr => MarkXRel B k n A c ss w q i wr) (fun _ i _ => n - (intOf i).toNat)
  case atStart => exact H0.out
  case round =>
    obtain ⟨j, hj, rfl, rfl, HO, HB⟩ := hrel
    clear H0
    have hws := HB.out.size
    by_cases hlt : j < n
    · obtain ⟨A', c', e, hf⟩ := ownsRow_form HO.out
      injection e with e1 e2 e3
      subst e1 e3
      obtain ⟨g, rfl, hg1, hg2⟩ := hf (by omega)
      have HM := Lib.hid (fun W => markText_any (k + j) (by omega) (by omega) W)
      have HNx : Hid (∀ w1, Below wr.heap.size wr w1 → MarkXRel B k n (some ⟨g, 0, none⟩) c ss w (.int .i64 ((k + j + 1 : Nat) : Int)) (.int .i64 ((j : Int) + 1)) (w1.setCell ⟨g, j, none⟩ (.string (markX (k + j))))) := Lib.hid fun w1 h1 => by
        obtain ⟨q1, _⟩ := (ownsRow_below HO.out h1).stored j (.string (markX (k + j)))
        rw [marksX_set k j ss (by rw [HN.out]; exact hlt)] at q1
        exact ⟨j + 1, hlt, by simp, by simp [Nat.add_assoc], Lib.hid q1, Lib.hid ((HB.out.trans (h1.mono (Nat.le_trans hB hws))).setCell (show B ≤ g from hg1) _)⟩
      have HCe : Hid (∀ w1, Below wr.heap.size wr w1 → (∃ x, w1.cell? ⟨g, j, none⟩ = some x) ∧ w1.frozen? ⟨g, j, none⟩ = false) := Lib.hid fun w1 h1 => by
        have o1 := ownsRow_below HO.out h1
        refine ⟨?_, o1.frozenAt j⟩
        have hc := o1.cellAt j (by omega)
        have hl : j < (texts (marksX k j ++ ss.drop j)).length := by simp [texts, marksX_len, HN.out]; omega
        rw [List.getElem?_eq_getElem hl] at hc
        exact ⟨_, hc⟩
      generalize markX (k + j) = mk at *
      obtain ⟨kj, hkj⟩ : ∃ kj, k + j = kj := ⟨_, rfl⟩
      rw [hkj] at HM HNx
      rw [hkj]
      have hkb : kj ≤ 1099511627776 := by omega
      clear hkj hf
      go_wp2_with fail
      refine (HM.out _).mono ?_
      rintro e w1 ⟨rfl, hb1⟩
      obtain ⟨⟨x, hcell⟩, hfz⟩ := HCe.out w1 hb1
      have HN2 := Lib.hid (HNx.out w1 hb1)
      have hlt1 : g < w1.heap.size := by have := hb1.size; omega
      clear hb1
      go_wp2
      go_roundw
      case rel => exact HN2.out
      case measure => simp [intOf]; omega
    · obtain rfl : j = n := by omega
      go_wp2
      go_ret
      refine ⟨ret_int (by omega), ?_, HB.out⟩
      have := HO.out
      rw [List.drop_of_length_le (by rw [HN.out]; omega), List.append_nil] at this
      exact this
set_option maxHeartbeats 1000000 in
theorem heldX_yes (A : Option Addr) (c B k n : Nat) (w : World) (hx : RdT w B A (marksX k n)) (hB : B ≤ w.heap.size) (h0 : 0 < k) (hm : k + n ≤ 1099511627776) :
    Calls Tryd.prog 17 #[.slice A n c, .int .i64 (k : Int)] w fun e w' => e = .returned (.int .i64 ((k + n : Nat) : Int)) ∧ Below w.heap.size w w' := by
  have HX := Lib.hid hx
  clear hx
  go_enter Tryd.func17, Tryd.ntmps17
  go_wp2
  go_loopw [1, 5] (fun q i wr => ∃ j : Nat, j ≤ n ∧ i = .int .i64 (j : Int) ∧ q = .int .i64 ((k + j : Nat) : Int) ∧ Hid (Below w.heap.size w wr)) (fun _ i _ => n - (intOf i).toNat)
  case atStart => exact ⟨0, Nat.zero_le _, rfl, by simp, Lib.hid (Below.refl _ _)⟩
  case round =>
    obtain ⟨j, hj, rfl, rfl, HB⟩ := hrel
    have hws := HB.out.size
    by_cases hlt : j < n
    · obtain ⟨b, off, rfl, hbB, hc⟩ := HX.out (by rw [marksX_len]; omega)
      have hbw : b < w.heap.size := by omega
      have g0 := (HB.out.cell (p := ⟨b, off + j, none⟩) hbw).trans (hc j (by rw [marksX_len]; exact hlt))
      rw [marksX_get k n j hlt] at g0
      have HM := Lib.hid (fun W => markText_any (k + j) (by omega) (by omega) W)
      generalize markX (k + j) = mk at *
      obtain ⟨kj, hkj⟩ : ∃ kj, k + j = kj := ⟨_, rfl⟩
      have HK := Lib.hid hkj
      rw [hkj] at HM
      rw [hkj]
      have hkb : kj ≤ 1099511627776 := by omega
      have hbe : (mk.toList == mk.toList) = true := by simp
      clear hkj hc
      go_wp2
      (refine wp_region_below (by kernel_rfl) (by kernel_rfl) ?_; (repeat (refine wpQuiet_step (fun K hK => ?_); go_simp; first | (refine hK _ ?_; clear hK K) | (apply Exists.intro; refine ⟨fun wq hq => ?_, hK _ ?_⟩; (first | rfl | (have g1 := (hq.cell (p := ⟨b, off + j, none⟩) (show b < wr.heap.size by omega)).trans g0; first | (go_simp; done) | (go_simp; rfl) | (first | (go_at_call 36; refine (HM.out _).mono ?_; rintro e w1 ⟨rfl, hb1⟩; exact ⟨rfl, Base.Below.nextA hq hb1⟩)))); clear hK K))); refine wpQuiet_nil ?_; intro wq hq)
      go_wp2
      go_roundw
      case rel => exact ⟨j + 1, hlt, by go_num, by have := HK.out; congr 1; omega, Lib.hid (HB.out.trans (hq.mono hws))⟩
      case measure => simp [intOf]; omega
    · obtain rfl : j = n := by omega
      go_wp2
      go_ret
      exact ⟨ret_int (by omega), HB.out⟩
theorem recO_len (t : ByteArray) : (recO t).1.length ≤ 4000 := by
  unfold recO
  split
  · have h1 := recL_len (linesR t.data.toList) 0
    have h2 := (linesR_len _ t.data.toList (Nat.le_refl _)).1
    have h3 : t.data.toList.length = t.size := by rw [Array.length_toList]; rfl
    omega
  · simp
set_option maxHeartbeats 2000000 in
theorem exactRec_any (t : ByteArray) (w : World) (hp : Pow w.heap.size w) (ht : t.size ≤ 9223372036854775807) :
    Calls Tryd.prog 5 #[.string t] w fun e w' => e = .returned (.bool true) ∧ Below w.heap.size w w' := by
  by_cases hbig : 1048576 < t.size
  · have hb' : (1048576 : Int) < (t.size : Int) := by omega
    clear hp
    go_enter Tryd.func5, Tryd.ntmps5
    go_wp2
    go_ret
    exact ⟨rfl, Below.refl _ _⟩
  have hsm : t.size ≤ 1048576 := by omega
  have hb' : ¬ ((1048576 : Int) < (t.size : Int)) := by omega
  have HS := Lib.hid (specRec_any t hsm w)
  have HI := Lib.hid (fun W (h : Below w.heap.size w W) => implRec_any t hsm W (fun w2 h2 => hp w2 (h.trans (h2.mono h.size))))
  have hl := recO_len t
  unfold RecRet at HS HI
  have hnn : (txs (recO t).1).length = (recO t).1.length := txs_len _
  generalize txs (recO t).1 = ss at *
  generalize (recO t).1.length = n at *
  generalize (recO t).2 = u at *
  generalize decide (t.size ≤ 4000) = ok at *
  have hok : (ok != ok) = false := by simp
  have huu : ((u : Int) != (u : Int)) = false := by simp
  have HNN := Lib.hid hnn
  clear hp hnn hbig
  go_enter Tryd.func5, Tryd.ntmps5
  go_wp2_with fail
  refine HS.out.mono ?_
  rintro e w1 ⟨A1, c1, rfl, o1, b1⟩
  have O1 := Lib.hid o1
  have B1 := Lib.hid b1
  clear o1 b1
  go_wp2_with fail
  refine (HI.out w1 B1.out).mono ?_
  rintro e w2 ⟨A2, c2, rfl, o2, b2⟩
  have B2 := Lib.hid (Base.Below.nextA B1.out b2)
  have hz1 := B1.out.size
  have hz2 := b2.size
  have R1 : Hid (RdT w2 w2.heap.size A1 ss) := Lib.hid (O1.out.rd.below b2 (Nat.le_refl _) |>.more b2.size)
  have R1' : Hid (RdT w2 w1.heap.size A1 ss) := Lib.hid (O1.out.rd.below b2 (Nat.le_refl _))
  have O2 := Lib.hid o2
  have HE := Lib.hid (eqT_yes A2 A1 c2 c1 w2.heap.size w2.heap.size ss w2 o2.rd R1.out (by rw [HNN.out]; omega))
  rw [HNN.out] at HE
  clear o2 b2
  go_wp2_with fail
  refine HE.out.mono ?_
  rintro e w3 ⟨rfl, m, rfl⟩
  have b3 : Below w2.heap.size w2 (w2.drewN m) := below_drewN (Below.refl _ _) m
  have O3 : Hid ((w2.drewN m).ownsRow w1.heap.size 9 1 (.slice A2 n c2) n (texts ss)) := Lib.hid (by
    have := ownsRow_below O2.out b3
    rw [HNN.out] at this
    exact this)
  have HMk := Lib.hid (markX_any A2 c2 w1.heap.size 1 n ss (w2.drewN m) HNN.out O3.out (show w1.heap.size ≤ w2.heap.size from hz2) (by omega) (by omega))
  have B3 := Lib.hid (below_drewN B2.out m)
  have R3 : Hid (RdT (w2.drewN m) w1.heap.size A1 ss) := Lib.hid (R1'.out.below (below_drewN (Below.refl w1.heap.size w2) m) (Nat.le_refl _))
  clear b3
  go_wp2_with fail
  refine HMk.out.mono ?_
  rintro e w4 ⟨rfl, o4, b4⟩
  have B4 := Lib.hid (B3.out.trans (b4.mono hz1))
  have R4 := Lib.hid (R3.out.below b4 (Nat.le_refl _))
  have hz4 : w1.heap.size ≤ w4.heap.size := Nat.le_trans (show w1.heap.size ≤ w2.heap.size from hz2) b4.size
  have Q4 : Hid (RdT w4 w4.heap.size A2 (marksX 1 n)) := Lib.hid (by
    have o : OwnT w4 w1.heap.size (.slice A2 n c2) (marksX 1 n) := by unfold OwnT; rw [marksX_len]; exact o4
    exact o.rd)
  have HH4 := Lib.hid (heldX_yes A2 c2 w4.heap.size 1 n w4 Q4.out (Nat.le_refl _) (by omega) (by omega))
  clear o4 b4
  have h1n : ¬ (((1 + n : Nat) : Int) < 0) := by omega
  have hnn2 : ((((1 + n : Nat) : Int)) != ((1 + n : Nat) : Int)) = false := by simp
  generalize hN : ((1 + n : Nat) : Int) = N at *
  go_wp2_with fail
  refine HH4.out.mono ?_
  rintro e w5 ⟨rfl, b5⟩
  have B5 := Lib.hid (Base.Below.nextA B4.out b5)
  have R5 := Lib.hid (R4.out.below b5 hz4)
  have Q5 := Lib.hid (Q4.out.below b5 (Nat.le_refl _))
  have hz5 := b5.size
  have HN0 := Lib.hid hN
  clear b5 hN
  go_wp2_with fail
  refine (HI.out w5 B5.out).mono ?_
  rintro e w6 ⟨A6, c6, rfl, o6, b6⟩
  have B6 := Lib.hid (Base.Below.nextA B5.out b6)
  have R6 := Lib.hid (R5.out.below b6 (by omega))
  have Q6 := Lib.hid (Q5.out.below b6 (by omega))
  have hz6 := b6.size
  have HE6 := Lib.hid (eqT_yes A6 A1 c6 c1 w6.heap.size w1.heap.size ss w6 o6.rd R6.out (by rw [HNN.out]; omega))
  rw [HNN.out] at HE6
  clear o6 b6
  go_wp2_with fail
  refine HE6.out.mono ?_
  rintro e w7 ⟨rfl, m7, rfl⟩
  have HH7 := Lib.hid (heldX_yes A2 c2 w4.heap.size 1 n (w6.drewN m7) (Q6.out.below (below_drewN (Below.refl _ _) m7) (Nat.le_refl _)) (show w4.heap.size ≤ w6.heap.size by omega) (by omega) (by omega))
  have B7 := Lib.hid (below_drewN B6.out m7)
  rw [HN0.out] at HH7
  go_wp2_with fail
  refine HH7.out.mono ?_
  rintro e w8 ⟨rfl, b8⟩
  go_wp2
  go_ret
  exact ⟨rfl, Base.Below.nextA B7.out b8⟩
theorem exactRec_v {w : World} {v : Value} (h : Open.IsText w v) (hp : Pow w.heap.size w) : Calls Tryd.prog 5 #[v] w fun e w' => e = .returned (.bool true) ∧ Below w.heap.size w w' := by
  obtain ⟨s, rfl, h1⟩ := h.ex
  exact exactRec_any s w hp h1
end Go.Proofs.YtjajemdeioabkaaDoor.RecJ

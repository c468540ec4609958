/- A lab without a name. -/
import Derived.Test.YtgipnbeipfhekaaGreatDoorMgFnL17
import Derived.Test.YtgipnbeipfhekaaGreatDoorMgFnL13
import Derived.Test.YtgipnbeipfhekaaGreatDoorMgFnL15
import Derived.Test.YtgipnbeipfhekaaGreatDoorMgFnL07
import Derived.Test.YtgipnbeipfhekaaGreatDoorMgFnL00
set_option linter.unusedVariables false
set_option linter.unusedSimpArgs false
namespace Go.Proofs.YtgipnbeipfhekaaGreatDoor
namespace LcW
open Go.RowKit Base Mem MemS LabM LabV StM CarM LcA LcC LcI LcM
set_option maxHeartbeats 4000000 in
set_option maxRecDepth 100000 in
theorem without_any (L : Lb) (v : Value) (x : ByteArray) (w : World) (h : LabAt w v L) (hl : L.1.length = L.2.length) (hn : L.1.length ≤ 6) (hh : hasS L.1 x = true) :
  Calls Tryz.prog 140 #[v, .string x] w fun e w' => ∃ v', e = .returned v' ∧ LabOwn w.heap.size w' v' (goneR L x) ∧ Below w.heap.size w w' := by
 obtain ⟨p, hpv⟩ : ∃ p, p = posS L.1 x := ⟨_, rfl⟩
 have hp1 : p < L.1.length := by rw [hpv]; exact (of_decide_eq_true hh).1
 obtain ⟨k, hk⟩ : ∃ k, L.1.length = k + 1 := ⟨L.1.length - 1, by omega⟩
 have hk2 : L.2.length = k + 1 := by omega
 have HR : goneR L x = (L.1.take p ++ L.1.drop (p + 1), L.2.take p ++ L.2.drop (p + 1)) := by unfold goneR; rw [hpv]
 rw [HR]
 have hfl : ints (flat (L.2.take p ++ L.2.drop (p + 1))) = (ints (flat L.2)).take (p * 7) ++ (ints (flat L.2)).drop (p * 7 + 7) := by rw [flat_del, Nat.mul_comm 7 p]; simp [ints, List.map_take, List.map_drop]
 have htx : texts (L.1.take p ++ L.1.drop (p + 1)) = (texts L.1).take p ++ (texts L.1).drop (p + 1) := by simp [texts, List.map_take, List.map_drop]
 have hll2 : (L.2.take p ++ L.2.drop (p + 1)).length = k := by simp; omega
 have hll1 : (L.1.take p ++ L.1.drop (p + 1)).length = k := by simp; omega
 have hv0 := h
 obtain ⟨A, c, A', c', rfl, hx, hy, _⟩ := h
 obtain ⟨W3, hW3⟩ : ∃ W3, W3 = (w.alloc (.cells #[.slice A L.1.length c, .slice A' L.2.length c'] 53)).alloc (.cells #[.slice none 0 0, .slice none 0 0] 53) := ⟨_, rfl⟩
 have b3 : Below w.heap.size w W3 := by rw [hW3]; exact ((Below.refl _ _).alloc (Nat.le_refl _) _).alloc (by simp) _
 have hz3 : W3.heap.size = w.heap.size + 2 := by rw [hW3]; simp
 have KR : Blk.Blk W3 (w.heap.size + 1) 53 #[.slice none 0 0, .slice none 0 0] := by rw [hW3]; exact Blk.Blk.newAt _ _ (by simp)
 have HCl := J (labClone_any L (.agg #[.slice A L.1.length c, .slice A' L.2.length c']) W3 (hv0.below b3) (by omega) (by omega))
 have HW := J hW3
 have HLL := J hl
 have HKK := J (And.intro hk hk2)
 have H45 := J (And.intro hp1 hn)
 have HTX := J htx
 have HL2 := J hll2
 have HL1 := J hll1
 have HFL := J hfl
 clear hW3 hx hy hl hv0 hk hk2 hfl htx hll1 hll2 HR
 go_enter Tryz.func140, Tryz.ntmps140
 go_wp2_with fail
 rw [← HW.out]
 refine HCl.out.mono ?_
 rintro e w1 ⟨v1, rfl, ⟨A1, c1, A2, c2, rfl, o1, o2⟩, b1⟩
 obtain ⟨W4, hW4⟩ : ∃ W4, W4 = w1.alloc (.cells #[.slice A1 L.1.length c1, .slice A2 L.2.length c2] 53) := ⟨_, rfl⟩
 have b4 : Below w1.heap.size w1 W4 := by rw [hW4]; exact (Below.refl _ _).alloc (Nat.le_refl _) _
 have KT : Blk.Blk W4 w1.heap.size 53 #[.slice A1 L.1.length c1, .slice A2 L.2.length c2] := by rw [hW4]; exact Blk.Blk.new _ _ _
 have b34 := Base.Below.nextA b1 b4
 have p1 := ownsRow_below o1 b4
 have p2 := ownsRow_below o2 b4
 have HSr := J (search_any A1 c1 W4.heap.size L.1 x W4 (OwnT.rd p1) (by have := H45.out.2; omega))
 rw [hh, ← hpv] at HSr
 have HW4 := J hW4
 have KR4 := KR.belowS b34
 have B4 := Base.Below.nextA b3 b34
 have hz1 := b1.size
 have hz4 : W4.heap.size = w1.heap.size + 1 := by rw [hW4]; simp
 clear hW4 b4 b34 b1 o1 o2 KR b3 HCl HW
 go_wp2_with fail
 rw [← HW4.out]
 refine HSr.out.mono ?_
 rintro e w2 ⟨rfl, hb2⟩
 have KR := J (KR4.belowS hb2)
 have KT := J (KT.belowS hb2)
 have HB := J (Base.Below.nextA B4 hb2)
 have q1 := ownsRow_below p1 hb2
 have q2 := ownsRow_below p2 hb2
 have hz2 := hb2.size
 clear KR4 B4 p1 p2 hb2 HSr HW4
 obtain ⟨hk, hk2⟩ := HKK.out
 obtain ⟨hp1, hn⟩ := H45.out
 rw [hk] at q1 KT ⊢
 rw [hk2] at q2 KT ⊢
 obtain ⟨g1, rfl⟩ : ∃ g, A1 = some ⟨g, 0, none⟩ := (own_none q1).resolve_left (fun h => by omega)
 obtain ⟨g2, rfl⟩ : ∃ g, A2 = some ⟨g, 0, none⟩ := (own_none q2).resolve_left (fun h => by omega)
 have Q1 := J q1
 have Q2 := J q2
 have HZ3 : Hid (W3.heap.size ≤ w2.heap.size) := J (by omega)
 have HW3 : Hid (w.heap.size ≤ W3.heap.size) := J (by omega)
 have HZW : Hid (w.heap.size ≤ w2.heap.size) := J (by omega)
 have HK6 : Hid (k ≤ 1000) := J (by omega)
 have HPK : Hid (p ≤ k) := J (by omega)
 have H13 : Hid (w1.heap.size ≠ w.heap.size + 1) := J (by omega)
 have H14 : Hid (w.heap.size ≤ w1.heap.size) := J (by omega)
 have hw1 : IntKind.i64.wrap ((p : Int) + 1) = (p : Int) + 1 := by rw [IntKind.wrap_i64]; omega
 clear q1 q2 hh hpv hz1 hz2 hz3 hz4 hp1 hk hk2 hn HLL
 go_wp2_with fail
 obtain ⟨S, hSE⟩ : ∃ S : World → Prop, S = fun w' => w'.cell? ⟨w1.heap.size, 0, none⟩ = some (.slice (some ⟨g1, 0, none⟩) (k + 1) c1) ∧ w'.cell? ⟨w1.heap.size, 1, none⟩ = some (.slice (some ⟨g2, 0, none⟩) (k + 1) c2) := ⟨_, rfl⟩
 have HSE := J hSE
 have HSA : Hid (∀ V, Blk.Blk V w1.heap.size 53 #[.slice (some ⟨g1, 0, none⟩) (k + 1) c1, .slice (some ⟨g2, 0, none⟩) (k + 1) c2] → S V) := J (fun V h1 => by rw [hSE]; exact ⟨h1.at 0 rfl, h1.at 1 rfl⟩)
 clear hSE
 have KTd : Hid (Blk.Blk w2.drew w1.heap.size 53 #[.slice (some ⟨g1, 0, none⟩) (k + 1) c1, .slice (some ⟨g2, 0, none⟩) (k + 1) c2]) := J KT.out
 have KRd : Hid (Blk.Blk w2.drew (w.heap.size + 1) 53 #[.slice none 0 0, .slice none 0 0]) := J KR.out
 have Q1d : Hid (w2.drew.ownsRow W3.heap.size 9 1 (.slice (some ⟨g1, 0, none⟩) (k + 1) c1) (k + 1) (texts L.1)) := J Q1.out
 have Q2d : Hid (w2.drew.ownsRow W3.heap.size 29 7 (.slice (some ⟨g2, 0, none⟩) (k + 1) c2) (k + 1) (ints (flat L.2))) := J Q2.out
 have HBd : Hid (Below w.heap.size w w2.drew) := J HB.out.drew
 refine Late.start S [13, 14, 15] 16 (by kernel_rfl) (HSA.out _ KTd.out) rfl (fun hS => ?_)
 refine Late.take (i := 0) (v := ?_) (by rfl) (by kernel_rfl) (by kernel_rfl) (by kernel_rfl) (by intro _ _ _ h; exact h) (by kernel_rfl) (by kernel_rfl) (Or.inl ⟨by rfl, ?_⟩) hS ?_
 rotate_left
 ·(intro W' hW'; rw [HSE.out] at hW'; obtain ⟨q0, q1⟩ := hW'; go_simp; (try with_reducible rfl))
 try simp only [Act.put, List.setIfInBounds_toArray, List.set_cons_zero, List.set_cons_succ]
 refine Late.take (i := 1) (v := ?_) (by rfl) (by kernel_rfl) (by kernel_rfl) (by kernel_rfl) (by intro _ _ _ h; exact h) (by kernel_rfl) (by kernel_rfl) (Or.inl ⟨by rfl, ?_⟩) hS ?_
 rotate_left
 ·(intro W' hW'; rw [HSE.out] at hW'; obtain ⟨q0, q1⟩ := hW'; go_simp; (try with_reducible rfl))
 try simp only [Act.put, List.setIfInBounds_toArray, List.set_cons_zero, List.set_cons_succ]
 refine Late.take (i := 2) (v := ?_) (by rfl) (by kernel_rfl) (by kernel_rfl) (by kernel_rfl) (by intro _ _ _ h; exact h) (by kernel_rfl) (by kernel_rfl) (Or.inl ⟨by rfl, ?_⟩) hS ?_
 rotate_left
 ·(intro W' hW'; rw [HSE.out] at hW'; obtain ⟨q0, q1⟩ := hW'; go_simp; (try with_reducible rfl))
 try simp only [Act.put, List.setIfInBounds_toArray, List.set_cons_zero, List.set_cons_succ]
 refine Late.take (i := 3) (v := ?_) (by rfl) (by kernel_rfl) (by kernel_rfl) (by kernel_rfl) (by intro _ _ _ h; exact h) (by kernel_rfl) (by kernel_rfl) (Or.inl ⟨by rfl, ?_⟩) hS ?_
 rotate_left
 ·(intro W' hW'; rw [HSE.out] at hW'; obtain ⟨q0, q1⟩ := hW'; go_simp; (try with_reducible rfl))
 try simp only [Act.put, List.setIfInBounds_toArray, List.set_cons_zero, List.set_cons_succ]
 refine Late.take (i := 4) (v := ?_) (by rfl) (by kernel_rfl) (by kernel_rfl) (by kernel_rfl) (by intro _ _ _ h; exact h) (by kernel_rfl) (by kernel_rfl) (Or.inl ⟨by rfl, ?_⟩) hS ?_
 rotate_left
 ·(intro W' hW'; rw [HSE.out] at hW'; obtain ⟨q0, q1⟩ := hW'; go_simp; (try with_reducible rfl))
 try simp only [Act.put, List.setIfInBounds_toArray, List.set_cons_zero, List.set_cons_succ]
 refine Late.take (i := 6) (v := ?_) (by rfl) (by kernel_rfl) (by kernel_rfl) (by kernel_rfl) (by intro _ _ _ h; exact h) (by kernel_rfl) (by kernel_rfl) (Or.inl ⟨by rfl, ?_⟩) hS ?_
 rotate_left
 ·(intro W' hW'; rw [HSE.out] at hW'; obtain ⟨q0, q1⟩ := hW'; go_simp; (try with_reducible rfl))
 try simp only [Act.put, List.setIfInBounds_toArray, List.set_cons_zero, List.set_cons_succ]
 refine Late.take (i := 7) (v := ?_) (by rfl) (by kernel_rfl) (by kernel_rfl) (by kernel_rfl) (by intro _ _ _ h; exact h) (by kernel_rfl) (by kernel_rfl) (Or.inl ⟨by rfl, ?_⟩) hS ?_
 rotate_left
 ·(intro W' hW'; rw [HSE.out] at hW'; obtain ⟨q0, q1⟩ := hW'; go_simp; (try with_reducible rfl))
 try simp only [Act.put, List.setIfInBounds_toArray, List.set_cons_zero, List.set_cons_succ]
 refine Late.take (i := 8) (v := ?_) (by rfl) (by kernel_rfl) (by kernel_rfl) (by kernel_rfl) (by intro _ _ _ h; exact h) (by kernel_rfl) (by kernel_rfl) (Or.inl ⟨by rfl, ?_⟩) hS ?_
 rotate_left
 ·(intro W' hW'; rw [HSE.out] at hW'; obtain ⟨q0, q1⟩ := hW'; go_simp; (try with_reducible rfl))
 try simp only [Act.put, List.setIfInBounds_toArray, List.set_cons_zero, List.set_cons_succ]
 refine Late.take (i := 9) (v := ?_) (by rfl) (by kernel_rfl) (by kernel_rfl) (by kernel_rfl) (by intro _ _ _ h; exact h) (by kernel_rfl) (by kernel_rfl) (Or.inl ⟨by rfl, ?_⟩) hS ?_
 rotate_left
 ·(intro W' hW'; rw [HSE.out] at hW'; obtain ⟨q0, q1⟩ := hW'; go_simp; (try with_reducible rfl))
 try simp only [Act.put, List.setIfInBounds_toArray, List.set_cons_zero, List.set_cons_succ]
 refine Late.take (i := 10) (v := ?_) (by rfl) (by kernel_rfl) (by kernel_rfl) (by kernel_rfl) (by intro _ _ _ h; exact h) (by kernel_rfl) (by kernel_rfl) (Or.inl ⟨by rfl, ?_⟩) hS ?_
 rotate_left
 ·(intro W' hW'; rw [HSE.out] at hW'; obtain ⟨q0, q1⟩ := hW'; go_simp; (try with_reducible rfl))
 try simp only [Act.put, List.setIfInBounds_toArray, List.set_cons_zero, List.set_cons_succ]
 refine Late.one (i := 5) (by kernel_rfl) (by rfl) (fun K' hK => ?_)
 go_simp
 refine (delT g1 k c1 W3.heap.size p (texts L.1) w2.drew Q1d.out (Nat.le_trans HZ3.out (Nat.le_refl _)) HK6.out HPK.out (one_texts _)).mono ?_
 rintro e w5 ⟨rfl, o, gr⟩
 have KT5 := J (blkFar KTd.out Q1d.out gr)
 have KR5 := J (blkFar KRd.out Q1d.out gr)
 have R25 := J (LvT.rowKept Q2d.out Q1d.out (by decide) gr)
 have R15 := J o
 have HB5 := J (HBd.out.trans (grown_below gr (fun q e => Nat.le_trans HW3.out (ownsRow_block Q1d.out e).choose_spec.2.1) HBd.out.size))
 have hz5 : w2.heap.size ≤ w5.heap.size := Nat.le_trans (Nat.le_refl _) gr.size
 clear o gr
 go_simp
 refine hK.out _ _ (fun _ => HSA.out _ (KT5.out)) (fun hS' => ?_)
 have hS := hS' (by decide)
 clear hS' hK
 clear K'
 try simp only [Act.put, List.setIfInBounds_toArray, List.set_cons_zero, List.set_cons_succ]
 refine Late.take (i := 12) (v := ?_) (by rfl) (by kernel_rfl) (by kernel_rfl) (by kernel_rfl) (by intro _ _ _ h; exact h) (by kernel_rfl) (by kernel_rfl) (Or.inl ⟨by rfl, ?_⟩) hS ?_
 rotate_left
 ·(intro W' hW'; rw [HSE.out] at hW'; obtain ⟨q0, q1⟩ := hW'; go_simp; (try with_reducible rfl))
 try simp only [Act.put, List.setIfInBounds_toArray, List.set_cons_zero, List.set_cons_succ]
 refine Late.one (i := 11) (by kernel_rfl) (by rfl) (fun K' hK => ?_)
 go_simp
 refine (delS g2 k c2 W3.heap.size p (ints (flat L.2)) w5 R25.out (Nat.le_trans HZ3.out hz5) HK6.out HPK.out (one_ints _)).mono ?_
 rintro e w6 ⟨rfl, o, gr⟩
 have KT6 := J (blkFar KT5.out R25.out gr)
 have KR6 := J (blkFar KR5.out R25.out gr)
 have R16 := J (LvT.rowKept R15.out R25.out (by decide) gr)
 have R26 := J o
 have HB6 := J (HB5.out.trans (grown_below gr (fun q e => Nat.le_trans HW3.out (ownsRow_block R25.out e).choose_spec.2.1) HB5.out.size))
 have hz6 : w2.heap.size ≤ w6.heap.size := Nat.le_trans hz5 gr.size
 clear o gr
 go_simp
 refine hK.out _ _ (fun _ => HSA.out _ (KT6.out)) (fun hS' => ?_)
 have hS := hS' (by decide)
 clear hS' hK
 clear K'
 try simp only [Act.put, List.setIfInBounds_toArray, List.set_cons_zero, List.set_cons_succ]
 have s0 := KT6.out.at 0 (v := .slice (some ⟨g1, 0, none⟩) (k + 1) c1) rfl
 have s1 := KT6.out.at 1 (v := .slice (some ⟨g2, 0, none⟩) (k + 1) c2) rfl
 have s2 := KT6.out.frz 0
 have s3 := KT6.out.frz 1
 refine Late.one (i := 13) (by kernel_rfl) (by rfl) (fun K' hK => ?_)
 go_simp
 refine hK.out _ _ (fun h => absurd h (by decide)) (fun _ => ?_)
 clear hK
 clear K'
 try simp only [Act.put, List.setIfInBounds_toArray, List.set_cons_zero, List.set_cons_succ]
 refine Late.one (i := 14) (by kernel_rfl) (by rfl) (fun K' hK => ?_)
 go_simp
 refine hK.out _ _ (fun h => absurd h (by decide)) (fun _ => ?_)
 clear hK
 clear K'
 try simp only [Act.put, List.setIfInBounds_toArray, List.set_cons_zero, List.set_cons_succ]
 refine Late.one (i := 15) (by kernel_rfl) (by rfl) (fun K' hK => ?_)
 go_simp
 refine hK.out _ _ (fun h => absurd h (by decide)) (fun _ => ?_)
 clear hK
 clear K'
 try simp only [Act.put, List.setIfInBounds_toArray, List.set_cons_zero, List.set_cons_succ]
 refine Late.done (by kernel_rfl) ?_ _
 clear s0 s1 s2 s3 hS
 all_goals
  obtain ⟨W7, hW7⟩ : ∃ W7, W7 = (w6.setCell ⟨w1.heap.size, 0, none⟩ (.slice (some ⟨g1, 0, none⟩) k c1)).setCell ⟨w1.heap.size, 1, none⟩ (.slice (some ⟨g2, 0, none⟩) k c2) := ⟨_, rfl⟩
  have HW7 := J hW7
  have KT7 : Blk.Blk W7 w1.heap.size 53 #[(.slice (some ⟨g1, 0, none⟩) k c1), (.slice (some ⟨g2, 0, none⟩) k c2)] := by rw [hW7]; exact (KT6.out.setTo 0 (.slice (some ⟨g1, 0, none⟩) k c1) rfl).setTo 1 (.slice (some ⟨g2, 0, none⟩) k c2) rfl
  have KR7 : Blk.Blk W7 (w.heap.size + 1) 53 #[.slice none 0 0, .slice none 0 0] := by rw [hW7]; exact (KR6.out.other _ H13.out).other _ H13.out
  have HB7 : Below w.heap.size w W7 := by rw [hW7]; exact (HB6.out.setCell (p := ⟨w1.heap.size, 0, none⟩) H14.out _).setCell (p := ⟨w1.heap.size, 1, none⟩) H14.out _
  have P1 : W7.ownsRow W3.heap.size 9 1 (.slice (some ⟨g1, 0, none⟩) k c1) k ((texts L.1).take p ++ (texts L.1).drop (p + 1)) := by
   have h := ownsRow_setCell_below' R16.out KT6.out 0 (.slice (some ⟨g1, 0, none⟩) k c1) 1 (.slice (some ⟨g2, 0, none⟩) k c2)
   rw [hW7]; exact h
  have P2 : W7.ownsRow W3.heap.size 29 7 (.slice (some ⟨g2, 0, none⟩) k c2) k ((ints (flat L.2)).take (p * 7) ++ (ints (flat L.2)).drop (p * 7 + 7)) := by rw [hW7]; exact ownsRow_setCell_below' R26.out KT6.out 0 (.slice (some ⟨g1, 0, none⟩) k c1) 1 (.slice (some ⟨g2, 0, none⟩) k c2)
  rw [← HTX.out] at P1
  rw [← HFL.out] at P2
  have O1 := ownsRow_base P1 HW3.out
  have O2 := ownsRow_base P2 HW3.out
  have t0 := KT7.at 0 (v := (.slice (some ⟨g1, 0, none⟩) k c1)) rfl
  have t1 := KT7.at 1 (v := (.slice (some ⟨g2, 0, none⟩) k c2)) rfl
  have r0 := KR7.at 0 (v := .slice none 0 0) rfl
  have r1 := KR7.at 1 (v := .slice none 0 0) rfl
  have f0 := KR7.frz 0
  have f1 := KR7.frz 1
  have KK := (KR7.setTo 0 (.slice (some ⟨g1, 0, none⟩) k c1) rfl).setTo 1 (.slice (some ⟨g2, 0, none⟩) k c2) rfl
  have k0 := KK.at 0 (v := (.slice (some ⟨g1, 0, none⟩) k c1)) rfl
  have k1 := KK.at 1 (v := (.slice (some ⟨g2, 0, none⟩) k c2)) rfl
  have HFIN := J (And.intro (ownsRow_setCell_below' O1 KR7 0 (.slice (some ⟨g1, 0, none⟩) k c1) 1 (.slice (some ⟨g2, 0, none⟩) k c2)) (And.intro (ownsRow_setCell_below' O2 KR7 0 (.slice (some ⟨g1, 0, none⟩) k c1) 1 (.slice (some ⟨g2, 0, none⟩) k c2)) ((HB7.setCell (p := ⟨w.heap.size + 1, 0, none⟩) (by simp) (.slice (some ⟨g1, 0, none⟩) k c1)).setCell (p := ⟨w.heap.size + 1, 1, none⟩) (by simp) (.slice (some ⟨g2, 0, none⟩) k c2))))
  have HY : Hid (∀ (W : World), (W.ownsRow w.heap.size 9 1 (.slice (some ⟨g1, 0, none⟩) k c1) k (texts (L.1.take p ++ L.1.drop (p + 1))) ∧ W.ownsRow w.heap.size 29 7 (.slice (some ⟨g2, 0, none⟩) k c2) k (ints (flat (L.2.take p ++ L.2.drop (p + 1)))) ∧ Below w.heap.size w W) → ∃ v', Ending.returned (.agg #[(.slice (some ⟨g1, 0, none⟩) k c1), (.slice (some ⟨g2, 0, none⟩) k c2)]) = .returned v' ∧ LabOwn w.heap.size W v' (L.1.take p ++ L.1.drop (p + 1), L.2.take p ++ L.2.drop (p + 1)) ∧ Below w.heap.size w W) := J (fun W h => by
   obtain ⟨h1, h2, h3⟩ := h
   refine ⟨_, rfl, ⟨some ⟨g1, 0, none⟩, c1, some ⟨g2, 0, none⟩, c2, ?_, ?_, ?_⟩, h3⟩
   ·rw [HL1.out, HL2.out]
   ·rw [HL1.out]; exact h1
   ·rw [HL2.out]; exact h2)
  clear KT KR HB Q1 Q2 HSA HSE KT5 KR5 KT6 KR6 HB5 HB6 R15 R25 R16 R26 KTd KRd Q1d Q2d HBd P1 P2 O1 O2 KT7 KR7 HB7 KK hW7 hz5 hz6
  rw [← HW7.out]
  go_wp2
  refine bodyPost_ret (v := .agg #[(.slice (some ⟨g1, 0, none⟩) k c1), (.slice (some ⟨g2, 0, none⟩) k c2)]) (by simp [results, Tryz.results140, go_sem, k0, k1]) rfl ?_
  exact HY.out _ ⟨HFIN.out.1, HFIN.out.2.1, HFIN.out.2.2⟩
end LcW
namespace LcG
open Go.RowKit Base Mem MemS LabM LabV StM Str StTx Dec Val Rd CarM LcA LcC
open Take (SBox set7)
def Ev2 (B b : Nat) (t : TypeId) (z f : Array Value) (b2 : Nat) (t2 : TypeId) (g : Array Value) (w w' : World) : Prop := RelR.EvBox B b t z f w w' ∧ (Blk.Blk w b2 t2 g → Blk.Blk w' b2 t2 g)
theorem ev2_ok (B b : Nat) (t : TypeId) (z f : Array Value) (b2 : Nat) (t2 : TypeId) (g : Array Value) : RelR.EvOk (Ev2 B b t z f b2 t2 g) where
 refl w := ⟨(RelR.evBox_ok B b t z f).refl w, id⟩
 trans w w' w'' h1 h2 := ⟨(RelR.evBox_ok B b t z f).trans w w' w'' h1.1 h2.1, fun h => h2.2 (h1.2 h)⟩
 drew w := ⟨(RelR.evBox_ok B b t z f).drew w, id⟩
theorem ev2_of {B b b2 : Nat} {t t2 : TypeId} {z f g : Array Value} {w w' : World} (hB : B ≤ w.heap.size) (h : Below w.heap.size w w') : Ev2 B b t z f b2 t2 g w w' := ⟨RelR.evBox_of hB h, fun k => k.belowS h⟩
set_option maxHeartbeats 4000000 in
set_option maxRecDepth 100000 in
theorem use_show {L : Lb} {nm : ByteArray} {r : St} (hf : findR L nm = some r) (hv : r.ok = true) (hl : L.1.length = L.2.length) (hn : L.1.length ≤ 6) (v : Value) (w : World) (h : LabAt w v L) (ht : Tabs w) :
  Calls Tryz.prog 88 #[v, .string ⟨#[115, 104, 111, 119]⟩, .string nm] w fun e w' => e = .returned (.tuple #[v, .string (tx (textS r.K r.W r.T r.m r.f r.a r.s)), .bool true]) ∧ Below w.heap.size w w' := by
 have HTx := J (fun W (hb : Below w.heap.size w W) => streamText_any r.K r.W r.T r.m r.f r.a r.s W (ht.on hb).1 hv)
 obtain ⟨t3, ht3⟩ : ∃ t, t = tx (textS r.K r.W r.T r.m r.f r.a r.s) := ⟨_, rfl⟩
 rw [← ht3] at HTx ⊢
 clear ht3
 have hv0 := h
 obtain ⟨A, c, A', c', rfl, hx, hy, _⟩ := h
 obtain ⟨W2, hW2⟩ : ∃ W2, W2 = (w.alloc (.cells #[.slice A L.1.length c, .slice A' L.2.length c'] 53)).alloc (.cells #[.slice none 0 0, .slice none 0 0] 53) := ⟨_, rfl⟩
 have b2 : Below w.heap.size w W2 := by rw [hW2]; exact ((Below.refl _ _).alloc (Nat.le_refl _) _).alloc (by simp) _
 have KL : Hid (Blk.Blk W2 w.heap.size 53 #[.slice A L.1.length c, .slice A' L.2.length c']) := J (by rw [hW2]; exact (Blk.Blk.new w _ _).alloc _)
 have KR : Hid (Blk.Blk W2 (w.heap.size + 1) 53 #[.slice none 0 0, .slice none 0 0]) := J (by rw [hW2]; exact Blk.Blk.newAt _ _ (by simp))
 have HF := J (find_ex L (.agg #[.slice A L.1.length c, .slice A' L.2.length c']) nm W2 (hv0.below b2) hl hn)
 have HB := J b2
 have HW := J hW2
 rw [hf] at HF
 clear hv hv0 hx hy hW2 b2 ht hl hf
 go_enter Tryz.func88, Tryz.ntmps88
 go_wp2_with fail
 rw [← HW.out]
 refine HF.out.mono ?_
 rintro e w1 ⟨r0, rfl, hr0, b1⟩
 obtain rfl := hr0 _ rfl
 have KL1 := J (KL.out.belowS b1)
 have KR1 := J (KR.out.belowS b1)
 have HB1 := J (Base.Below.nextA HB.out b1)
 have B1 := J b1
 clear b1 KL KR HF HW
 obtain ⟨K, W, T, m, f, a, s⟩ := r0
 unfold St.val
 dsimp only
 obtain ⟨W3, hW3⟩ : ∃ W3, W3 = w1.alloc (.cells #[.int .i64 K, .int .i64 W, .int .i64 T, .int .i64 m, .int .i64 f, .int .i64 a, .int .i64 s] 29) := ⟨_, rfl⟩
 have b3 : Below w1.heap.size w1 W3 := by rw [hW3]; exact (Below.refl _ _).alloc (Nat.le_refl _) _
 have HW3 := J hW3
 have KS := J (show Blk.Blk W3 w1.heap.size 29 #[.int .i64 K, .int .i64 W, .int .i64 T, .int .i64 m, .int .i64 f, .int .i64 a, .int .i64 s] by rw [hW3]; exact Blk.Blk.new _ _ _)
 have KL := J (KL1.out.belowS b3)
 have KR := J (KR1.out.belowS b3)
 have HB4 := J (Base.Below.nextA HB1.out b3)
 have HK1 := J KR1.out.lt
 have HSZ : Hid (w.heap.size + 1 ≤ W3.heap.size) := J (Nat.le_of_lt (Nat.lt_of_lt_of_le HK1.out b3.size))
 have HEV := J (ev2_ok (w.heap.size + 1) (w.heap.size + 1) 53 #[.slice none 0 0, .slice none 0 0] #[.slice A L.1.length c, .slice A' L.2.length c'] w1.heap.size 29 #[.int .i64 K, .int .i64 W, .int .i64 T, .int .i64 m, .int .i64 f, .int .i64 a, .int .i64 s])
 have HNE : Hid (w.heap.size + 1 ≠ w1.heap.size) := J (Nat.ne_of_lt HK1.out)
 clear b3 hW3 KL1 KR1 HB1
 go_wp2_with fail
 rw [← HW3.out]
 refine RelR.wp_region_rel HEV.out 4 (by kernel_rfl) (by kernel_rfl) (fun F hF => ?_)
 simp only [List.take_succ_cons, List.take_zero, List.drop_succ_cons, List.drop_zero, Rel.putL] at hF ⊢
 have HF := J hF
 clear hF
 have uv := @Rel.upon_value Tryz.prog
 have ue := @Rel.upon_enter Tryz.prog
 have us := @RelR.upon_skip Tryz.prog
 apply RelR.rel_pure HEV.out
 apply Exists.intro
 refine ⟨fun vs wq hq hdp R hR => ?_, ?_⟩
 ·(rw [HF.out, Rel.stepAt_eq]; clear hdp; have x0 := (KL.out.below hq.1.1 (Nat.lt_succ_self _)).at 0 (v := .slice A L.1.length c) rfl; have x1 := (KL.out.below hq.1.1 (Nat.lt_succ_self _)).at 1 (v := .slice A' L.2.length c') rfl; go_simp; exact hR)
 apply RelR.rel_pure HEV.out
 apply Exists.intro
 refine ⟨fun vs wq hq hdp R hR => ?_, ?_⟩
 ·(rw [HF.out, Rel.stepAt_eq]; clear hdp; have kk := hq.2 KS.out; have z0 := kk.at 0 (v := .int .i64 K) rfl; have z1 := kk.at 1 (v := .int .i64 W) rfl; have z2 := kk.at 2 (v := .int .i64 T) rfl; have z3 := kk.at 3 (v := .int .i64 m) rfl; have z4 := kk.at 4 (v := .int .i64 f) rfl; have z5 := kk.at 5 (v := .int .i64 a) rfl; have z6 := kk.at 6 (v := .int .i64 s) rfl; clear kk; go_simp; exact hR)
 apply RelR.rel_same
 apply Exists.intro
 refine ⟨fun vs wq hq hdp => ?_, ?_⟩
 ·(rw [HF.out, Rel.stepAt_eq]; have qd1 : vs 1 = _ := Rel.dep hdp 1 (by kernel_rfl); clear hdp; skip; go_simp; refine (HTx.out wq (HB4.out.trans (hq.1.1.mono (Nat.le_succ _)))).mono ?_; rintro e w7 ⟨rfl, hb⟩; exact ⟨_, rfl, rfl, ev2_of (Nat.le_trans HSZ.out hq.1.1.size) hb⟩)
 refine RelR.rel_law (S := fun _ w' => Blk.Blk w' (w.heap.size + 1) 53 #[.slice A L.1.length c, .slice A' L.2.length c']) ((fun _ _ _ h hb => hb.1.2.2 h)) (fun vs wq hq hdp => ?_) ?_
 ·(rw [HF.out, Rel.stepAt_eq]; have qd0 : vs 0 = _ := Rel.dep hdp 0 (by kernel_rfl); clear hdp; obtain ⟨u0, u1, p0, p1, p2, p3, p4, p5⟩ := RelR.evBox_put hq.1 KR.out (Nat.le_refl _); have HPP := J (And.intro p4 (show Ev2 (w.heap.size + 1) (w.heap.size + 1) 53 #[.slice none 0 0, .slice none 0 0] #[.slice A L.1.length c, .slice A' L.2.length c'] w1.heap.size 29 #[.int .i64 K, .int .i64 W, .int .i64 T, .int .i64 m, .int .i64 f, .int .i64 a, .int .i64 s] _ _ from ⟨p5, fun k => (k.other _ HNE.out).other _ HNE.out⟩)); clear p4 p5; go_simp; exact HPP.out)
 refine RelR.rel_end (fun vs wq hq hall => ?_)
 rw [HF.out]
 have qe0 : vs 0 = _ := Rel.fin hall 0 (by decide)
 have qe1 : vs 1 = _ := Rel.fin hall 1 (by decide)
 have qe2 : vs 2 = _ := Rel.fin hall 2 (by decide)
 have qe3 : Blk.Blk wq _ _ _ := Rel.fin hall 3 (by decide)
 clear hall HF uv ue us
 have k0 := qe3.at 0 (v := .slice A L.1.length c) rfl
 have k1 := qe3.at 1 (v := .slice A' L.2.length c') rfl
 have HFIN := J (HB4.out.trans (hq.1.1.mono (Nat.le_succ _)))
 clear hq qe0 qe1 qe3
 go_wp2
 refine bodyPost_ret (v := .tuple #[.agg #[.slice A L.1.length c, .slice A' L.2.length c'], .string t3, .bool true]) (by simp [results, Tryz.results88, go_sem, k0, k1]) rfl ?_
 exact ⟨rfl, HFIN.out⟩
set_option maxHeartbeats 4000000 in
set_option maxRecDepth 100000 in
theorem use_drop {L : Lb} {nm : ByteArray} {r : St} (hf : findR L nm = some r) (hl : L.1.length = L.2.length) (hn : L.1.length ≤ 6) (v : Value) (w : World) (h : LabAt w v L) :
  Calls Tryz.prog 88 #[v, .string ⟨#[100, 114, 111, 112]⟩, .string nm] w fun e w' => ∃ v', e = .returned (.tuple #[v', .string ⟨#[111, 107]⟩, .bool true]) ∧ LabAt w' v' (goneR L nm) ∧ Below w.heap.size w w' := by
 have hh : hasS L.1 nm = true := by unfold findR at hf; split at hf; assumption; cases hf
 have HDr := J (fun v W h => LcW.without_any L v nm W h hl hn hh)
 clear hh
 have hv0 := h
 obtain ⟨A, c, A', c', rfl, hx, hy, _⟩ := h
 obtain ⟨W2, hW2⟩ : ∃ W2, W2 = (w.alloc (.cells #[.slice A L.1.length c, .slice A' L.2.length c'] 53)).alloc (.cells #[.slice none 0 0, .slice none 0 0] 53) := ⟨_, rfl⟩
 have b2 : Below w.heap.size w W2 := by rw [hW2]; exact ((Below.refl _ _).alloc (Nat.le_refl _) _).alloc (by simp) _
 have KL : Hid (Blk.Blk W2 w.heap.size 53 #[.slice A L.1.length c, .slice A' L.2.length c']) := J (by rw [hW2]; exact (Blk.Blk.new w _ _).alloc _)
 have KR : Hid (Blk.Blk W2 (w.heap.size + 1) 53 #[.slice none 0 0, .slice none 0 0]) := J (by rw [hW2]; exact Blk.Blk.newAt _ _ (by simp))
 have HF := J (find_ex L (.agg #[.slice A L.1.length c, .slice A' L.2.length c']) nm W2 (hv0.below b2) hl hn)
 have HB := J b2
 have HW := J hW2
 rw [hf] at HF
 have HV := J hv0
 clear hv0 hx hy hW2 b2 hl hf
 go_enter Tryz.func88, Tryz.ntmps88
 go_wp2_with fail
 rw [← HW.out]
 refine HF.out.mono ?_
 rintro e w1 ⟨r0, rfl, hr0, b1⟩
 obtain rfl := hr0 _ rfl
 have KL1 := J (KL.out.belowS b1)
 have KR1 := J (KR.out.belowS b1)
 have HB1 := J (Base.Below.nextA HB.out b1)
 have B1 := J b1
 have HV1 := J ((HV.out.below HB.out).below B1.out)
 clear b1 KL KR HF HW
 obtain ⟨K, W, T, m, f, a, s⟩ := r0
 unfold St.val
 dsimp only
 have hk1 := KR1.out.lt
 obtain ⟨W3, hW3⟩ : ∃ W3, W3 = w1.alloc (.cells #[.int .i64 K, .int .i64 W, .int .i64 T, .int .i64 m, .int .i64 f, .int .i64 a, .int .i64 s] 29) := ⟨_, rfl⟩
 have b3 : Below w1.heap.size w1 W3 := by rw [hW3]; exact (Below.refl _ _).alloc (Nat.le_refl _) _
 have HW3 := J hW3
 have KS := J (show Blk.Blk W3 w1.heap.size 29 #[.int .i64 K, .int .i64 W, .int .i64 T, .int .i64 m, .int .i64 f, .int .i64 a, .int .i64 s] by rw [hW3]; exact Blk.Blk.new _ _ _)
 have KL := J (KL1.out.belowS b3)
 have KR := J (KR1.out.belowS b3)
 have HB4 := J (Base.Below.nextA HB1.out b3)
 have HK1 := J KR1.out.lt
 have HD4 := J (HDr.out (.agg #[.slice A L.1.length c, .slice A' L.2.length c']) W3 (HV1.out.below b3))
 have e0 := KL.out.at 0 (v := .slice A L.1.length c) rfl
 have e1 := KL.out.at 1 (v := .slice A' L.2.length c') rfl
 rw [hW3] at e0 e1
 clear b3 hW3 KL1 KR1 HB1 HDr HV HV1 KS
 go_wp2_with fail
 rw [← HW3.out]
 refine HD4.out.mono ?_
 rintro e w6 ⟨v6, rfl, hv6, b6⟩
 have hv7 := hv6
 obtain ⟨A7, c7, A8, c8, rfl, _, _⟩ := hv6
 have KR6 := KR.out.belowS b6
 have HB6 := Base.Below.nextA HB4.out b6
 have hk6 := KR6.lt
 have r0 := KR6.at 0 (v := .slice none 0 0) rfl
 have r1 := KR6.at 1 (v := .slice none 0 0) rfl
 have f0 := KR6.frz 0
 have f1 := KR6.frz 1
 have KK := (KR6.setTo 0 (.slice A7 (goneR L nm).1.length c7) rfl).setTo 1 (.slice A8 (goneR L nm).2.length c8) rfl
 have k0 := KK.at 0 (v := .slice A7 (goneR L nm).1.length c7) rfl
 have k1 := KK.at 1 (v := .slice A8 (goneR L nm).2.length c8) rfl
 have hvf := (ownPut hv7 (b := w.heap.size + 1) (by have := KR.out.lt; omega) (.slice A7 (goneR L nm).1.length c7) (.slice A8 (goneR L nm).2.length c8)).at
 have HFIN := J (And.intro hvf ((HB6.setCell (p := ⟨w.heap.size + 1, 0, none⟩) (Nat.le_succ _) (.slice A7 (goneR L nm).1.length c7)).setCell (p := ⟨w.heap.size + 1, 1, none⟩) (Nat.le_succ _) (.slice A8 (goneR L nm).2.length c8)))
 clear hv7 KR6 HB6 KK hvf b6 HD4 KL KR HB4 e0 e1
 go_wp2
 refine bodyPost_ret (v := .tuple #[.agg #[.slice A7 (goneR L nm).1.length c7, .slice A8 (goneR L nm).2.length c8], .string ⟨#[111, 107]⟩, .bool true]) (by simp [results, Tryz.results88, go_sem, k0, k1]) rfl ?_
 exact ⟨_, rfl, HFIN.out.1, HFIN.out.2⟩
set_option maxHeartbeats 4000000 in
set_option maxRecDepth 100000 in
theorem use_none {L : Lb} {nm t0 : ByteArray} (hf : findR L nm = none) (hl : L.1.length = L.2.length) (hn : L.1.length ≤ 6) (v : Value) (w : World) (h : LabAt w v L) :
  Calls Tryz.prog 88 #[v, .string t0, .string nm] w fun e w' => e = .returned (.tuple #[v, .string ⟨#[]⟩, .bool false]) ∧ Below w.heap.size w w' := by
 have hv0 := h
 obtain ⟨A, c, A', c', rfl, hx, hy, _⟩ := h
 obtain ⟨W2, hW2⟩ : ∃ W2, W2 = (w.alloc (.cells #[.slice A L.1.length c, .slice A' L.2.length c'] 53)).alloc (.cells #[.slice none 0 0, .slice none 0 0] 53) := ⟨_, rfl⟩
 have b2 : Below w.heap.size w W2 := by rw [hW2]; exact ((Below.refl _ _).alloc (Nat.le_refl _) _).alloc (by simp) _
 have KL : Hid (Blk.Blk W2 w.heap.size 53 #[.slice A L.1.length c, .slice A' L.2.length c']) := J (by rw [hW2]; exact (Blk.Blk.new w _ _).alloc _)
 have KR : Hid (Blk.Blk W2 (w.heap.size + 1) 53 #[.slice none 0 0, .slice none 0 0]) := J (by rw [hW2]; exact Blk.Blk.newAt _ _ (by simp))
 have HF := J (find_ex L (.agg #[.slice A L.1.length c, .slice A' L.2.length c']) nm W2 (hv0.below b2) hl hn)
 have HB := J b2
 have HW := J hW2
 rw [hf] at HF
 dsimp only [Option.isSome] at HF
 clear hv0 hx hy hW2 b2 hl hf
 go_enter Tryz.func88, Tryz.ntmps88
 go_wp2_with fail
 rw [← HW.out]
 refine HF.out.mono ?_
 rintro e w1 ⟨r0, rfl, _, b1⟩
 have KL1 := J (KL.out.belowS b1)
 have KR1 := J (KR.out.belowS b1)
 have HB1 := J (Base.Below.nextA HB.out b1)
 have B1 := J b1
 clear b1 KL KR HF HW
 obtain ⟨K, W, T, m, f, a, s⟩ := r0
 unfold St.val
 dsimp only
 have hk1 := KR1.out.lt
 have b3 : Below w1.heap.size w1 (w1.alloc (.cells #[.int .i64 K, .int .i64 W, .int .i64 T, .int .i64 m, .int .i64 f, .int .i64 a, .int .i64 s] 29)) := (Below.refl _ _).alloc (Nat.le_refl _) _
 have e0 := (KL1.out.belowS b3).at 0 (v := .slice A L.1.length c) rfl
 have e1 := (KL1.out.belowS b3).at 1 (v := .slice A' L.2.length c') rfl
 have r0 := (KR1.out.belowS b3).at 0 (v := .slice none 0 0) rfl
 have r1 := (KR1.out.belowS b3).at 1 (v := .slice none 0 0) rfl
 have f0 := (KR1.out.belowS b3).frz 0
 have f1 := (KR1.out.belowS b3).frz 1
 have g0 := KR1.out.at 0 (v := .slice none 0 0) rfl
 have g1 := KR1.out.at 1 (v := .slice none 0 0) rfl
 have h0 := KR1.out.frz 0
 have h1 := KR1.out.frz 1
 have KK := ((KR1.out.setTo 0 (.slice A L.1.length c) rfl).setTo 1 (.slice A' L.2.length c') rfl).alloc (.cells #[.int .i64 K, .int .i64 W, .int .i64 T, .int .i64 m, .int .i64 f, .int .i64 a, .int .i64 s] 29)
 have k0 := KK.at 0 (v := .slice A L.1.length c) rfl
 have k1 := KK.at 1 (v := .slice A' L.2.length c') rfl
 have HFIN := J (((HB1.out.setCell (p := ⟨w.heap.size + 1, 0, none⟩) (Nat.le_succ _) (.slice A L.1.length c)).setCell (p := ⟨w.heap.size + 1, 1, none⟩) (Nat.le_succ _) (.slice A' L.2.length c')).alloc (by have := HB1.out.size; simp; omega) (.cells #[.int .i64 K, .int .i64 W, .int .i64 T, .int .i64 m, .int .i64 f, .int .i64 a, .int .i64 s] 29))
 clear KK KL1 KR1 HB1 b3
 go_wp2
 refine bodyPost_ret (v := .tuple #[.agg #[.slice A L.1.length c, .slice A' L.2.length c'], .string ⟨#[]⟩, .bool false]) (by simp [results, Tryz.results88, go_sem, k0, k1]) rfl ?_
 exact ⟨rfl, HFIN.out⟩
end LcG
namespace Face
open Go.RowKit Base Mem Reg Str Take Skip Dice Shuf
set_option maxHeartbeats 2000000 in
set_option maxRecDepth 100000 in
theorem implOrder_yes {K W T m f a s : Int} (hB : streamB K W T m f a s = true) (n : Nat) (hn : 0 < n) (hn2 : n ≤ 12) (w : World) : Calls Tryz.prog 143 #[.agg #[.int .i64 K, .int .i64 W, .int .i64 T, .int .i64 m, .int .i64 f, .int .i64 a, .int .i64 s], .int .i64 (n : Int)] w (FsRet K W T m f a (ordOf n (ordA K W T m f a (n - 1) s [])) w) := by
 obtain ⟨W1, hW1, S, R, B⟩ := two w K W T m f a s
 obtain ⟨i0, hi, hz0, hz1, hz2⟩ := info_parts infoI
 have HI := J (validStream_any K W T m f a s W1)
 rw [hB] at HI
 have HN := J (fun w => isCards_any (n : Int) w)
 rw [inR_yes (n := (n : Int)) (lo := 1) (hi := 12) (by omega)] at HN
 have HF := J (fun (j : Nat) (hj : j ≤ 12) s (h : streamB K W T m f a s = true) w => roll_any h (j + 2) (by omega) (by omega) w)
 have HSh := J (fun ch A c B w hx hB hk => implShufBy_yes n ch A c B w hx hB hk)
 have hZ : W1.heap.size = w.heap.size + 2 := by rw [hW1]; simp
 generalize hA : ordA K W T m f a (n - 1) s [] = RR
 have HA := J hA
 have HW := J hW1
 have HS := J S
 have HR := J R
 have HB1 := J B
 have HZ := J hZ
 have HBs := J hB
 clear hW1 S R B hB hA hZ
 go_enter Tryz.func143, Tryz.ntmps143
 go_wp2_with fail
 rw [← HW.out]
 refine HI.out.mono ?_
 rintro e w1 ⟨rfl, b1⟩
 have hsz : w.heap.size + 2 ≤ w1.heap.size := by have := b1.size; have := HZ.out; omega
 have t1 := HS.out.below b1 HS.out.lt
 have r1 := HR.out.below b1 HR.out.lt
 have BB := J (HB1.out.trans (b1.mono HB1.out.size))
 have H0 : Hid (OrRel K W T m f a n RR w1.heap.size w.heap.size (w.heap.size + 1) w (.int .i64 ((n : Int) - 1)) (.slice (some ⟨w1.heap.size, 0, none⟩) 0 0) (w1.alloc (.cells #[] 2))) := J (by
  have q := own_lit (B := w1.heap.size) w1 (Nat.le_refl _) [] (by simp)
  have bx := (Below.refl w1.heap.size w1).alloc (Nat.le_refl _) (.cells #[] 2)
  exact ⟨n - 1, [], s, by congr 1; omega, by simp; omega, fun j hj => absurd hj (Nat.not_lt_zero j), by simp, J q, J (t1.below bx t1.lt), J (r1.below bx r1.lt), HBs, HA, J (BB.out.trans (bx.mono BB.out.size))⟩)
 have hlw : w.heap.size < w1.heap.size := by omega
 have c0 := (t1).c0; have c1 := (t1).c1; have c2 := (t1).c2; have c3 := (t1).c3; have c4 := (t1).c4; have c5 := (t1).c5; have c6 := (t1).c6
 clear b1 t1 r1
 go_wp2_with fail
 refine (HN.out _).mono ?_
 rintro e w' ⟨rfl, rfl⟩
 go_wp2
 go_loopw [8, 7] (fun cv ov wr => OrRel K W T m f a n RR w1.heap.size w.heap.size (w.heap.size + 1) w cv ov wr) (fun cv _ _ => (intOf cv).toNat)
 case atStart => exact H0.out
 case round =>
  obtain ⟨k, L, sc, rfl, hkL, hok, hBw, HO, HX, HZb, HBc, HAc, HBl⟩ := hrel
  clear H0 c0 c1 c2 c3 c4 c5 c6
  have hzb := HZb.out.lt
  have hxb := HX.out.lt
  by_cases hk : 0 < k
  ·obtain ⟨j, rfl⟩ : ∃ j, k = j + 1 := ⟨k - 1, by omega⟩
   have HFs := J (fun w => HF.out j (by omega) sc HBc.out w)
   have hcast : ((j + 2 : Nat) : Int) = (j : Int) + 1 + 1 := by omega
   rw [hcast] at HFs
   clear hcast
   have x0 := (HX.out).c0; have x1 := (HX.out).c1; have x2 := (HX.out).c2; have x3 := (HX.out).c3; have x4 := (HX.out).c4; have x5 := (HX.out).c5; have x6 := (HX.out).c6
   cases hr : faceR K W T m f a sc (j + 2) (by omega) with
   | none =>
    rw [hr] at HFs
    have HFn := J (fun w => (HFs.out w).mono fun e w' h => (show e = .returned (.tuple #[.int .i64 0, .agg #[.int .i64 0, .int .i64 0, .int .i64 0, .int .i64 0, .int .i64 0, .int .i64 0, .int .i64 0], .bool false]) ∧ Below w.heap.size w w' from ⟨h.2.1 rfl, h.2.2⟩))
    have HNo := J ((ordA_none (k := j) (L := L) hr).symm.trans HAc.out).symm
    clear hr HFs
    go_wp2_with fail
    refine (HFn.out _).mono ?_
    rintro e w2 ⟨rfl, b2⟩
    have hz3 : w.heap.size + 1 < w2.heap.size := by have := b2.size; omega
    have RY := HZb.out.below b2 HZb.out.lt
    have BB3 := J (HBl.out.trans (b2.mono HBl.out.size))
    clear b2 x0 x1 x2 x3 x4 x5 x6
    have d0 := (RY).c0; have d1 := (RY).c1; have d2 := (RY).c2; have d3 := (RY).c3; have d4 := (RY).c4; have d5 := (RY).c5; have d6 := (RY).c6
    have g0 := (RY).frz 0; have g1 := (RY).frz 1; have g2 := (RY).frz 2; have g3 := (RY).frz 3; have g4 := (RY).frz 4; have g5 := (RY).frz 5; have g6 := (RY).frz 6
    have S8 := (RY.set7 0 0 0 0 0 0 0).below ((Below.refl _ _).alloc (Nat.le_refl _) (.cells #[.int .i64 0, .int .i64 0, .int .i64 0, .int .i64 0, .int .i64 0, .int .i64 0, .int .i64 0] 29)) (RY.set7 0 0 0 0 0 0 0).lt
    have p0 := (S8).c0; have p1 := (S8).c1; have p2 := (S8).c2; have p3 := (S8).c3; have p4 := (S8).c4; have p5 := (S8).c5; have p6 := (S8).c6
    simp only [set7] at p0 p1 p2 p3 p4 p5 p6
    have hs7 := (grown_set7 w2 (w.heap.size + 1) 0 0 0 0 0 0 0).size
    have HBN := J ((below_set7 (b := w.heap.size + 1) BB3.out (Nat.le_succ _) BB3.out.size 0 0 0 0 0 0 0).alloc (Nat.le_trans BB3.out.size hs7) (.cells #[.int .i64 0, .int .i64 0, .int .i64 0, .int .i64 0, .int .i64 0, .int .i64 0, .int .i64 0] 29))
    clear S8 RY hs7
    go_wp2
    exact bodyPost_ret (v := .tuple #[.slice none 0 0, .agg #[.int .i64 0, .int .i64 0, .int .i64 0, .int .i64 0, .int .i64 0, .int .i64 0, .int .i64 0], .bool false]) (by simp [results, Tryz.results143, go_sem, p0, p1, p2, p3, p4, p5, p6]) rfl (FsRet.no (by rw [HNo.out]; rfl) rfl HBN.out)
   | some p =>
    obtain ⟨cf, uf⟩ := p
    rw [hr] at HFs
    have HFn := J (fun w => (HFs.out w).mono fun e w' h => (show e = .returned (.tuple #[.int .i64 (cf : Int), .agg #[.int .i64 K, .int .i64 W, .int .i64 T, .int .i64 m, .int .i64 f, .int .i64 a, .int .i64 (takeX K W T m f a sc (uf : Int))], .bool true]) ∧ Below w.heap.size w w' from ⟨h.1 cf uf rfl, h.2.2⟩))
    have HA2 := J ((ordA_some (k := j) (L := L) hr).symm.trans HAc.out)
    have HB2 := J (streamB_takeX (c := (uf : Int)) HBc.out)
    have hcf := (faceR_bd (by omega) hr).1
    clear hr HFs
    obtain ⟨x, hx⟩ : ∃ x, takeX K W T m f a sc (uf : Int) = x := ⟨_, rfl⟩
    rw [hx] at HFn HA2 HB2
    clear hx
    go_wp2_with fail
    refine (HFn.out _).mono ?_
    rintro e w2 ⟨rfl, b2⟩
    clear x0 x1 x2 x3 x4 x5 x6
    obtain ⟨w4, hw4⟩ : ∃ w4, w4 = w2.alloc (.cells #[.int .i64 K, .int .i64 W, .int .i64 T, .int .i64 m, .int .i64 f, .int .i64 a, .int .i64 x] 29) := ⟨_, rfl⟩
    have bz : Below w2.heap.size w2 w4 := by rw [hw4]; exact (Below.refl _ _).alloc (Nat.le_refl _) _
    have U0 : SBox w4 w2.heap.size K W T m f a x := by rw [hw4]; exact SBox.new _ _ _ _ _ _ _ _
    have bo := Base.Below.nextA b2 bz
    have ba : Below w4.heap.size w4 (w4.alloc (.cells #[.int .i64 (cf : Int)] 2)).drew := ((Below.refl _ _).alloc (Nat.le_refl _) _).drew
    have b4 := Base.Below.nextA bo ba
    have hown := ownsRow_below HO.out (Base.Below.nextA bo ((Below.refl w4.heap.size w4).alloc (Nat.le_refl _) (.cells #[.int .i64 (cf : Int)] 2)))
    have HWn := J hown
    have HU := J (U0.below ba U0.lt)
    have HB4 := J b4
    have HW4 := J hw4
    have hlz2 : w1.heap.size < w4.heap.size := by have := b2.size; have := U0.lt; omega
    have hlz4 : w2.heap.size < w4.heap.size := U0.lt
    have x0 := U0.c0
    have x1 := U0.c1
    have x2 := U0.c2
    have x3 := U0.c3
    have x4 := U0.c4
    have x5 := U0.c5
    have x6 := U0.c6
    clear b2 bz ba b4 bo hown U0 hw4
    go_wp2_with fail
    rw [← HW4.out]
    go_region_law ((refine step_append_lies _ (by rfl) _ _ _ (by rfl) w1.heap.size 2 i0 _ 1 8 Tryz.underlying43 hi hz0 hz1 hz2 rfl (by omega) u7 L.length _ (by rfl) ((HWn.out).drew) ⟨w4.heap.size, 0, none⟩ 1 1 [.int .i64 (cf : Int)] (by rfl) (by rfl) (World.news_of_block (cs := #[.int .i64 (cf : Int)]) (t := 2) (fr := (0, 0)) (heap_alloc_new w4 _)) one_int (by omega) (by simp only [maxLen]; omega) (by omega) (by first | omega | (simp; omega)) (w4.heap.size + 1) (by simp) ?_; intro gg cap w5 hown' hg' hat hlt2; have HN := J (faces_next (c := (cf : Int)) (s2 := x) HO.out HX.out HZb.out (by omega) (by omega) (by omega) HBl.out HB4.out hown' hg'); have hsz5 : w1.heap.size ≤ (set7 w5 w.heap.size K W T m f a x).heap.size := Nat.le_trans (Nat.le_trans (Nat.le_of_lt hlz2) (Nat.le_trans (by simp) hg'.size)) (grown_set7 w5 w.heap.size K W T m f a x).size; have HSZ5 := J hsz5; clear hsz5; have q := HN.out.2.2.2.2.1; have qn := HU.out.kept hg' (own_not_str (HWn.out).drew HU.out); have y0 := (q).c0; have y1 := (q).c1; have y2 := (q).c2; have y3 := (q).c3; have y4 := (q).c4; have y5 := (q).c5; have y6 := (q).c6; have z0 := (q).frz 0; have z1 := (q).frz 1; have z2 := (q).frz 2; have z3 := (q).frz 3; have z4 := (q).frz 4; have z5 := (q).frz 5; have z6 := (q).frz 6; have v0 := (qn).c0; have v1 := (qn).c1; have v2 := (qn).c2; have v3 := (qn).c3; have v4 := (qn).c4; have v5 := (qn).c5; have v6 := (qn).c6; clear hown' hg' hat q qn))
    all_goals
     go_wp2
     go_roundw
     case rel => exact ⟨j, L ++ [(cf : Int)], x, by go_num, by simp; omega, okTo_snoc hok (by omega), HSZ5.out, J HN.out.1, J HN.out.2.1, J HN.out.2.2.1, HB2, HA2, J HN.out.2.2.2.1⟩
     case measure => simp [intOf]
  ·obtain rfl : k = 0 := by omega
   obtain ⟨A, cp, eA, _⟩ := HO.out.form
   subst eA
   have HAe := J (show RR = some (L, sc) from by rw [← HAc.out]; rfl)
   have HSx := J (HSh.out L A cp wr.heap.size wr HO.out.rd (Nat.le_refl _) ⟨by omega, by omega, hok⟩)
   have HOk := J hok
   clear hok
   go_wp2_with fail
   refine HSx.out.mono ?_
   rintro e w5 ⟨A5, c5, rfl, o5, b5⟩
   have X5 := HX.out.below b5 HX.out.lt
   have Z5 := HZb.out.below b5 HZb.out.lt
   have O5 := J o5
   have hlen := shufTo_len n L L.length
   have x0 := (X5).c0; have x1 := (X5).c1; have x2 := (X5).c2; have x3 := (X5).c3; have x4 := (X5).c4; have x5 := (X5).c5; have x6 := (X5).c6
   have h0 := (Z5).c0; have h1 := (Z5).c1; have h2 := (Z5).c2; have h3 := (Z5).c3; have h4 := (Z5).c4; have h5 := (Z5).c5; have h6 := (Z5).c6
   have g0 := (Z5).frz 0; have g1 := (Z5).frz 1; have g2 := (Z5).frz 2; have g3 := (Z5).frz 3; have g4 := (Z5).frz 4; have g5 := (Z5).frz 5; have g6 := (Z5).frz 6
   have S8 := Z5.set7 K W T m f a sc
   have p0 := (S8).c0; have p1 := (S8).c1; have p2 := (S8).c2; have p3 := (S8).c3; have p4 := (S8).c4; have p5 := (S8).c5; have p6 := (S8).c6
   simp only [set7] at p0 p1 p2 p3 p4 p5 p6
   have BB5 := J (HBl.out.trans (b5.mono HBl.out.size))
   have B7 := J (BB5.out.trans (grown_below (grown_set7 w5 (w.heap.size + 1) K W T m f a sc) (fun g e => by cases e; exact Nat.le_succ _) BB5.out.size))
   have o5' : w5.ownsRow wr.heap.size 2 1 (.slice A5 n c5) n (ints (shufTo n L L.length)) := by have := o5; unfold OwnI at this; rw [hlen] at this; exact this
   have O7 := J (own_set7 o5' Z5 K W T m f a sc)
   have HLe := J hlen
   have mixed : Tryz.prog.follows .mixedOrders = true := by kernel_rfl
   clear S8 X5 Z5 b5 o5 o5' hlen
   go_wp2_with fail
   go_region_o
   all_goals
    go_wp2
    refine bodyPost_ret (v := .tuple #[.slice A5 n c5, .agg #[.int .i64 K, .int .i64 W, .int .i64 T, .int .i64 m, .int .i64 f, .int .i64 a, .int .i64 sc], .bool true]) (by simp [results, Tryz.results143, go_sem, p0, p1, p2, p3, p4, p5, p6]) rfl (FsRet.yes (L := shufTo n L L.length) (s' := sc) (A := A5) (c := c5) (by rw [HAe.out]; rfl) (by rw [HLe.out]) ?_ (Below.drew B7.out))
    unfold OwnI
    rw [HLe.out]
    exact ownsRow_base (ownsRow_below O7.out ((Below.refl _ _).drew)) (by omega)
end Face
namespace Face
open Go.RowKit Base Mem Reg Str Take Skip Dice Shuf
set_option maxHeartbeats 2000000 in
set_option maxRecDepth 100000 in
theorem implOrder_any (K W T m f a s n : Int) (w : World) : Calls Tryz.prog 143 #[.agg #[.int .i64 K, .int .i64 W, .int .i64 T, .int .i64 m, .int .i64 f, .int .i64 a, .int .i64 s], .int .i64 n] w (FsRet K W T m f a (ordR K W T m f a s n) w) := by
 obtain ⟨W1, hW1, S, R, B⟩ := two w K W T m f a s
 have HI := J (validStream_any K W T m f a s W1)
 have HN := J (fun w => isCards_any n w)
 have HZ := J (show W1.heap.size = w.heap.size + 2 by rw [hW1]; simp)
 have HW := J hW1
 have HS := J S
 have HR := J R
 have HB1 := J B
 clear hW1 S R B
 cases hB : streamB K W T m f a s with
 | false =>
  rw [hB] at HI
  have HNo := J (ordR_no (K := K) (W := W) (T := T) (m := m) (f := f) (a := a) (s := s) (n := n) (by rw [hB]; rfl))
  clear hB
  go_enter Tryz.func143, Tryz.ntmps143
  go_wp2_with fail
  rw [← HW.out]
  refine HI.out.mono ?_
  rintro e w1 ⟨rfl, b1⟩
  have RZ := HR.out.below b1 HR.out.lt
  have BB := J (HB1.out.trans (b1.mono HB1.out.size))
  clear b1
  have d0 := (RZ).c0; have d1 := (RZ).c1; have d2 := (RZ).c2; have d3 := (RZ).c3; have d4 := (RZ).c4; have d5 := (RZ).c5; have d6 := (RZ).c6
  have g0 := (RZ).frz 0; have g1 := (RZ).frz 1; have g2 := (RZ).frz 2; have g3 := (RZ).frz 3; have g4 := (RZ).frz 4; have g5 := (RZ).frz 5; have g6 := (RZ).frz 6
  have S8 := RZ.set7 0 0 0 0 0 0 0
  have p0 := (S8).c0; have p1 := (S8).c1; have p2 := (S8).c2; have p3 := (S8).c3; have p4 := (S8).c4; have p5 := (S8).c5; have p6 := (S8).c6
  simp only [set7] at p0 p1 p2 p3 p4 p5 p6
  have HBN := J (below_set7 (b := w.heap.size + 1) BB.out (Nat.le_succ _) (BB.out).size 0 0 0 0 0 0 0)
  clear S8 RZ
  go_wp2
  exact bodyPost_ret (v := .tuple #[.slice none 0 0, .agg #[.int .i64 0, .int .i64 0, .int .i64 0, .int .i64 0, .int .i64 0, .int .i64 0, .int .i64 0], .bool false]) (by simp [results, Tryz.results143, go_sem, p0, p1, p2, p3, p4, p5, p6]) rfl (FsRet.no HNo.out rfl HBN.out)
 | true =>
  rw [hB] at HI
  cases hN : inR n 1 12 with
  | false =>
   rw [hN] at HN
   have HNo := J (ordR_no (K := K) (W := W) (T := T) (m := m) (f := f) (a := a) (s := s) (n := n) (by rw [hB, hN]; rfl))
   clear hB hN
   go_enter Tryz.func143, Tryz.ntmps143
   go_wp2_with fail
   rw [← HW.out]
   refine HI.out.mono ?_
   rintro e w1 ⟨rfl, b1⟩
   have RZ := HR.out.below b1 HR.out.lt
   have BB := J (HB1.out.trans (b1.mono HB1.out.size))
   clear b1
   go_wp2_with fail
   refine (HN.out _).mono ?_
   rintro e w' ⟨rfl, rfl⟩
   have d0 := (RZ).c0; have d1 := (RZ).c1; have d2 := (RZ).c2; have d3 := (RZ).c3; have d4 := (RZ).c4; have d5 := (RZ).c5; have d6 := (RZ).c6
   have g0 := (RZ).frz 0; have g1 := (RZ).frz 1; have g2 := (RZ).frz 2; have g3 := (RZ).frz 3; have g4 := (RZ).frz 4; have g5 := (RZ).frz 5; have g6 := (RZ).frz 6
   have S8 := RZ.set7 0 0 0 0 0 0 0
   have p0 := (S8).c0; have p1 := (S8).c1; have p2 := (S8).c2; have p3 := (S8).c3; have p4 := (S8).c4; have p5 := (S8).c5; have p6 := (S8).c6
   simp only [set7] at p0 p1 p2 p3 p4 p5 p6
   have HBN := J (below_set7 (b := w.heap.size + 1) BB.out (Nat.le_succ _) (BB.out).size 0 0 0 0 0 0 0)
   clear S8 RZ
   go_wp2
   exact bodyPost_ret (v := .tuple #[.slice none 0 0, .agg #[.int .i64 0, .int .i64 0, .int .i64 0, .int .i64 0, .int .i64 0, .int .i64 0, .int .i64 0], .bool false]) (by simp [results, Tryz.results143, go_sem, p0, p1, p2, p3, p4, p5, p6]) rfl (FsRet.no HNo.out rfl HBN.out)
  | true =>
   rw [hN] at HN
   obtain ⟨n1, n2⟩ := inR_true hN
   obtain ⟨N, rfl⟩ := Int.eq_ofNat_of_zero_le (show 0 ≤ n by omega)
   rw [ordR_yes (by rw [hB, hN]; rfl)]
   exact implOrder_yes hB N (by omega) (by omega) w
end Face
end Go.Proofs.YtgipnbeipfhekaaGreatDoor

/- The reference: a line that is drawn for a lab. -/
import Derived.Test.YtpjepheiagllgaaDoorMgFnJ12
import Derived.Test.YtpjepheiagllgaaDoorMgFnJ13
namespace Go.Proofs.YtpjepheiagllgaaDoor.LabD
open Go.RowKit Go.Proofs.YtpjepheiagllgaaDoor Go.Proofs.YtpjepheiagllgaaDoor.Base Go.Proofs.YtpjepheiagllgaaDoor.Mem Go.Proofs.YtpjepheiagllgaaDoor.Dec Go.Proofs.YtpjepheiagllgaaDoor.LabM Go.Proofs.YtpjepheiagllgaaDoor.Str Go.Proofs.YtpjepheiagllgaaDoor.Take Go.Proofs.YtpjepheiagllgaaDoor.StTx Go.Proofs.YtpjepheiagllgaaDoor.Src Go.Proofs.YtpjepheiagllgaaDoor.Blk Go.Proofs.YtpjepheiagllgaaDoor.Draw
set_option linter.unusedVariables false
def gdB (n : Nat) (t : ByteArray) : Bool := decide (t.size ≤ n) && t.data.toList.all fun x => x != 10
theorem gdB_true {n : Nat} {t : ByteArray} (h : gdB n t = true) : Gd n t := by
 unfold gdB at h
 rw [Bool.and_eq_true, decide_eq_true_eq, List.all_eq_true] at h
 exact ⟨h.1, fun x hx e => by have := h.2 x hx; rw [e] at this; simp at this⟩
theorem getD_gd {n : Nat} {ss : List ByteArray} (h : ss.all (gdB n) = true) (i : Nat) (hi : i < ss.length) : Gd n (ss.getD i ByteArray.empty) := by
 rw [List.getD_eq_getElem?_getD, List.getElem?_eq_getElem hi]
 exact gdB_true (List.all_eq_true.1 h _ (List.getElem_mem hi))
theorem lit_good (p K n m : Nat) (ss : List ByteArray) (cs : Array Value) (w : World) (h : Src w p K) (hK : K ≤ 1000000000000) (hcs : cs = (ss.map Value.string).toArray) (hm : ss.length = m) (h1 : 1 ≤ m) (hm2 : m ≤ 1000) (hg : ss.all (gdB n) = true) :
  Calls Tryd.prog 23 #[.pointer (some ⟨p, 0, none⟩), .slice (some ⟨w.heap.size, 0, none⟩) m m] (w.alloc (.cells cs 9)) (PickT p (K + 2) n w) := by
 subst hm hcs
 have hp := h.lt
 have hb : Below w.heap.size w (w.alloc (.cells (ss.map Value.string).toArray 9)) := (Below.refl _ _).alloc (Nat.le_refl _) _
 refine (text_good p K w.heap.size 0 ss.length n ss _ (h.below hb) hK (by omega) (by simp) h1 (by omega) (fun i hi => ?_) (getD_gd hg)).mono fun e w' ⟨t, h1, h2, h3, h4⟩ => ⟨t, h1, h2, h3, ?_⟩
 ·rw [Nat.zero_add]
  simp [hi, List.getD]
 ·exact ((World.grownBy_alloc w _ (some p)).trans h4)
structure NamesAt (w : World) (b p : Nat) : Prop where
 ex : ∃ (A : Option Addr) (n c : Nat) (ss : List ByteArray), w.cell? ⟨b, 0, none⟩ = some (.slice A n c) ∧ b ≠ p ∧ b < w.heap.size ∧ n ≤ 6 ∧ ss.length = n ∧ (∀ i, i < ss.length → Gd 10 (ss.getD i ByteArray.empty)) ∧
  (0 < n → ∃ g off, A = some ⟨g, off, none⟩ ∧ g ≠ p ∧ g < w.heap.size ∧ ∀ i, i < n → w.cell? ⟨g, off + i, none⟩ = some (.string (ss.getD i ByteArray.empty)))
theorem NamesAt.beside {w w' : World} {b p : Nat} (h : NamesAt w b p) (hg : Beside p w w') : NamesAt w' b p := by
 obtain ⟨A, n, c, ss, h0, hne, hlt, h6, hl, hgd, hr⟩ := h.ex
 refine ⟨A, n, c, ss, (World.cell?_of_block (a := ⟨b, 0, none⟩) (hg.same b hlt hne)).trans h0, hne, Nat.lt_of_lt_of_le hlt hg.size, h6, hl, hgd, fun h0 => ?_⟩
 obtain ⟨g, off, e, hgp, hgl, hc⟩ := hr h0
 exact ⟨g, off, e, hgp, Nat.lt_of_lt_of_le hgl hg.size, fun i hi => (World.cell?_of_block (a := ⟨g, off + i, none⟩) (hg.same g hgl hgp)).trans (hc i hi)⟩
theorem Gd.neg1 : Gd 10 (tx (45 :: Lib.decDigits 1)) := by
 rw [Lib.decDigits_one (by decide)]
 exact gdB_true (by decide +kernel)
def DecRet (w : World) (e : Ending) (w' : World) : Prop := ∃ t : ByteArray, Gd 10 t ∧ e = .returned (.string t) ∧ Below w.heap.size w w'
theorem dec_good (v : Int) (h1 : -1 ≤ v) (h2 : v < 10 ^ 10) (w : World) : Calls Tryd.prog 27 #[.int .i64 v] w (DecRet w) := by
 by_cases h : v < 0
 ·obtain rfl : v = -((1 : Nat) : Int) := by omega
  exact (l01Dec_neg 1 (by decide) (by decide) w).mono fun e w' ⟨he, hb⟩ => ⟨_, Gd.neg1, he, hb⟩
 ·obtain ⟨u, rfl⟩ := Int.eq_ofNat_of_zero_le (by omega : 0 ≤ v)
  exact (l01Dec_any u (by omega) w).mono fun e w' ⟨he, hb⟩ => ⟨_, Gd.dec (by omega), he, hb⟩
theorem add_good {n m : Nat} {a b : ByteArray} (ga : Gd n a) (gb : Gd m b) (h : n + m ≤ 1000) : ∃ c, Gd (n + m) c ∧ ∀ w : World, (Op.stringOp .add a b).run Tryd.prog w = .ok (.string c) w :=
 ⟨a ++ b, ga.app gb, fun w => strAddS rfl (by have := ga.1; have := gb.1; omega) w⟩
theorem dec_no (u : Nat) : ∀ x ∈ Lib.decDigits u, x ≠ 10 := by
 induction u using Nat.strongRecOn with
 | _ u ih =>
  intro x hx e
  rw [Lib.decDigits] at hx
  by_cases h10 : u < 10
  ·rw [dif_pos h10] at hx
   have h2 := List.mem_singleton.1 hx
   rw [e] at h2
   have h3 := congrArg UInt8.toNat h2
   rw [byte_small (by omega)] at h3
   have : (10 : UInt8).toNat = 10 := rfl
   omega
  ·rw [dif_neg h10] at hx
   rcases List.mem_append.1 hx with h | h
   ·exact ih (u / 10) (by omega) x h e
   ·have h2 := List.mem_singleton.1 h
    rw [e] at h2
    have h3 := congrArg UInt8.toNat h2
    rw [byte_small (by omega)] at h3
    have : (10 : UInt8).toNat = 10 := rfl
    omega
theorem join_no {l : List UInt8} {xs : List Int} (hl : ∀ x ∈ l, x ≠ 10) : ∀ i, ∀ x ∈ joinTo l xs i, x ≠ 10
 | 0, x, hx => hl x hx
 | i + 1, x, hx => by
  rw [joinTo] at hx
  rcases List.mem_append.1 hx with h | h
  ·exact join_no hl i x h
  ·rcases List.mem_append.1 h with h | h
   ·rw [List.mem_singleton.1 h]; decide
   ·exact dec_no _ x h
theorem text_bytes {K W T m f a s : Int} (hB : streamB K W T m f a s = true) : Gd 60 (tx (textS K W T m f a s)) := by
 refine ⟨?_, fun x hx => ?_⟩
 ·rw [size_tx]
  rcases streamB_true hB with ⟨hK, hR⟩ | ⟨hK, hC⟩
  ·have := joinTo_len (fit3 hR) [114] 3 (by simp)
   unfold textS; rw [if_pos hK]; simp at this; omega
  ·have := joinTo_len (fit4 hC) [99] 4 (by simp)
   unfold textS; rw [if_neg (by omega)]; simp at this; omega
 ·rw [list_tx] at hx
  unfold textS at hx
  split at hx
  ·exact join_no (fun x hx => by rw [List.mem_singleton.1 hx]; decide) _ x hx
  ·exact join_no (fun x hx => by rw [List.mem_singleton.1 hx]; decide) _ x hx
def LRet (p K : Nat) (w : World) (e : Ending) (w' : World) : Prop := ∃ t : ByteArray, Gd 300 t ∧ e = .returned (.string t) ∧ Src w' p K ∧ Beside p w w'
set_option maxHeartbeats 8000000 in
set_option maxRecDepth 100000 in
theorem drawLine_any (p K b : Nat) (w : World) (h : Src w p K) (hK : K ≤ 1000000) (hn : NamesAt w b p) :
  Calls Tryd.prog 12 #[.pointer (some ⟨p, 0, none⟩), .pointer (some ⟨b, 0, none⟩)] w (LRet p (K + 100) w) := by
 have HS0 := Lib.hid h
 have HN0 := Lib.hid hn
 have HR := Lib.hid (fun (t : ByteArray) (w' : World) L (hg : Gd 300 t) (hL : L ≤ K + 100) (hs : Src w' p L) (hb : Beside p w w') => (show LRet p (K + 100) w (.returned (.string t)) w' from ⟨t, hg, rfl, hs.more hL, hb⟩))
 clear h hn
 go_enter Tryd.func12, Tryd.ntmps12
 go_wp2_with fail
 refine (lit_good p K 10 4 [⟨#[97]⟩, ⟨#[98]⟩, ⟨#[110, 105, 120]⟩, ⟨#[]⟩] _ w HS0.out (by omega) rfl rfl (by decide) (by decide) (by decide +kernel)).mono ?_
 rintro e w1 ⟨t1, g1, rfl, s1, gr1⟩
 have HS1 := Lib.hid s1
 have HB1 := Lib.hid (Beside.grown gr1)
 have HG1 := Lib.hid g1
 have HN1 := Lib.hid (HN0.out.beside HB1.out)
 clear s1 gr1 g1
 obtain ⟨A, n, c, ss, h0, hne, hlt, h6, hl, hgd, hr⟩ := HN1.out.ex
 have HGD := Lib.hid hgd
 have HRR := Lib.hid hr
 have HLL := Lib.hid hl
 clear hgd hr hl
 by_cases hn : n = 0
 ·subst hn
  clear HRR HLL HGD
  go_wp2_with fail
  clear h0 hne hlt h6
  refine (lit_good p (K + 2) 10 6 [⟨#[97]⟩, ⟨#[98]⟩, ⟨#[110, 101, 119]⟩, ⟨#[120]⟩, ⟨#[99, 111, 105, 110]⟩, ⟨#[81]⟩] _ w1 (HS1).out (by omega) rfl rfl (by decide) (by decide) (by decide +kernel)).mono ?_
  rintro e w4 ⟨fr, gf, rfl, s4, gr4⟩
  have HS4 := Lib.hid s4
  have HB4 := Lib.hid ((HB1).out.trans (Beside.grown gr4))
  clear s4 gr4
  go_wp2_with fail
  refine (pick_any p _ 7 w4 HS4.out (by omega)).mono ?_
  rintro e w5 ⟨r0, rfl, hr0, s5, gr5⟩
  have HS5 := Lib.hid s5
  have HB5 := Lib.hid (HB4.out.trans (Beside.grown gr5))
  clear s5 gr5
  have hr7 : r0 = 0 ∨ r0 = 1 ∨ r0 = 2 ∨ r0 = 3 ∨ r0 = 4 ∨ r0 = 5 ∨ r0 = 6 := by omega
  clear hr0
  rcases hr7 with rfl | rfl | rfl | rfl | rfl | rfl | rfl
  ·go_wp2_with fail
   refine (lit_good p _ 40 14 [⟨#[]⟩, ⟨#[119, 104, 97, 116]⟩, ⟨#[115, 101, 116]⟩, ⟨#[115, 101, 116, 32, 97]⟩, ⟨#[115, 101, 116, 32, 97, 32, 114, 58, 51, 58, 51, 58, 56]⟩, ⟨#[98, 105, 116, 115, 32, 97]⟩, ⟨#[98, 105, 116, 115, 32, 97, 32, 120]⟩, ⟨#[99, 111, 112, 121, 32, 97]⟩, ⟨#[100, 114, 111, 112]⟩, ⟨#[115, 104, 111, 119]⟩, ⟨#[99, 121, 99, 108, 101]⟩, ⟨#[114, 111, 108, 108, 32, 97, 32, 48]⟩, ⟨#[98, 105, 116, 115, 32, 32, 97, 32, 51]⟩, ⟨#[99, 97, 114, 100, 115, 32, 97, 32, 49, 51]⟩] _ w5 HS5.out (by omega) rfl rfl (by decide) (by decide) (by decide +kernel)).mono ?_
   rintro e w6 ⟨t, gt, rfl, sw6, grw6⟩
   have HRET := Lib.hid (HR.out _ w6 _ (gt.more (by decide)) (by omega) sw6 (HB5.out.trans (Beside.grown grw6)))
   clear sw6 grw6
   go_wp2
   go_ret
   exact HRET.out
  ·go_wp2_with fail
   refine (l11DrawOk_any p _ w5 HS5.out (by omega)).mono ?_
   rintro e w6 ⟨C, V, T, m, f, a, s, hB, rfl, s6, bs6⟩
   obtain ⟨W6, hW6⟩ : ∃ V', V' = w6.alloc (.cells #[.int .i64 C, .int .i64 V, .int .i64 T, .int .i64 m, .int .i64 f, .int .i64 a, .int .i64 s] 67) := ⟨_, rfl⟩
   have x6 : Below w6.heap.size w6 W6 := by rw [hW6]; exact (Below.refl _ _).alloc (Nat.le_refl _) _
   have HT := Lib.hid (l11Text_any w6.heap.size C V T m f a s W6 (by rw [hW6]; exact SBox.new _ _ _ _ _ _ _ _) hB)
   have HS6 := Lib.hid (s6.below x6)
   have HB6 := Lib.hid (HB5.out.trans (bs6.trans (Beside.ofBelow x6)))
   have GT := Lib.hid (text_bytes hB)
   have HW6 := Lib.hid hW6
   obtain ⟨c1, gc1, hc1⟩ := add_good (gdB_true (n := 4) (t := ⟨#[115, 101, 116, 32]⟩) (by decide +kernel)) (gf) (by decide)
   obtain ⟨c2, gc2, hc2⟩ := add_good (gc1) (gdB_true (n := 1) (t := ⟨#[32]⟩) (by decide +kernel)) (by decide)
   generalize tx (textS C V T m f a s) = tt at *
   clear hW6 x6 s6 bs6 hB
   go_wp2_with fail
   rw [← HW6.out]
   refine HT.out.mono ?_
   rintro e w7 ⟨rfl, b7⟩
   obtain ⟨c3, gc3, hc3⟩ := add_good (gc2) (GT.out) (by decide)
   have HS7 := Lib.hid (HS6.out.below b7)
   have HB7 := Lib.hid (HB6.out.trans (Beside.ofBelow b7))
   have HRET := Lib.hid (HR.out _ w7 _ (gc3.more (by decide)) (by omega) HS7.out (HB7.out))
   clear b7
   go_wp2
   go_ret
   exact HRET.out
  ·obtain ⟨c1, gc1, hc1⟩ := add_good (gdB_true (n := 5) (t := ⟨#[99, 111, 112, 121, 32]⟩) (by decide +kernel)) (gf) (by decide)
   obtain ⟨c2, gc2, hc2⟩ := add_good (gc1) (gdB_true (n := 1) (t := ⟨#[32]⟩) (by decide +kernel)) (by decide)
   obtain ⟨c3, gc3, hc3⟩ := add_good (gc2) ((HG1).out) (by decide)
   have HRET := Lib.hid (HR.out _ w5 _ (gc3.more (by decide)) (by omega) HS5.out (HB5.out))
   go_wp2
   go_ret
   exact HRET.out
  ·go_wp2_with fail
   refine (lit_good p _ 10 5 [⟨#[115, 104, 111, 119, 32]⟩, ⟨#[99, 121, 99, 108, 101, 32]⟩, ⟨#[100, 114, 111, 112, 32]⟩, ⟨#[115, 104, 111, 119, 32]⟩, ⟨#[99, 121, 99, 108, 101, 32]⟩] _ w5 HS5.out (by omega) rfl rfl (by decide) (by decide) (by decide +kernel)).mono ?_
   rintro e w6 ⟨t, gt, rfl, sw6, grw6⟩
   obtain ⟨c1, gc1, hc1⟩ := add_good (gt) ((HG1).out) (by decide)
   have HRET := Lib.hid (HR.out _ w6 _ (gc1.more (by decide)) (by omega) sw6 (HB5.out.trans (Beside.grown grw6)))
   clear sw6 grw6
   go_wp2
   go_ret
   exact HRET.out
  ·obtain ⟨c1, gc1, hc1⟩ := add_good (gdB_true (n := 5) (t := ⟨#[98, 105, 116, 115, 32]⟩) (by decide +kernel)) ((HG1).out) (by decide)
   obtain ⟨c2, gc2, hc2⟩ := add_good (gc1) (gdB_true (n := 1) (t := ⟨#[32]⟩) (by decide +kernel)) (by decide)
   go_wp2_with fail
   refine (pick_any p _ 30 w5 HS5.out (by omega)).mono ?_
   rintro e w6 ⟨r2, rfl, hr2, sw6, grw6⟩
   have HSw6 := Lib.hid sw6
   have HBw6 := Lib.hid (HB5.out.trans (Beside.grown grw6))
   clear sw6 grw6
   go_wp2_with fail
   refine (dec_good ((r2 : Int) - 1) (by omega) (by omega) w6).mono ?_
   rintro e w8 ⟨td, gd, rfl, b8⟩
   obtain ⟨cd, gcd, hcd⟩ := add_good (gc2) (gd) (by decide)
   have HS8 := Lib.hid (HSw6.out.below b8)
   have HB8 := Lib.hid (HBw6.out.trans (Beside.ofBelow b8))
   have HRET := Lib.hid (HR.out _ w8 _ (gcd.more (by decide)) (by omega) HS8.out (HB8.out))
   clear b8
   go_wp2
   go_ret
   exact HRET.out
  ·obtain ⟨c1, gc1, hc1⟩ := add_good (gdB_true (n := 5) (t := ⟨#[115, 107, 105, 112, 32]⟩) (by decide +kernel)) ((HG1).out) (by decide)
   obtain ⟨c2, gc2, hc2⟩ := add_good (gc1) (gdB_true (n := 1) (t := ⟨#[32]⟩) (by decide +kernel)) (by decide)
   go_wp2_with fail
   refine (pick_any p _ 60000 w5 HS5.out (by omega)).mono ?_
   rintro e w6 ⟨r2, rfl, hr2, sw6, grw6⟩
   have HSw6 := Lib.hid sw6
   have HBw6 := Lib.hid (HB5.out.trans (Beside.grown grw6))
   clear sw6 grw6
   go_wp2_with fail
   refine (pick_any p _ 60000 w6 HSw6.out (by omega)).mono ?_
   rintro e w7 ⟨r3, rfl, hr3, sw7, grw7⟩
   have HSw7 := Lib.hid sw7
   have HBw7 := Lib.hid (HBw6.out.trans (Beside.grown grw7))
   clear sw7 grw7
   have hpl : r2 * r3 ≤ 60000 * 60000 := Nat.mul_le_mul (by omega) (by omega)
   have hpw : wrap64 ((r2 : Int) * (r3 : Int)) = ((r2 * r3 : Nat) : Int) := by
    rw [show (r2 : Int) * (r3 : Int) = ((r2 * r3 : Nat) : Int) by simp]
    generalize r2 * r3 = z at *
    simp only [wrap64]; omega
   obtain ⟨z, hz⟩ : ∃ z, z = r2 * r3 := ⟨_, rfl⟩
   rw [← hz] at hpw hpl
   clear hz
   go_wp2_with fail
   refine (dec_good (z : Int) (by omega) (by omega) w7).mono ?_
   rintro e w8 ⟨td, gd, rfl, b8⟩
   obtain ⟨cd, gcd, hcd⟩ := add_good (gc2) (gd) (by decide)
   have HS8 := Lib.hid (HSw7.out.below b8)
   have HB8 := Lib.hid (HBw7.out.trans (Beside.ofBelow b8))
   have HRET := Lib.hid (HR.out _ w8 _ (gcd.more (by decide)) (by omega) HS8.out (HB8.out))
   clear b8
   go_wp2
   go_ret
   exact HRET.out
  ·go_wp2_with fail
   refine (lit_good p _ 10 3 [⟨#[114, 111, 108, 108, 32]⟩, ⟨#[99, 97, 114, 100, 115, 32]⟩, ⟨#[108, 101, 118, 101, 108, 115, 32]⟩] _ w5 HS5.out (by omega) rfl rfl (by decide) (by decide) (by decide +kernel)).mono ?_
   rintro e w6 ⟨t, gt, rfl, sw6, grw6⟩
   have HS6 := Lib.hid sw6
   have HB6 := Lib.hid (HB5.out.trans (Beside.grown grw6))
   clear sw6 grw6
   obtain ⟨c1, gc1, hc1⟩ := add_good (gt) ((HG1).out) (by decide)
   obtain ⟨c2, gc2, hc2⟩ := add_good (gc1) (gdB_true (n := 1) (t := ⟨#[32]⟩) (by decide +kernel)) (by decide)
   go_wp2_with fail
   refine (pick_any p _ 18 w6 HS6.out (by omega)).mono ?_
   rintro e w7 ⟨r2, rfl, hr2, sw7, grw7⟩
   have HSw7 := Lib.hid sw7
   have HBw7 := Lib.hid (HB6.out.trans (Beside.grown grw7))
   clear sw7 grw7
   go_wp2_with fail
   refine (dec_good ((r2 : Int) - 1) (by omega) (by omega) w7).mono ?_
   rintro e w8 ⟨td, gd, rfl, b8⟩
   obtain ⟨cd, gcd, hcd⟩ := add_good (gc2) (gd) (by decide)
   have HS8 := Lib.hid (HSw7.out.below b8)
   have HB8 := Lib.hid (HBw7.out.trans (Beside.ofBelow b8))
   have HRET := Lib.hid (HR.out _ w8 _ (gcd.more (by decide)) (by omega) HS8.out (HB8.out))
   clear b8
   go_wp2
   go_ret
   exact HRET.out
 ·have hn1 : (0 : Int) < (n : Int) := by omega
  go_wp2_with fail
  refine (one_any p _ 6 w1 HS1.out (by omega)).mono ?_
  rintro e w2 ⟨r, rfl, s2, gr2⟩
  have HS2 := Lib.hid s2
  have HB2 := Lib.hid (HB1.out.trans (Beside.grown gr2))
  have h02 : w2.cell? ⟨b, 0, none⟩ = some (.slice A n c) := (World.cell?_of_block (a := ⟨b, 0, none⟩) (gr2.block b hlt fun e => hne (Option.some.inj e))).trans h0
  obtain ⟨g, off, hA, hgp, hgl, hc⟩ := HRR.out (by omega)
  have HC2 := Lib.hid (fun i (hi : i < n) => (World.cell?_of_block (a := ⟨g, off + i, none⟩) (gr2.block g hgl fun e => hgp (Option.some.inj e))).trans (hc i hi))
  have hg2 : g < w2.heap.size := Nat.lt_of_lt_of_le hgl gr2.size
  subst hA
  clear s2 gr2 h0 hc HRR
  cases r with
  | true =>
   clear HC2 HLL HGD
   go_wp2_with fail
   clear h02 hne hlt h6 hn1 hn hgp hgl hg2
   refine (lit_good p (K + 2 + 2) 10 6 [⟨#[97]⟩, ⟨#[98]⟩, ⟨#[110, 101, 119]⟩, ⟨#[120]⟩, ⟨#[99, 111, 105, 110]⟩, ⟨#[81]⟩] _ w2 (HS2).out (by omega) rfl rfl (by decide) (by decide) (by decide +kernel)).mono ?_
   rintro e w4 ⟨fr, gf, rfl, s4, gr4⟩
   have HS4 := Lib.hid s4
   have HB4 := Lib.hid ((HB2).out.trans (Beside.grown gr4))
   clear s4 gr4
   go_wp2_with fail
   refine (pick_any p _ 7 w4 HS4.out (by omega)).mono ?_
   rintro e w5 ⟨r0, rfl, hr0, s5, gr5⟩
   have HS5 := Lib.hid s5
   have HB5 := Lib.hid (HB4.out.trans (Beside.grown gr5))
   clear s5 gr5
   have hr7 : r0 = 0 ∨ r0 = 1 ∨ r0 = 2 ∨ r0 = 3 ∨ r0 = 4 ∨ r0 = 5 ∨ r0 = 6 := by omega
   clear hr0
   rcases hr7 with rfl | rfl | rfl | rfl | rfl | rfl | rfl
   ·go_wp2_with fail
    refine (lit_good p _ 40 14 [⟨#[]⟩, ⟨#[119, 104, 97, 116]⟩, ⟨#[115, 101, 116]⟩, ⟨#[115, 101, 116, 32, 97]⟩, ⟨#[115, 101, 116, 32, 97, 32, 114, 58, 51, 58, 51, 58, 56]⟩, ⟨#[98, 105, 116, 115, 32, 97]⟩, ⟨#[98, 105, 116, 115, 32, 97, 32, 120]⟩, ⟨#[99, 111, 112, 121, 32, 97]⟩, ⟨#[100, 114, 111, 112]⟩, ⟨#[115, 104, 111, 119]⟩, ⟨#[99, 121, 99, 108, 101]⟩, ⟨#[114, 111, 108, 108, 32, 97, 32, 48]⟩, ⟨#[98, 105, 116, 115, 32, 32, 97, 32, 51]⟩, ⟨#[99, 97, 114, 100, 115, 32, 97, 32, 49, 51]⟩] _ w5 HS5.out (by omega) rfl rfl (by decide) (by decide) (by decide +kernel)).mono ?_
    rintro e w6 ⟨t, gt, rfl, sw6, grw6⟩
    have HRET := Lib.hid (HR.out _ w6 _ (gt.more (by decide)) (by omega) sw6 (HB5.out.trans (Beside.grown grw6)))
    clear sw6 grw6
    go_wp2
    go_ret
    exact HRET.out
   ·go_wp2_with fail
    refine (l11DrawOk_any p _ w5 HS5.out (by omega)).mono ?_
    rintro e w6 ⟨C, V, T, m, f, a, s, hB, rfl, s6, bs6⟩
    obtain ⟨W6, hW6⟩ : ∃ V', V' = w6.alloc (.cells #[.int .i64 C, .int .i64 V, .int .i64 T, .int .i64 m, .int .i64 f, .int .i64 a, .int .i64 s] 67) := ⟨_, rfl⟩
    have x6 : Below w6.heap.size w6 W6 := by rw [hW6]; exact (Below.refl _ _).alloc (Nat.le_refl _) _
    have HT := Lib.hid (l11Text_any w6.heap.size C V T m f a s W6 (by rw [hW6]; exact SBox.new _ _ _ _ _ _ _ _) hB)
    have HS6 := Lib.hid (s6.below x6)
    have HB6 := Lib.hid (HB5.out.trans (bs6.trans (Beside.ofBelow x6)))
    have GT := Lib.hid (text_bytes hB)
    have HW6 := Lib.hid hW6
    obtain ⟨c1, gc1, hc1⟩ := add_good (gdB_true (n := 4) (t := ⟨#[115, 101, 116, 32]⟩) (by decide +kernel)) (gf) (by decide)
    obtain ⟨c2, gc2, hc2⟩ := add_good (gc1) (gdB_true (n := 1) (t := ⟨#[32]⟩) (by decide +kernel)) (by decide)
    generalize tx (textS C V T m f a s) = tt at *
    clear hW6 x6 s6 bs6 hB
    go_wp2_with fail
    rw [← HW6.out]
    refine HT.out.mono ?_
    rintro e w7 ⟨rfl, b7⟩
    obtain ⟨c3, gc3, hc3⟩ := add_good (gc2) (GT.out) (by decide)
    have HS7 := Lib.hid (HS6.out.below b7)
    have HB7 := Lib.hid (HB6.out.trans (Beside.ofBelow b7))
    have HRET := Lib.hid (HR.out _ w7 _ (gc3.more (by decide)) (by omega) HS7.out (HB7.out))
    clear b7
    go_wp2
    go_ret
    exact HRET.out
   ·obtain ⟨c1, gc1, hc1⟩ := add_good (gdB_true (n := 5) (t := ⟨#[99, 111, 112, 121, 32]⟩) (by decide +kernel)) (gf) (by decide)
    obtain ⟨c2, gc2, hc2⟩ := add_good (gc1) (gdB_true (n := 1) (t := ⟨#[32]⟩) (by decide +kernel)) (by decide)
    obtain ⟨c3, gc3, hc3⟩ := add_good (gc2) ((HG1).out) (by decide)
    have HRET := Lib.hid (HR.out _ w5 _ (gc3.more (by decide)) (by omega) HS5.out (HB5.out))
    go_wp2
    go_ret
    exact HRET.out
   ·go_wp2_with fail
    refine (lit_good p _ 10 5 [⟨#[115, 104, 111, 119, 32]⟩, ⟨#[99, 121, 99, 108, 101, 32]⟩, ⟨#[100, 114, 111, 112, 32]⟩, ⟨#[115, 104, 111, 119, 32]⟩, ⟨#[99, 121, 99, 108, 101, 32]⟩] _ w5 HS5.out (by omega) rfl rfl (by decide) (by decide) (by decide +kernel)).mono ?_
    rintro e w6 ⟨t, gt, rfl, sw6, grw6⟩
    obtain ⟨c1, gc1, hc1⟩ := add_good (gt) ((HG1).out) (by decide)
    have HRET := Lib.hid (HR.out _ w6 _ (gc1.more (by decide)) (by omega) sw6 (HB5.out.trans (Beside.grown grw6)))
    clear sw6 grw6
    go_wp2
    go_ret
    exact HRET.out
   ·obtain ⟨c1, gc1, hc1⟩ := add_good (gdB_true (n := 5) (t := ⟨#[98, 105, 116, 115, 32]⟩) (by decide +kernel)) ((HG1).out) (by decide)
    obtain ⟨c2, gc2, hc2⟩ := add_good (gc1) (gdB_true (n := 1) (t := ⟨#[32]⟩) (by decide +kernel)) (by decide)
    go_wp2_with fail
    refine (pick_any p _ 30 w5 HS5.out (by omega)).mono ?_
    rintro e w6 ⟨r2, rfl, hr2, sw6, grw6⟩
    have HSw6 := Lib.hid sw6
    have HBw6 := Lib.hid (HB5.out.trans (Beside.grown grw6))
    clear sw6 grw6
    go_wp2_with fail
    refine (dec_good ((r2 : Int) - 1) (by omega) (by omega) w6).mono ?_
    rintro e w8 ⟨td, gd, rfl, b8⟩
    obtain ⟨cd, gcd, hcd⟩ := add_good (gc2) (gd) (by decide)
    have HS8 := Lib.hid (HSw6.out.below b8)
    have HB8 := Lib.hid (HBw6.out.trans (Beside.ofBelow b8))
    have HRET := Lib.hid (HR.out _ w8 _ (gcd.more (by decide)) (by omega) HS8.out (HB8.out))
    clear b8
    go_wp2
    go_ret
    exact HRET.out
   ·obtain ⟨c1, gc1, hc1⟩ := add_good (gdB_true (n := 5) (t := ⟨#[115, 107, 105, 112, 32]⟩) (by decide +kernel)) ((HG1).out) (by decide)
    obtain ⟨c2, gc2, hc2⟩ := add_good (gc1) (gdB_true (n := 1) (t := ⟨#[32]⟩) (by decide +kernel)) (by decide)
    go_wp2_with fail
    refine (pick_any p _ 60000 w5 HS5.out (by omega)).mono ?_
    rintro e w6 ⟨r2, rfl, hr2, sw6, grw6⟩
    have HSw6 := Lib.hid sw6
    have HBw6 := Lib.hid (HB5.out.trans (Beside.grown grw6))
    clear sw6 grw6
    go_wp2_with fail
    refine (pick_any p _ 60000 w6 HSw6.out (by omega)).mono ?_
    rintro e w7 ⟨r3, rfl, hr3, sw7, grw7⟩
    have HSw7 := Lib.hid sw7
    have HBw7 := Lib.hid (HBw6.out.trans (Beside.grown grw7))
    clear sw7 grw7
    have hpl : r2 * r3 ≤ 60000 * 60000 := Nat.mul_le_mul (by omega) (by omega)
    have hpw : wrap64 ((r2 : Int) * (r3 : Int)) = ((r2 * r3 : Nat) : Int) := by
     rw [show (r2 : Int) * (r3 : Int) = ((r2 * r3 : Nat) : Int) by simp]
     generalize r2 * r3 = z at *
     simp only [wrap64]; omega
    obtain ⟨z, hz⟩ : ∃ z, z = r2 * r3 := ⟨_, rfl⟩
    rw [← hz] at hpw hpl
    clear hz
    go_wp2_with fail
    refine (dec_good (z : Int) (by omega) (by omega) w7).mono ?_
    rintro e w8 ⟨td, gd, rfl, b8⟩
    obtain ⟨cd, gcd, hcd⟩ := add_good (gc2) (gd) (by decide)
    have HS8 := Lib.hid (HSw7.out.below b8)
    have HB8 := Lib.hid (HBw7.out.trans (Beside.ofBelow b8))
    have HRET := Lib.hid (HR.out _ w8 _ (gcd.more (by decide)) (by omega) HS8.out (HB8.out))
    clear b8
    go_wp2
    go_ret
    exact HRET.out
   ·go_wp2_with fail
    refine (lit_good p _ 10 3 [⟨#[114, 111, 108, 108, 32]⟩, ⟨#[99, 97, 114, 100, 115, 32]⟩, ⟨#[108, 101, 118, 101, 108, 115, 32]⟩] _ w5 HS5.out (by omega) rfl rfl (by decide) (by decide) (by decide +kernel)).mono ?_
    rintro e w6 ⟨t, gt, rfl, sw6, grw6⟩
    have HS6 := Lib.hid sw6
    have HB6 := Lib.hid (HB5.out.trans (Beside.grown grw6))
    clear sw6 grw6
    obtain ⟨c1, gc1, hc1⟩ := add_good (gt) ((HG1).out) (by decide)
    obtain ⟨c2, gc2, hc2⟩ := add_good (gc1) (gdB_true (n := 1) (t := ⟨#[32]⟩) (by decide +kernel)) (by decide)
    go_wp2_with fail
    refine (pick_any p _ 18 w6 HS6.out (by omega)).mono ?_
    rintro e w7 ⟨r2, rfl, hr2, sw7, grw7⟩
    have HSw7 := Lib.hid sw7
    have HBw7 := Lib.hid (HB6.out.trans (Beside.grown grw7))
    clear sw7 grw7
    go_wp2_with fail
    refine (dec_good ((r2 : Int) - 1) (by omega) (by omega) w7).mono ?_
    rintro e w8 ⟨td, gd, rfl, b8⟩
    obtain ⟨cd, gcd, hcd⟩ := add_good (gc2) (gd) (by decide)
    have HS8 := Lib.hid (HSw7.out.below b8)
    have HB8 := Lib.hid (HBw7.out.trans (Beside.ofBelow b8))
    have HRET := Lib.hid (HR.out _ w8 _ (gcd.more (by decide)) (by omega) HS8.out (HB8.out))
    clear b8
    go_wp2
    go_ret
    exact HRET.out
  | false =>
   have HT := Lib.hid (text_good p _ g off c 10 ss w2 HS2.out (by omega) hgp hg2 (by have := HLL.out; omega) (by have := HLL.out; omega) (fun i hi => HC2.out i (by have := HLL.out; omega)) HGD.out)
   rw [HLL.out] at HT
   clear HC2 HLL HGD
   go_wp2_with fail
   refine HT.out.mono ?_
   rintro e w3 ⟨t3, g3, rfl, s3, gr3⟩
   have HS3 := Lib.hid s3
   have HB3 := Lib.hid (HB2.out.trans (Beside.grown gr3))
   have HG3 := Lib.hid g3
   clear s3 gr3 g3 HT
   clear h02 hne hlt h6 hn1 hn hgp hgl hg2
   go_wp2_with fail
   refine (lit_good p (K + 2 + 2 + 2) 10 6 [⟨#[97]⟩, ⟨#[98]⟩, ⟨#[110, 101, 119]⟩, ⟨#[120]⟩, ⟨#[99, 111, 105, 110]⟩, ⟨#[81]⟩] _ w3 (HS3).out (by omega) rfl rfl (by decide) (by decide) (by decide +kernel)).mono ?_
   rintro e w4 ⟨fr, gf, rfl, s4, gr4⟩
   have HS4 := Lib.hid s4
   have HB4 := Lib.hid ((HB3).out.trans (Beside.grown gr4))
   clear s4 gr4
   go_wp2_with fail
   refine (pick_any p _ 7 w4 HS4.out (by omega)).mono ?_
   rintro e w5 ⟨r0, rfl, hr0, s5, gr5⟩
   have HS5 := Lib.hid s5
   have HB5 := Lib.hid (HB4.out.trans (Beside.grown gr5))
   clear s5 gr5
   have hr7 : r0 = 0 ∨ r0 = 1 ∨ r0 = 2 ∨ r0 = 3 ∨ r0 = 4 ∨ r0 = 5 ∨ r0 = 6 := by omega
   clear hr0
   rcases hr7 with rfl | rfl | rfl | rfl | rfl | rfl | rfl
   ·go_wp2_with fail
    refine (lit_good p _ 40 14 [⟨#[]⟩, ⟨#[119, 104, 97, 116]⟩, ⟨#[115, 101, 116]⟩, ⟨#[115, 101, 116, 32, 97]⟩, ⟨#[115, 101, 116, 32, 97, 32, 114, 58, 51, 58, 51, 58, 56]⟩, ⟨#[98, 105, 116, 115, 32, 97]⟩, ⟨#[98, 105, 116, 115, 32, 97, 32, 120]⟩, ⟨#[99, 111, 112, 121, 32, 97]⟩, ⟨#[100, 114, 111, 112]⟩, ⟨#[115, 104, 111, 119]⟩, ⟨#[99, 121, 99, 108, 101]⟩, ⟨#[114, 111, 108, 108, 32, 97, 32, 48]⟩, ⟨#[98, 105, 116, 115, 32, 32, 97, 32, 51]⟩, ⟨#[99, 97, 114, 100, 115, 32, 97, 32, 49, 51]⟩] _ w5 HS5.out (by omega) rfl rfl (by decide) (by decide) (by decide +kernel)).mono ?_
    rintro e w6 ⟨t, gt, rfl, sw6, grw6⟩
    have HRET := Lib.hid (HR.out _ w6 _ (gt.more (by decide)) (by omega) sw6 (HB5.out.trans (Beside.grown grw6)))
    clear sw6 grw6
    go_wp2
    go_ret
    exact HRET.out
   ·go_wp2_with fail
    refine (l11DrawOk_any p _ w5 HS5.out (by omega)).mono ?_
    rintro e w6 ⟨C, V, T, m, f, a, s, hB, rfl, s6, bs6⟩
    obtain ⟨W6, hW6⟩ : ∃ V', V' = w6.alloc (.cells #[.int .i64 C, .int .i64 V, .int .i64 T, .int .i64 m, .int .i64 f, .int .i64 a, .int .i64 s] 67) := ⟨_, rfl⟩
    have x6 : Below w6.heap.size w6 W6 := by rw [hW6]; exact (Below.refl _ _).alloc (Nat.le_refl _) _
    have HT := Lib.hid (l11Text_any w6.heap.size C V T m f a s W6 (by rw [hW6]; exact SBox.new _ _ _ _ _ _ _ _) hB)
    have HS6 := Lib.hid (s6.below x6)
    have HB6 := Lib.hid (HB5.out.trans (bs6.trans (Beside.ofBelow x6)))
    have GT := Lib.hid (text_bytes hB)
    have HW6 := Lib.hid hW6
    obtain ⟨c1, gc1, hc1⟩ := add_good (gdB_true (n := 4) (t := ⟨#[115, 101, 116, 32]⟩) (by decide +kernel)) (gf) (by decide)
    obtain ⟨c2, gc2, hc2⟩ := add_good (gc1) (gdB_true (n := 1) (t := ⟨#[32]⟩) (by decide +kernel)) (by decide)
    generalize tx (textS C V T m f a s) = tt at *
    clear hW6 x6 s6 bs6 hB
    go_wp2_with fail
    rw [← HW6.out]
    refine HT.out.mono ?_
    rintro e w7 ⟨rfl, b7⟩
    obtain ⟨c3, gc3, hc3⟩ := add_good (gc2) (GT.out) (by decide)
    have HS7 := Lib.hid (HS6.out.below b7)
    have HB7 := Lib.hid (HB6.out.trans (Beside.ofBelow b7))
    have HRET := Lib.hid (HR.out _ w7 _ (gc3.more (by decide)) (by omega) HS7.out (HB7.out))
    clear b7
    go_wp2
    go_ret
    exact HRET.out
   ·obtain ⟨c1, gc1, hc1⟩ := add_good (gdB_true (n := 5) (t := ⟨#[99, 111, 112, 121, 32]⟩) (by decide +kernel)) (gf) (by decide)
    obtain ⟨c2, gc2, hc2⟩ := add_good (gc1) (gdB_true (n := 1) (t := ⟨#[32]⟩) (by decide +kernel)) (by decide)
    obtain ⟨c3, gc3, hc3⟩ := add_good (gc2) ((HG3).out) (by decide)
    have HRET := Lib.hid (HR.out _ w5 _ (gc3.more (by decide)) (by omega) HS5.out (HB5.out))
    go_wp2
    go_ret
    exact HRET.out
   ·go_wp2_with fail
    refine (lit_good p _ 10 5 [⟨#[115, 104, 111, 119, 32]⟩, ⟨#[99, 121, 99, 108, 101, 32]⟩, ⟨#[100, 114, 111, 112, 32]⟩, ⟨#[115, 104, 111, 119, 32]⟩, ⟨#[99, 121, 99, 108, 101, 32]⟩] _ w5 HS5.out (by omega) rfl rfl (by decide) (by decide) (by decide +kernel)).mono ?_
    rintro e w6 ⟨t, gt, rfl, sw6, grw6⟩
    obtain ⟨c1, gc1, hc1⟩ := add_good (gt) ((HG3).out) (by decide)
    have HRET := Lib.hid (HR.out _ w6 _ (gc1.more (by decide)) (by omega) sw6 (HB5.out.trans (Beside.grown grw6)))
    clear sw6 grw6
    go_wp2
    go_ret
    exact HRET.out
   ·obtain ⟨c1, gc1, hc1⟩ := add_good (gdB_true (n := 5) (t := ⟨#[98, 105, 116, 115, 32]⟩) (by decide +kernel)) ((HG3).out) (by decide)
    obtain ⟨c2, gc2, hc2⟩ := add_good (gc1) (gdB_true (n := 1) (t := ⟨#[32]⟩) (by decide +kernel)) (by decide)
    go_wp2_with fail
    refine (pick_any p _ 30 w5 HS5.out (by omega)).mono ?_
    rintro e w6 ⟨r2, rfl, hr2, sw6, grw6⟩
    have HSw6 := Lib.hid sw6
    have HBw6 := Lib.hid (HB5.out.trans (Beside.grown grw6))
    clear sw6 grw6
    go_wp2_with fail
    refine (dec_good ((r2 : Int) - 1) (by omega) (by omega) w6).mono ?_
    rintro e w8 ⟨td, gd, rfl, b8⟩
    obtain ⟨cd, gcd, hcd⟩ := add_good (gc2) (gd) (by decide)
    have HS8 := Lib.hid (HSw6.out.below b8)
    have HB8 := Lib.hid (HBw6.out.trans (Beside.ofBelow b8))
    have HRET := Lib.hid (HR.out _ w8 _ (gcd.more (by decide)) (by omega) HS8.out (HB8.out))
    clear b8
    go_wp2
    go_ret
    exact HRET.out
   ·obtain ⟨c1, gc1, hc1⟩ := add_good (gdB_true (n := 5) (t := ⟨#[115, 107, 105, 112, 32]⟩) (by decide +kernel)) ((HG3).out) (by decide)
    obtain ⟨c2, gc2, hc2⟩ := add_good (gc1) (gdB_true (n := 1) (t := ⟨#[32]⟩) (by decide +kernel)) (by decide)
    go_wp2_with fail
    refine (pick_any p _ 60000 w5 HS5.out (by omega)).mono ?_
    rintro e w6 ⟨r2, rfl, hr2, sw6, grw6⟩
    have HSw6 := Lib.hid sw6
    have HBw6 := Lib.hid (HB5.out.trans (Beside.grown grw6))
    clear sw6 grw6
    go_wp2_with fail
    refine (pick_any p _ 60000 w6 HSw6.out (by omega)).mono ?_
    rintro e w7 ⟨r3, rfl, hr3, sw7, grw7⟩
    have HSw7 := Lib.hid sw7
    have HBw7 := Lib.hid (HBw6.out.trans (Beside.grown grw7))
    clear sw7 grw7
    have hpl : r2 * r3 ≤ 60000 * 60000 := Nat.mul_le_mul (by omega) (by omega)
    have hpw : wrap64 ((r2 : Int) * (r3 : Int)) = ((r2 * r3 : Nat) : Int) := by
     rw [show (r2 : Int) * (r3 : Int) = ((r2 * r3 : Nat) : Int) by simp]
     generalize r2 * r3 = z at *
     simp only [wrap64]; omega
    obtain ⟨z, hz⟩ : ∃ z, z = r2 * r3 := ⟨_, rfl⟩
    rw [← hz] at hpw hpl
    clear hz
    go_wp2_with fail
    refine (dec_good (z : Int) (by omega) (by omega) w7).mono ?_
    rintro e w8 ⟨td, gd, rfl, b8⟩
    obtain ⟨cd, gcd, hcd⟩ := add_good (gc2) (gd) (by decide)
    have HS8 := Lib.hid (HSw7.out.below b8)
    have HB8 := Lib.hid (HBw7.out.trans (Beside.ofBelow b8))
    have HRET := Lib.hid (HR.out _ w8 _ (gcd.more (by decide)) (by omega) HS8.out (HB8.out))
    clear b8
    go_wp2
    go_ret
    exact HRET.out
   ·go_wp2_with fail
    refine (lit_good p _ 10 3 [⟨#[114, 111, 108, 108, 32]⟩, ⟨#[99, 97, 114, 100, 115, 32]⟩, ⟨#[108, 101, 118, 101, 108, 115, 32]⟩] _ w5 HS5.out (by omega) rfl rfl (by decide) (by decide) (by decide +kernel)).mono ?_
    rintro e w6 ⟨t, gt, rfl, sw6, grw6⟩
    have HS6 := Lib.hid sw6
    have HB6 := Lib.hid (HB5.out.trans (Beside.grown grw6))
    clear sw6 grw6
    obtain ⟨c1, gc1, hc1⟩ := add_good (gt) ((HG3).out) (by decide)
    obtain ⟨c2, gc2, hc2⟩ := add_good (gc1) (gdB_true (n := 1) (t := ⟨#[32]⟩) (by decide +kernel)) (by decide)
    go_wp2_with fail
    refine (pick_any p _ 18 w6 HS6.out (by omega)).mono ?_
    rintro e w7 ⟨r2, rfl, hr2, sw7, grw7⟩
    have HSw7 := Lib.hid sw7
    have HBw7 := Lib.hid (HB6.out.trans (Beside.grown grw7))
    clear sw7 grw7
    go_wp2_with fail
    refine (dec_good ((r2 : Int) - 1) (by omega) (by omega) w7).mono ?_
    rintro e w8 ⟨td, gd, rfl, b8⟩
    obtain ⟨cd, gcd, hcd⟩ := add_good (gc2) (gd) (by decide)
    have HS8 := Lib.hid (HSw7.out.below b8)
    have HB8 := Lib.hid (HBw7.out.trans (Beside.ofBelow b8))
    have HRET := Lib.hid (HR.out _ w8 _ (gcd.more (by decide)) (by omega) HS8.out (HB8.out))
    clear b8
    go_wp2
    go_ret
    exact HRET.out
end Go.Proofs.YtpjepheiagllgaaDoor.LabD

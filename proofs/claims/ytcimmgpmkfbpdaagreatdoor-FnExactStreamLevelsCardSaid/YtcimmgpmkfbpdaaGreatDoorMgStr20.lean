/- The level of a value, of the reference. -/
import Derived.Test.YtcimmgpmkfbpdaaGreatDoorMgStr19
import Derived.Test.YtcimmgpmkfbpdaaGreatDoorMgStr12
import Derived.Test.YtcimmgpmkfbpdaaGreatDoorMgStr00
import Derived.Test.YtcimmgpmkfbpdaaGreatDoorMgStr09
import Derived.Test.YtcimmgpmkfbpdaaGreatDoorMgStr08
import Derived.IntWalk
import Derived.Lib.Builder
import Derived.Lib.UnsafeStr
import Derived.Lib.Strings
import Derived.Lib.Walk
import Derived.Laws.Externs
import Derived.Shelf.RegionOpenPlain
namespace Go.Proofs.YtcimmgpmkfbpdaaGreatDoor.LvI
open Go.RowKit Go.Proofs.YtcimmgpmkfbpdaaGreatDoor Go.Proofs.YtcimmgpmkfbpdaaGreatDoor.Base Go.Proofs.YtcimmgpmkfbpdaaGreatDoor.Mem Go.Proofs.YtcimmgpmkfbpdaaGreatDoor.MemF Go.Proofs.YtcimmgpmkfbpdaaGreatDoor.GiveM Go.Proofs.YtcimmgpmkfbpdaaGreatDoor.RatM Go.Proofs.YtcimmgpmkfbpdaaGreatDoor.Blk Go.Proofs.YtcimmgpmkfbpdaaGreatDoor.LvM Go.Proofs.YtcimmgpmkfbpdaaGreatDoor.LvQ Go.Proofs.YtcimmgpmkfbpdaaGreatDoor.LvO Go.Proofs.YtcimmgpmkfbpdaaGreatDoor.LvT Go.Proofs.YtcimmgpmkfbpdaaGreatDoor.LvW Go.Proofs.YtcimmgpmkfbpdaaGreatDoor.LvF Go.Proofs.YtcimmgpmkfbpdaaGreatDoor.LvG Go.Proofs.YtcimmgpmkfbpdaaGreatDoor.LvX
set_option linter.unusedVariables false
def upL (C : Cnt) (t : Nat) : Nat → List Nat
 | 0 => []
 | k + 1 => if C.c k ≤ t then upL C t k ++ [C.c k] else upL C t k
theorem upL_sum (C : Cnt) (t : Nat) : ∀ k, (upL C t k).sum = upS C t k
 | 0 => rfl
 | k + 1 => by
  rw [upL]
  by_cases h : C.c k ≤ t
  ·rw [if_pos h, List.sum_append, upL_sum C t k, upS_yes h]; simp
  ·rw [if_neg h, upL_sum C t k, upS_no h]
theorem upL_len (C : Cnt) (t : Nat) : ∀ k, (upL C t k).length ≤ k
 | 0 => Nat.le_refl _
 | k + 1 => by
  have := upL_len C t k
  rw [upL]
  split
  ·simp; omega
  ·omega
theorem infoY : (Tryz.prog.info? 92).map (fun i => (i.zero, i.size, i.bytes)) = some (some (.agg #[.bool false, .slice none 0 0, .slice none 0 0, .bool false, .int .i64 0, .int .i64 0]), 6, 80) := by kernel_rfl
theorem onesY {s fine : Bool} {A1 A2 : Option Addr} {k1 c1 k2 c2 : Nat} {fn fd : Int} : ∀ u ∈ [Value.bool s, .slice A1 k1 c1, .slice A2 k2 c2, .bool fine, .int .i64 fn, .int .i64 fd], u.oneCell' = true := by
 intro u hu
 simp only [List.mem_cons, List.not_mem_nil, or_false] at hu
 rcases hu with rfl | rfl | rfl | rfl | rfl | rfl <;> rfl
theorem newsY (w : World) (t : TypeId) {u0 u1 u2 u3 u4 u5 : Value} {g : Nat} (hg : g = w.heap.size) : ∀ (j : Nat) (x : Value), [u0, u1, u2, u3, u4, u5][j]? = some x → (w.alloc (.cells #[u0, u1, u2, u3, u4, u5] t)).cell? ((⟨g, 0, none⟩ : Addr).add j) = some x := by
 subst hg
 intro j x hx
 have e : (#[u0, u1, u2, u3, u4, u5] : Array Value)[j]? = some x := by rw [← Array.getElem?_toList]; exact hx
 rw [Addr.add_lit]
 exact (World.cell?_alloc_new w #[u0, u1, u2, u3, u4, u5] t (0 + j)).trans (by rw [Nat.zero_add]; exact e)
theorem OwnY.push {w2 : World} {B n x : Nat} {v' : Value} {xs : List Nat} {us : List Value} {w : World} {v : Value} {s : Bool} {A1 A2 : Option Addr} {k1 c1 k2 c2 : Nat} (h : OwnY w B v n xs us) (hown : w2.ownsRow B 92 6 v' (xs.length + 1) (us ++ sixY s (.slice A1 k1 c1) (.slice A2 k2 c2) (nD n x) (dD n x))) : OwnY w2 B v' n (xs ++ [x]) (us ++ sixY s (.slice A1 k1 c1) (.slice A2 k2 c2) (nD n x) (dD n x)) := by
 have hlen : us.length = xs.length * 6 := h.row.1
 refine ⟨by rw [List.length_append]; exact hown, fun i hi => ?_⟩
 rw [List.length_append] at hi
 rcases Nat.lt_or_ge i xs.length with hlt | hge
 ·obtain ⟨s', B1, j1, e1, B2, j2, e2, e⟩ := h.els i hlt
  refine ⟨s', B1, j1, e1, B2, j2, e2, ?_⟩
  rw [List.drop_append_of_le_length (by omega), List.take_append_of_le_length (by rw [List.length_drop]; omega), e]
  congr 2 <;> simp [List.getD, List.getElem?_append_left hlt]
 ·obtain rfl : i = xs.length := by simp at hi; omega
  refine ⟨s, A1, k1, c1, A2, k2, c2, ?_⟩
  rw [List.drop_append, List.drop_of_length_le (by omega), hlen, Nat.sub_self]
  simp [sixY, List.getD]
theorem cmp_d {n x y : Nat} (hx : x ≤ 2 ^ n) (hy : y ≤ 2 ^ n) (hn : n ≤ 50) : ∃ k : Int, ((x ≤ y → k ≤ 0) ∧ (¬ x ≤ y → k = 1)) ∧ ∀ w, Calls Tryz.prog 54 #[.agg #[.int .i64 (nD n x), .int .i64 (dD n x)], .agg #[.int .i64 (nD n y), .int .i64 (dD n y)]] w fun e w' => e = .returned (.int .i64 k) ∧ Below w.heap.size w w' := by
 have h3 : (2 : Nat) ^ n ≤ 2 ^ 50 := Nat.pow_le_pow_right (by decide) hn
 obtain ⟨a1, a2⟩ := dy_numQ hx hn
 obtain ⟨b1, b2⟩ := dy_numQ hy hn
 obtain ⟨p1, p2⟩ := dy_parts n x
 obtain ⟨q1, q2⟩ := dy_parts n y
 have g1 : x / Nat.gcd x (2 ^ n) ≤ x := Nat.div_le_self _ _
 have g2 : 2 ^ n / Nat.gcd x (2 ^ n) ≤ 2 ^ n := Nat.div_le_self _ _
 have g3 : y / Nat.gcd y (2 ^ n) ≤ y := Nat.div_le_self _ _
 have g4 : 2 ^ n / Nat.gcd y (2 ^ n) ≤ 2 ^ n := Nat.div_le_self _ _
 refine ⟨cmpT ((x / Nat.gcd x (2 ^ n)) * (2 ^ n / Nat.gcd y (2 ^ n))) ((y / Nat.gcd y (2 ^ n)) * (2 ^ n / Nat.gcd x (2 ^ n))), ?_, fun w => ?_⟩
 ·rw [← dy_cross n x y]
  unfold cmpT
  constructor
  ·intro h
   rw [if_neg (Nat.not_lt.2 h)]
   split <;> omega
  ·intro h
   rw [if_pos (Nat.not_le.1 h)]
 ·unfold nD dD
  rw [a1, a2, b1, b2, p1, p2, q1, q2]
  exact cmp_pos _ _ _ _ (by omega) (by omega) (by omega) (by omega) w
def LvRel (C : Cnt) (n t b0 : Nat) (w : World) (ov iv : Value) (wr : World) : Prop :=
 ∃ (i : Nat) (us : List Value), i ≤ C.many ∧ iv = .int .i64 (i : Int) ∧ Hid (OwnY wr b0 ov n (upL C t i) us) ∧ Hid (Below b0 w wr)
set_option maxHeartbeats 4000000 in
set_option maxRecDepth 100000 in
theorem level_d {n p : Nat} {C : Cnt} {v : Value} (hC : C.ok n) (hp : p < C.many) (hn : n ≤ 50) (w : World) (hv : LawIs C n w v) :
  Calls Tryz.prog 25 #[v, .int .i64 ((C.first + p : Nat) : Int)] w fun e w' => e = .returned (.tuple #[.agg #[.int .i64 (nD n (upS C (C.c p) C.many)), .int .i64 (dD n (upS C (C.c p) C.many))], .bool true]) ∧ Below w.heap.size w w' := by
 obtain ⟨iw, wi, wz0, wz1, wz2⟩ := info_parts infoY
 obtain ⟨A, c, A', c', rfl, hx, hy⟩ := hv
 have hN60 : C.many ≤ 51 := by have := hC.2.1; omega
 obtain ⟨W2, hW2⟩ : ∃ W2, W2 = (w.alloc (.cells #[.slice A C.many c, .slice A' C.many c'] 65)).alloc (.cells #[.int .i64 0, .int .i64 0] 52) := ⟨_, rfl⟩
 have b2 : Below w.heap.size w W2 := by rw [hW2]; exact ((Below.refl _ _).alloc (Nat.le_refl _) _).alloc (by simp) _
 have KL : Hid (Blk W2 w.heap.size 65 #[.slice A C.many c, .slice A' C.many c']) := Lib.hid (by rw [hW2]; exact (Blk.new w _ _).alloc _)
 have KR : Hid (Blk W2 (w.heap.size + 1) 52 #[.int .i64 0, .int .i64 0]) := Lib.hid (by rw [hW2]; exact Blk.newAt _ _ (by simp))
 have HB := Lib.hid b2
 have HW := Lib.hid hW2
 have HX := Lib.hid ((hx.below b2 (Nat.le_refl _)).more b2.size)
 have HY := Lib.hid ((hy.below b2 (Nat.le_refl _)).more b2.size)
 have HIs := Lib.hid (is_d hC hn W2 KL.out HX.out HY.out)
 have HCh := Lib.hid (fun W (hW : Below W2.heap.size W2 W) => LvH.chance_d hC hp hn W (KL.out.belowS hW) ((HX.out.below hW (Nat.le_refl _)).more hW.size) ((HY.out.below hW (Nat.le_refl _)).more hW.size))
 have HC := Lib.hid hC
 clear hx hy b2 hW2 hC
 generalize ((C.first + p : Nat) : Int) = vv at *
 go_enter Tryz.func25, Tryz.ntmps25
 go_wp2_with fail
 rw [← HW.out]
 refine HIs.out.mono ?_
 rintro e w3 ⟨rfl, b3⟩
 have B3 := Lib.hid b3
 clear b3 HIs HW
 go_wp2_with fail
 refine (HCh.out _ B3.out).mono ?_
 rintro e w4 ⟨rfl, b4⟩
 have B4 := Lib.hid (Base.Below.nextA B3.out b4)
 have hz4 := B4.out.size
 have hzr := KR.out.lt
 clear b4 B3 HCh
 obtain ⟨W5, hW5⟩ : ∃ W5, W5 = w4.alloc (.cells #[.int .i64 (nD n (C.c p)), .int .i64 (dD n (C.c p))] 52) := ⟨_, rfl⟩
 have K5 : Hid (Blk W5 w4.heap.size 52 #[.int .i64 (nD n (C.c p)), .int .i64 (dD n (C.c p))]) := Lib.hid (by rw [hW5]; exact Blk.new w4 _ _)
 have B5 : Hid (Below W2.heap.size W2 W5) := Lib.hid (by rw [hW5]; exact B4.out.alloc hz4 _)
 have hs5 : W5.heap.size = w4.heap.size + 1 := by rw [hW5]; simp
 have H0 : Hid (LvRel C n (C.c p) (w4.heap.size + 1) W5 (.slice (some ⟨w4.heap.size + 1, 0, none⟩) 0 0) (.int .i64 0) (W5.alloc (.cells #[] 92))) := Lib.hid (by
  refine ⟨0, [], Nat.zero_le _, rfl, Lib.hid ⟨?_, fun i hi => absurd hi (Nat.not_lt_zero i)⟩, Lib.hid ((Below.refl _ _).alloc (by omega) _)⟩
  have := World.ownsRow_made (base := w4.heap.size + 1) (e := 92) (size := 6) W5 #[] 0 (by omega) (Nat.zero_le _) (by simp)
  rw [hs5] at this
  exact this)
 have HW5 := Lib.hid hW5
 have HS5 := Lib.hid hs5
 clear hW5 hs5
 go_wp2
 rw [← HW5.out]
 go_loopw [7, 8] (fun ov iv wr => LvRel C n (C.c p) (w4.heap.size + 1) W5 ov iv wr) (fun _ iv _ => C.many - (intOf iv).toNat)
 case atStart => exact H0.out
 case round =>
  obtain ⟨i, us, hi, rfl, HO, HBr⟩ := hrel
  obtain ⟨wp, rfl⟩ : ∃ x, x = wr := ⟨_, rfl⟩
  clear H0 HW5
  have HBp : Hid (Below W2.heap.size W2 wp) := Lib.hid (B5.out.trans (HBr.out.mono (by omega)))
  have KLp := Lib.hid (KL.out.belowS HBp.out)
  have K5p := Lib.hid (K5.out.below HBr.out (Nat.lt_succ_self _))
  have HBw := Lib.hid (fun W (h : Below wp.heap.size wp W) => Base.Below.nextA (Base.Below.nextA HB.out HBp.out) h)
  have hzp := HBr.out.size
  rw [HS5.out] at hzp
  by_cases hlt : i < C.many
  ·obtain ⟨fb, fo, eA, hfb, g1, g2⟩ := rdD (HY.out.below HBp.out (Nat.le_refl _)) hlt
   subst eA
   obtain ⟨k, hk, hcmp⟩ := cmp_d (n := n) (x := C.c i) (y := C.c p) (Cnt.one_le HC.out hlt) (Cnt.one_le HC.out hp) hn
   have HCmp := Lib.hid hcmp
   have HVF := Lib.hid (nD_vf (Cnt.one_le HC.out hlt) hn)
   have hfb2 : fb < wp.heap.size := Nat.lt_of_lt_of_le hfb HBp.out.size
   have hlen := upL_len C (C.c p) i
   have HUp : Hid (upL C (C.c p) (i + 1) = if C.c i ≤ C.c p then upL C (C.c p) i ++ [C.c i] else upL C (C.c p) i) := Lib.hid rfl
   obtain ⟨x1, hx1⟩ : ∃ x, x = nD n (C.c i) := ⟨_, rfl⟩
   obtain ⟨x2, hx2⟩ : ∃ x, x = dD n (C.c i) := ⟨_, rfl⟩
   obtain ⟨y1, hy1⟩ : ∃ x, x = nD n (C.c p) := ⟨_, rfl⟩
   obtain ⟨y2, hy2⟩ : ∃ x, x = dD n (C.c p) := ⟨_, rfl⟩
   rw [← hx1, ← hx2, ← hy1, ← hy2] at HCmp
   rw [← hx1] at g1
   rw [← hx2] at g2
   rw [← hy1, ← hy2] at K5p
   rw [← hx1, ← hx2] at HVF
   have HXE := Lib.hid (And.intro hx1 hx2)
   have hiN : (i : Int) < (C.many : Int) := by omega
   have d1 := KLp.out.at 1 (v := .slice (some ⟨fb, fo, none⟩) C.many c') rfl
   clear hx1 hx2 hy1 hy2 hcmp
   go_wp2
   (refine wp_region_below (by kernel_rfl) (by kernel_rfl) ?_; (repeat (refine wpQuiet_step (fun K hK => ?_); go_simp; first | (refine hK _ ?_; clear hK K) | (apply Exists.intro; refine ⟨fun wq hq => ?_, hK _ ?_⟩; (first | rfl | (have q1 := (KLp.out.belowS hq).at 1 (v := .slice (some ⟨fb, fo, none⟩) C.many c') rfl; have q2 := (hq.cell (p := ⟨fb, fo + i * 2, none⟩) hfb2).trans g1; have q3 := (hq.cell (p := ⟨fb, fo + i * 2 + 1, none⟩) hfb2).trans g2; have q4 := (K5p.out.belowS hq).at 0 (v := .int .i64 y1) rfl; have q5 := (K5p.out.belowS hq).at 1 (v := .int .i64 y2) rfl; first | (go_simp; done) | (go_simp; rfl) | (go_at_call 54; refine (HCmp.out _).mono ?_; rintro e w7 ⟨rfl, hb⟩; exact ⟨rfl, Base.Below.nextA hq hb⟩))); clear hK K))); refine wpQuiet_nil ?_; intro wq hq)
   have b7 : Below wp.heap.size wp wq := hq
   have HBq := Lib.hid b7
   have HOq := Lib.hid (HO.out.below b7)
   have q1 := (KLp.out.belowS b7).at 1 (v := .slice (some ⟨fb, fo, none⟩) C.many c') rfl
   have q2 := (b7.cell (p := ⟨fb, fo + i * 2, none⟩) hfb2).trans g1
   have q3 := (b7.cell (p := ⟨fb, fo + i * 2 + 1, none⟩) hfb2).trans g2
   have hsq := b7.size
   clear b7 hq g1 g2 d1 HO KLp K5p HCmp
   by_cases hle : C.c i ≤ C.c p
   ·have hk0 : k ≤ 0 := hk.1 hle
    have HWO := Lib.hid (fun W => wideOf_y HVF.out W)
    have HUp2 := Lib.hid (HUp.out.trans (if_pos hle))
    clear hk hle HUp HVF
    go_wp2_with fail
    refine (HWO.out _).mono ?_
    rintro e w7 ⟨v, rfl, ⟨s, A1, k1, c1, A2, k2, c2, rfl⟩, hb7⟩
    have HO7 := Lib.hid (HOq.out.below hb7)
    have HB7 := Lib.hid (Base.Below.nextA HBq.out hb7)
    have hs7 := hb7.size
    obtain ⟨L, hL⟩ : ∃ L, L = (upL C (C.c p) i).length := ⟨_, rfl⟩
    have hrow := World.ownsRow.alloc HO7.out.row (.cells #[.bool s, .slice A1 k1 c1, .slice A2 k2 c2, .bool true, .int .i64 x1, .int .i64 x2] 92)
    rw [← hL] at hrow hlen
    have HWn := Lib.hid hrow
    have HL := Lib.hid hL
    clear hrow hL hb7 q1 q2 q3 HOq HBq HWO
    go_wp2_with (at_builtin; refine wpList_append_own_at _ rfl (.tmp 30) (.tmp 37) 88 rfl (w4.heap.size + 1) 92 iw (.agg #[.bool false, .slice none 0 0, .slice none 0 0, .bool false, .int .i64 0, .int .i64 0]) 6 80 Tryz.underlying88 wi wz0 wz1 wz2 rfl (by decide) _ _ _ rfl HWn.out ⟨w7.heap.size, 0, none⟩ 1 1 [(.bool s), (.slice A1 k1 c1), (.slice A2 k2 c2), (.bool true), (.int .i64 x1), (.int .i64 x2)] rfl rfl ?p1a ?p2a ?p3a ?p4a ?p5a ?_)
    try case p1a => exact newsY _ _ (by simp)
    try case p2a => exact onesY
    try case p3a => first | (simp only [maxLen]; omega) | omega
    try case p4a => omega
    try case p5a => first | (simp only [World.size_alloc]; omega) | omega
    intro v' w8 hown' hg' _ he
    have HN : Hid (LvRel C n (C.c p) (w4.heap.size + 1) W5 v' (.int .i64 ((i : Int) + 1)) w8) := Lib.hid (by
     rw [HL.out, HXE.out.1, HXE.out.2] at hown'
     refine ⟨i + 1, _, hlt, by simp, Lib.hid (by rw [HUp2.out]; exact OwnY.push HO7.out hown'), Lib.hid (HBr.out.trans (pushB (wr := w7) HO7.out.row (by omega) ((Below.refl _ _).alloc (Nat.le_refl _) _) hg' |> fun h => (HB7.out.mono (by omega)).trans h))⟩)
    clear hown' hg' he
    go_wp2
    go_roundw
    case rel => exact HN.out
    case measure => simp [intOf]; omega
   ·obtain rfl : k = 1 := hk.2 hle
    have HN : Hid (LvRel C n (C.c p) (w4.heap.size + 1) W5 u7 (.int .i64 ((i : Int) + 1)) wq) := Lib.hid ⟨i + 1, us, hlt, by simp, Lib.hid (by rw [HUp.out, if_neg hle]; exact HOq.out), Lib.hid (HBr.out.trans (HBq.out.mono (by omega)))⟩
    clear hk hle HUp HVF q1 q2 q3
    go_wp2
    go_roundw
    case rel => exact HN.out
    case measure => simp [intOf]; omega
  ·obtain rfl : i = C.many := by omega
   obtain ⟨A3, c3, e3, _⟩ := ownsRow_form HO.out.row
   subst e3
   have HSm := Lib.hid (sum_y (v := .slice A3 (upL C (C.c p) C.many).length c3) hn (by rw [upL_sum]; exact upS_le HC.out _ (Nat.le_refl _)) wp HO.out (by have := upL_len C (C.c p) C.many; omega))
   rw [upL_sum] at HSm
   have KRp := Lib.hid (KR.out.belowS HBp.out)
   have d1 := KLp.out.at 1 (v := .slice A' C.many c') rfl
   obtain ⟨P, hP⟩ : ∃ P, P = nD n (upS C (C.c p) C.many) := ⟨_, rfl⟩
   obtain ⟨Q, hQ⟩ : ∃ Q, Q = dD n (upS C (C.c p) C.many) := ⟨_, rfl⟩
   rw [← hP, ← hQ] at HSm
   have HPQ := Lib.hid (And.intro hP hQ)
   clear hP hQ
   go_wp2_with fail
   refine HSm.out.mono ?_
   rintro e w7 ⟨v, rfl, hv, hb7⟩
   have HG := Lib.hid (give_y w7 hv)
   have KR7 := Lib.hid (KRp.out.belowS hb7)
   have HB7 := Lib.hid (HBw.out _ hb7)
   clear hb7 hv HSm HO
   go_wp2_with fail
   refine HG.out.mono ?_
   rintro e w8 ⟨rfl, hb8⟩
   have KR8 := KR7.out.belowS hb8
   have HB8 := Lib.hid (Base.Below.nextA HB7.out hb8)
   have r0 := KR8.at 0 (v := .int .i64 0) rfl
   have r1 := KR8.at 1 (v := .int .i64 0) rfl
   have f0 := KR8.frz 0
   have f1 := KR8.frz 1
   have SS := (KR8.setTo 0 (.int .i64 P) rfl).setTo 1 (.int .i64 Q) rfl
   have k0 := SS.at 0 (v := .int .i64 P) rfl
   have k1 := SS.at 1 (v := .int .i64 Q) rfl
   clear SS KR8 hb8 KLp K5p KRp KR7
   go_wp2
   refine bodyPost_ret (v := .tuple #[.agg #[.int .i64 P, .int .i64 Q], .bool true]) (by simp [results, Tryz.results25, go_sem, k0, k1]) rfl ⟨by rw [HPQ.out.1, HPQ.out.2], (HB8.out.setCell (p := ⟨w.heap.size + 1, 0, none⟩) (Nat.le_succ _) _).setCell (p := ⟨w.heap.size + 1, 1, none⟩) (Nat.le_succ _) _⟩
end Go.Proofs.YtcimmgpmkfbpdaaGreatDoor.LvI
namespace Go.Proofs.YtcimmgpmkfbpdaaGreatDoor.LvK
open Go.RowKit Go.Proofs.YtcimmgpmkfbpdaaGreatDoor Go.Proofs.YtcimmgpmkfbpdaaGreatDoor.Base Go.Proofs.YtcimmgpmkfbpdaaGreatDoor.Mem Go.Proofs.YtcimmgpmkfbpdaaGreatDoor.MemF Go.Proofs.YtcimmgpmkfbpdaaGreatDoor.Blk Go.Proofs.YtcimmgpmkfbpdaaGreatDoor.LvM Go.Proofs.YtcimmgpmkfbpdaaGreatDoor.LvQ Go.Proofs.YtcimmgpmkfbpdaaGreatDoor.LvO Go.Proofs.YtcimmgpmkfbpdaaGreatDoor.LvR Go.Proofs.YtcimmgpmkfbpdaaGreatDoor.LvT Go.Proofs.YtcimmgpmkfbpdaaGreatDoor.LvW Go.Proofs.YtcimmgpmkfbpdaaGreatDoor.LvJ Go.Proofs.YtcimmgpmkfbpdaaGreatDoor.Dice
set_option linter.unusedVariables false
theorem max_d (a b : Int) (w : World) : Calls Tryz.prog 61 #[.int .i64 a, .int .i64 b] w fun e w' => e = .returned (.int .i64 (max a b)) ∧ w = w' := by
 by_cases h : b < a
 ·go_enter Tryz.func61, Tryz.ntmps61
  go_wp2
  go_ret
  exact ⟨ret_int (by omega), rfl⟩
 ·have h2 : ¬ (b < a) := h
  go_enter Tryz.func61, Tryz.ntmps61
  go_wp2
  go_ret
  exact ⟨ret_int (by omega), rfl⟩
set_option maxHeartbeats 2000000 in
theorem most_d (s : ByteArray) (hs : s.size ≤ 400) (w : World) : Calls Tryz.prog 31 #[.string s] w fun e w' => e = .returned (.int .i64 (mostR (byt s) s.size)) ∧ Below w.heap.size w w' := by
 have HR := Lib.hid (runs_d s hs w)
 have hl := (runs_in (byt s) s.size).1
 have HE : Hid (mostR (byt s) s.size = maxTo (runsTo (byt s) s.size) (runsTo (byt s) s.size).length) := Lib.hid rfl
 unfold RunRet at HR
 generalize runsTo (byt s) s.size = xs at *
 generalize mostR (byt s) s.size = mm at *
 go_enter Tryz.func31, Tryz.ntmps31
 go_wp2_with fail
 refine HR.out.mono ?_
 rintro e w1 ⟨A, c, rfl, ho, hb⟩
 have HX := Lib.hid (OwnI.rd ho)
 have HB := Lib.hid hb
 clear ho hb HR
 go_wp2
 go_loop [4, 5] (fun nv iv => ∃ i : Nat, i ≤ xs.length ∧ iv = .int .i64 (i : Int) ∧ nv = .int .i64 (maxTo xs i)) (fun _ iv => xs.length - (intOf iv).toNat)
 case atStart => exact ⟨0, Nat.zero_le _, rfl, rfl⟩
 case round =>
  obtain ⟨i, hi, rfl, rfl⟩ := hrel
  by_cases hlt : i < xs.length
  ·obtain ⟨b, off, rfl, _, hc⟩ := HX.out (by omega)
   have g1 := hc i hlt
   have HM := Lib.hid (fun W => max_d (maxTo xs i) (xs.getD i 0) W)
   have HE2 : Hid (maxTo xs (i + 1) = max (maxTo xs i) (xs.getD i 0)) := Lib.hid rfl
   clear hc
   generalize maxTo xs i = q at *
   generalize xs.getD i 0 = z at *
   go_wp2_with fail
   refine (HM.out _).mono ?_
   rintro e w' ⟨rfl, rfl⟩
   go_wp2
   go_round
   case rel => exact ⟨i + 1, hlt, by go_num, by rw [HE2.out]⟩
   case measure => simp [intOf]; omega
  ·obtain rfl : i = xs.length := by omega
   rw [← HE.out]
   go_wp2
   go_ret
   exact ⟨rfl, HB.out⟩
def lvA (s : ByteArray) : Nat := upS (onesC s.size) ((onesC s.size).c (onesTo (byt s) s.size)) (onesC s.size).many
def lvB (s : ByteArray) : Nat := upS (runsC s.size) ((runsC s.size).c ((runsTo (byt s) s.size).length - 1)) (runsC s.size).many
def lvC (s : ByteArray) : Nat := upS (lenC s.size) ((lenC s.size).c ((mostR (byt s) s.size).toNat - 1)) (lenC s.size).many
def lvF (s : ByteArray) : List Int := [nD s.size (lvA s), dD s.size (lvA s), nD s.size (lvB s), dD s.size (lvB s), nD s.size (lvC s), dD s.size (lvC s)]
def FrRet (p q : Int) (w : World) (e : Ending) (w' : World) : Prop := e = .returned (.tuple #[.agg #[.int .i64 p, .int .i64 q], .bool true]) ∧ Below w.heap.size w w'
theorem levA {s : ByteArray} (hs : s.size ≤ 50) {v : Value} (w : World) (hv : LawIs (onesC s.size) s.size w v) : Calls Tryz.prog 25 #[v, .int .i64 ((onesTo (byt s) s.size : Nat) : Int)] w (FrRet (nD s.size (lvA s)) (dD s.size (lvA s)) w) := by
 have h := LvI.level_d (p := onesTo (byt s) s.size) (onesC_ok s.size) (by have := ones_le (byt s) s.size; show _ < s.size + 1; omega) hs w hv
 rw [show (onesC s.size).first + onesTo (byt s) s.size = onesTo (byt s) s.size from Nat.zero_add _] at h
 exact h
theorem levB {s : ByteArray} (h1 : 1 ≤ s.size) (hs : s.size ≤ 50) {v : Value} (w : World) (hv : LawIs (runsC s.size) s.size w v) : Calls Tryz.prog 25 #[v, .int .i64 (((runsTo (byt s) s.size).length : Nat) : Int)] w (FrRet (nD s.size (lvB s)) (dD s.size (lvB s)) w) := by
 obtain ⟨g1, g2, _⟩ := runs_in (byt s) s.size
 have g3 := g2 h1
 have h := LvI.level_d (p := (runsTo (byt s) s.size).length - 1) (runsC_ok h1) (by show _ < s.size; omega) hs w hv
 rw [show (runsC s.size).first + ((runsTo (byt s) s.size).length - 1) = (runsTo (byt s) s.size).length by show 1 + _ = _; omega] at h
 exact h
theorem levC {s : ByteArray} (h1 : 1 ≤ s.size) (hs : s.size ≤ 50) {v : Value} (w : World) (hv : LawIs (lenC s.size) s.size w v) : Calls Tryz.prog 25 #[v, .int .i64 (mostR (byt s) s.size)] w (FrRet (nD s.size (lvC s)) (dD s.size (lvC s)) w) := by
 obtain ⟨g1, g2⟩ := mostR_in (byt s) h1
 have h := LvI.level_d (p := (mostR (byt s) s.size).toNat - 1) (lenC_ok h1) (by show _ < s.size; omega) hs w hv
 rw [show (((lenC s.size).first + ((mostR (byt s) s.size).toNat - 1) : Nat) : Int) = mostR (byt s) s.size by show ((1 + _ : Nat) : Int) = _; omega] at h
 exact h
def LsRet (s : ByteArray) (w : World) (e : Ending) (w' : World) : Prop := ∃ A c, e = .returned (.slice A 3 c) ∧ OwnF w' w.heap.size (.slice A 3 c) 3 (lvF s) ∧ Below w.heap.size w w'
set_option maxHeartbeats 4000000 in
set_option maxRecDepth 100000 in
theorem levels_d (s : ByteArray) (h1 : 1 ≤ s.size) (hs : s.size ≤ 50) (hB : BitsS s) (w : World) : Calls Tryz.prog 13 #[.string s] w (LsRet s w) := by
 have HO := Lib.hid (fun W => LvL.ones_any s.size hs W)
 have HR := Lib.hid (fun W => LvL.runs_any s.size h1 hs W)
 have HL := Lib.hid (fun W => LvL.longest_any s.size h1 hs W)
 have HO2 := Lib.hid (fun W => ones_d s (by omega) hB W)
 have HR2 := Lib.hid (fun W => runs_d s (by omega) W)
 have HL2 := Lib.hid (fun W => most_d s (by omega) W)
 have HA : Hid (∀ v W, LawIs (onesC s.size) s.size W v → Calls Tryz.prog 25 #[v, .int .i64 ((onesTo (byt s) s.size : Nat) : Int)] W (FrRet (nD s.size (lvA s)) (dD s.size (lvA s)) W)) := Lib.hid fun v W h => levA hs W h
 have HBb : Hid (∀ v W, LawIs (runsC s.size) s.size W v → Calls Tryz.prog 25 #[v, .int .i64 (((runsTo (byt s) s.size).length : Nat) : Int)] W (FrRet (nD s.size (lvB s)) (dD s.size (lvB s)) W)) := Lib.hid fun v W h => levB h1 hs W h
 have HCc : Hid (∀ v W, LawIs (lenC s.size) s.size W v → Calls Tryz.prog 25 #[v, .int .i64 (mostR (byt s) s.size)] W (FrRet (nD s.size (lvC s)) (dD s.size (lvC s)) W)) := Lib.hid fun v W h => levC h1 hs W h
 have HF : Hid (lvF s = [nD s.size (lvA s), dD s.size (lvA s), nD s.size (lvB s), dD s.size (lvB s), nD s.size (lvC s), dD s.size (lvC s)]) := Lib.hid rfl
 unfold RunRet at HR2
 generalize nD s.size (lvA s) = a1 at *
 generalize dD s.size (lvA s) = a2 at *
 generalize nD s.size (lvB s) = b1 at *
 generalize dD s.size (lvB s) = b2 at *
 generalize nD s.size (lvC s) = d1 at *
 generalize dD s.size (lvC s) = d2 at *
 generalize onesTo (byt s) s.size = n1 at *
 generalize runsTo (byt s) s.size = rs at *
 generalize mostR (byt s) s.size = mm at *
 clear hB
 go_enter Tryz.func13, Tryz.ntmps13
 go_wp2_with fail
 refine (HO.out _).mono ?_
 rintro e w1 ⟨v, rfl, hv, hb1⟩
 have HV := Lib.hid hv.is
 have B1 := Lib.hid hb1
 clear hv hb1
 go_wp2_with fail
 refine (HO2.out _).mono ?_
 rintro e w' ⟨rfl, rfl⟩
 go_wp2_with fail
 refine (HA.out _ _ HV.out).mono ?_
 rintro e w2 ⟨rfl, hb2⟩
 have B2 := Lib.hid (Base.Below.nextA B1.out hb2)
 clear hb2 HV HO HO2 HA
 go_wp2_with fail
 obtain ⟨W3, hW3⟩ : ∃ W3, W3 = w2.alloc (.cells #[.int .i64 a1, .int .i64 a2] 52) := ⟨_, rfl⟩
 have K3 : Hid (Blk W3 w2.heap.size 52 #[.int .i64 a1, .int .i64 a2]) := Lib.hid (by rw [hW3]; exact Blk.new w2 _ _)
 have B3 : Hid (Below w.heap.size w W3) := Lib.hid (by rw [hW3]; exact B2.out.alloc B2.out.size _)
 rw [← hW3]
 clear hW3 B2
 refine (HR.out _).mono ?_
 rintro e w4 ⟨v, rfl, hv, hb4⟩
 have HV := Lib.hid hv.is
 have K4 := Lib.hid (K3.out.belowS hb4)
 have B4 := Lib.hid (Base.Below.nextA B3.out hb4)
 clear hv hb4 K3 B3
 go_wp2_with fail
 refine (HR2.out _).mono ?_
 rintro e w5 ⟨A5, c5, rfl, _, hb5⟩
 have HV5 := Lib.hid (HV.out.below hb5)
 have K5 := Lib.hid (K4.out.belowS hb5)
 have B5 := Lib.hid (Base.Below.nextA B4.out hb5)
 clear hb5 K4 B4 HV
 go_wp2_with fail
 refine (HBb.out _ _ HV5.out).mono ?_
 rintro e w6 ⟨rfl, hb6⟩
 have K6 := Lib.hid (K5.out.belowS hb6)
 have B6 := Lib.hid (Base.Below.nextA B5.out hb6)
 clear hb6 K5 B5 HV5 HR HR2 HBb
 go_wp2_with fail
 obtain ⟨W7, hW7⟩ : ∃ W7, W7 = w6.alloc (.cells #[.int .i64 b1, .int .i64 b2] 52) := ⟨_, rfl⟩
 have K7 : Hid (Blk W7 w2.heap.size 52 #[.int .i64 a1, .int .i64 a2] ∧ Blk W7 w6.heap.size 52 #[.int .i64 b1, .int .i64 b2]) := Lib.hid (by rw [hW7]; exact ⟨K6.out.alloc _, Blk.new w6 _ _⟩)
 have B7 : Hid (Below w.heap.size w W7) := Lib.hid (by rw [hW7]; exact B6.out.alloc B6.out.size _)
 rw [← hW7]
 clear hW7 B6 K6
 refine (HL.out _).mono ?_
 rintro e w8 ⟨v, rfl, hv, hb8⟩
 have HV := Lib.hid hv.is
 have K8 := Lib.hid (And.intro (K7.out.1.belowS hb8) (K7.out.2.belowS hb8))
 have B8 := Lib.hid (Base.Below.nextA B7.out hb8)
 clear hv hb8 K7 B7
 go_wp2_with fail
 refine (HL2.out _).mono ?_
 rintro e w9 ⟨rfl, hb9⟩
 have HV9 := Lib.hid (HV.out.below hb9)
 have K9 := Lib.hid (And.intro (K8.out.1.belowS hb9) (K8.out.2.belowS hb9))
 have B9 := Lib.hid (Base.Below.nextA B8.out hb9)
 clear hb9 K8 B8 HV
 go_wp2_with fail
 refine (HCc.out _ _ HV9.out).mono ?_
 rintro e wa ⟨rfl, hba⟩
 have Ka := Lib.hid (And.intro (K9.out.1.belowS hba) (K9.out.2.belowS hba))
 have Ba := Lib.hid (Base.Below.nextA B9.out hba)
 clear hba K9 B9 HV9 HL HL2 HCc
 have x0 := Ka.out.1.at 0 (v := .int .i64 a1) rfl
 have x1 := Ka.out.1.at 1 (v := .int .i64 a2) rfl
 have y0 := Ka.out.2.at 0 (v := .int .i64 b1) rfl
 have y1 := Ka.out.2.at 1 (v := .int .i64 b2) rfl
 have l0 := Ka.out.1.lt
 have l1 := Ka.out.2.lt
 have HFIN : Hid (LsRet s w (.returned (.slice (some ⟨wa.heap.size + 1, 0, none⟩) 3 3)) ((wa.alloc (.cells #[.int .i64 d1, .int .i64 d2] 52)).alloc (.cells #[.int .i64 a1, .int .i64 a2, .int .i64 b1, .int .i64 b2, .int .i64 d1, .int .i64 d2] 52))) := Lib.hid (by
  refine ⟨_, _, rfl, ?_, (Ba.out.alloc Ba.out.size _).alloc (by have := Ba.out.size; simp; omega) _⟩
  have h := World.ownsRow_lit (e := 52) (size := 2) (base := w.heap.size) (wa.alloc (.cells #[.int .i64 d1, .int .i64 d2] 52)) #[.int .i64 a1, .int .i64 a2, .int .i64 b1, .int .i64 b2, .int .i64 d1, .int .i64 d2] 3 (by have := Ba.out.size; simp; omega) (by simp [maxLen]) rfl
  rw [HF.out]
  simpa [OwnF, ints] using h)
 clear Ka Ba
 go_wp2
 go_ret
 exact HFIN.out
end Go.Proofs.YtcimmgpmkfbpdaaGreatDoor.LvK
namespace Go.Proofs.YtcimmgpmkfbpdaaGreatDoor.Cong
open Go.RowKit Go.Proofs.YtcimmgpmkfbpdaaGreatDoor Go.Proofs.YtcimmgpmkfbpdaaGreatDoor.Base
set_option linter.unusedVariables false
theorem validCong_any (m f a : Int) (w : World) :
  Calls Tryz.prog 63 #[.agg #[.int .i64 m, .int .i64 f, .int .i64 a]] w fun e w' => e = .returned (.bool (congB m f a)) ∧ Below w.heap.size w w' := by
 cases hm : inR m 2 100000
 ·go_enter Tryz.func63, Tryz.ntmps63
  go_wp2_with (go_at_call 34; refine (inRange_any _ _ _ _).mono ?_; rintro e w' ⟨rfl, rfl⟩)
  go_ret
  exact ⟨ret_bool (by simp [congB, hm]), (Below.refl _ _).alloc (Nat.le_refl _) _⟩
 ·obtain ⟨b1, b2⟩ := inR_true hm
  cases hf : inR f 0 (m - 1)
  ·go_enter Tryz.func63, Tryz.ntmps63
   go_wp2_with (go_at_call 34; refine (inRange_any _ _ _ _).mono ?_; rintro e w' ⟨rfl, rfl⟩)
   go_ret
   exact ⟨ret_bool (by simp [congB, hm, hf]), (Below.refl _ _).alloc (Nat.le_refl _) _⟩
  ·go_enter Tryz.func63, Tryz.ntmps63
   go_wp2_with (go_at_call 34; refine (inRange_any _ _ _ _).mono ?_; rintro e w' ⟨rfl, rfl⟩)
   go_ret
   exact ⟨ret_bool (by simp [congB, hm, hf]), (Below.refl _ _).alloc (Nat.le_refl _) _⟩
theorem congStep_any (m f a x : Nat) (w : World) (hm : 2 ≤ m) (hm2 : m ≤ 100000) (hf : f < m) (ha : a < m) (hx : x < m) :
  Calls Tryz.prog 36 #[.agg #[.int .i64 m, .int .i64 f, .int .i64 a], .int .i64 x] w fun e w' => e = .returned (.int .i64 (stepN m f a x : Nat)) ∧ Below w.heap.size w w' := by
 obtain ⟨p1, p2⟩ := prod_le hf hx hm2
 have H := Lib.hid (stepN_int m f a x)
 have hm0 : ((m : Int) == 0) = false := by simp; omega
 go_enter Tryz.func36, Tryz.ntmps36
 go_wp2
 go_ret
 exact ⟨ret_int H.out, (Below.refl _ _).alloc (Nat.le_refl _) _⟩
end Go.Proofs.YtcimmgpmkfbpdaaGreatDoor.Cong
namespace Go.Proofs.YtcimmgpmkfbpdaaGreatDoor.Cong
open Go.RowKit Go.Proofs.YtcimmgpmkfbpdaaGreatDoor Go.Proofs.YtcimmgpmkfbpdaaGreatDoor.Base
set_option linter.unusedVariables false
def bothB (m f a x : Int) : Bool := congB m f a && inR x 0 (m - 1)
theorem bothB_true {m f a x : Int} (h : bothB m f a x = true) : 2 ≤ m ∧ m ≤ 100000 ∧ 0 ≤ f ∧ f < m ∧ 0 ≤ a ∧ a < m ∧ 0 ≤ x ∧ x < m := by
 simp only [bothB, Bool.and_eq_true] at h
 have h1 := congB_true h.1
 have h2 := inR_true h.2
 omega
theorem l03Both_any (b o : Nat) (m f a x : Int) (w : World) (h0 : w.cell? ⟨b, o, none⟩ = some (.int .i64 m)) (h1 : w.cell? ⟨b, o + 1, none⟩ = some (.int .i64 f)) (h2 : w.cell? ⟨b, o + 2, none⟩ = some (.int .i64 a)) :
  Calls Tryz.prog 22 #[.pointer (some ⟨b, o, none⟩), .int .i64 x] w fun e w' => e = .returned (.bool (bothB m f a x)) ∧ ∃ n, w' = w.drewN n := by
 cases hB : congB m f a
 ·go_enter Tryz.func22, Tryz.ntmps22
  go_wp2_with (go_at_call 49; refine (l03Is_any _ _ m f a _ h0 h1 h2).mono ?_; rintro e w1 ⟨rfl, k, rfl⟩)
  go_ret
  exact ⟨ret_bool (by simp [bothB, hB]), _, rfl⟩
 ·obtain ⟨g1, g2, _⟩ := congB_true hB
  go_enter Tryz.func22, Tryz.ntmps22
  go_wp2_with (first | (go_at_call 49; refine (l03Is_any _ _ m f a _ h0 h1 h2).mono ?_; rintro e w1 ⟨rfl, k, rfl⟩) | (go_at_call 23; refine (l00In_any _ _ _ _).mono ?_; rintro e w' ⟨rfl, rfl⟩))
  go_ret
  exact ⟨ret_bool (by simp [bothB, hB]), _, rfl⟩
theorem isState_any (m f a x : Int) (w : World) :
  Calls Tryz.prog 33 #[.agg #[.int .i64 m, .int .i64 f, .int .i64 a], .int .i64 x] w fun e w' => e = .returned (.bool (bothB m f a x)) ∧ Below w.heap.size w w' := by
 cases hB : congB m f a
 ·go_enter Tryz.func33, Tryz.ntmps33
  go_wp2_with (go_at_call 63; refine (validCong_any m f a _).mono ?_; rintro e w1 ⟨rfl, hb1⟩)
  go_ret
  exact ⟨ret_bool (by simp [bothB, hB]), Base.Below.boxed hb1⟩
 ·obtain ⟨g1, g2, _⟩ := congB_true hB
  go_enter Tryz.func33, Tryz.ntmps33
  go_wp2_with (first | (go_at_call 63; refine (validCong_any m f a _).mono ?_; rintro e w1 ⟨rfl, hb1⟩; have d0 : w1.cell? ⟨w.heap.size, 0, none⟩ = some (.int .i64 m) := box_cells hb1 0) | (go_at_call 34; refine (inRange_any _ _ _ _).mono ?_; rintro e w' ⟨rfl, rfl⟩))
  go_ret
  exact ⟨ret_bool (by simp [bothB, hB]), Base.Below.boxed hb1⟩
end Go.Proofs.YtcimmgpmkfbpdaaGreatDoor.Cong
namespace Go.Proofs.YtcimmgpmkfbpdaaGreatDoor.Pow
open Go.RowKit Go.Proofs.YtcimmgpmkfbpdaaGreatDoor Go.Proofs.YtcimmgpmkfbpdaaGreatDoor.Base Go.Proofs.YtcimmgpmkfbpdaaGreatDoor.Mem Go.Proofs.YtcimmgpmkfbpdaaGreatDoor.Blk Go.Proofs.YtcimmgpmkfbpdaaGreatDoor.CycM Go.Proofs.YtcimmgpmkfbpdaaGreatDoor.Cong
set_option linter.unusedVariables false
end Go.Proofs.YtcimmgpmkfbpdaaGreatDoor.Pow
namespace Go.Proofs.YtcimmgpmkfbpdaaGreatDoor.Bld
open Go.RowKit Go.Proofs.YtcimmgpmkfbpdaaGreatDoor Go.Proofs.YtcimmgpmkfbpdaaGreatDoor.Base Go.Proofs.YtcimmgpmkfbpdaaGreatDoor.Mem
set_option linter.unusedVariables false
theorem sizeBuilder : (Tryz.prog.info? 103).map (·.size) = some 2 := by kernel_rfl
theorem liesBuilder : liesAt Tryz.prog Tryz.prog.depth 103 (2 / Tryz.prog.cellsOf 103) 0 103 1 = true := by kernel_rfl
theorem infoByte : (Tryz.prog.info? 5).map (fun i => (i.zero, i.size, i.bytes)) = some (some (.int .u8 0), 1, 1) := by kernel_rfl
theorem cellsByte : Tryz.prog.cellsOf 5 = 1 := by kernel_rfl
set_option maxHeartbeats 1000000 in
set_option maxRecDepth 100000 in
theorem copyCheck_used (b : Nat) (w : World) (h0 : w.cell? ⟨b, 0, none⟩ = some (.pointer (some ⟨b, 0, none⟩))) :
  Calls Tryz.prog 90 #[.pointer (some ⟨b, 0, none⟩)] w fun e w' => e = .returned (.tuple #[]) ∧ w' = w := by
 obtain ⟨j, hj, _⟩ := Option.map_eq_some_iff.1 sizeBuilder
 go_enter Tryz.func90, Tryz.ntmps90
 go_wp2
 rw [Lib.run_neq_ptr_same w _ Tryz.underlying101 hj]
 go_wp2
 go_end0
 exact ⟨rfl, rfl⟩
set_option maxHeartbeats 1000000 in
set_option maxRecDepth 100000 in
theorem copyCheck_fresh (b : Nat) (w : World) (h0 : w.cell? ⟨b, 0, none⟩ = some (.pointer none)) (hsh : w.shape? b = some (103, 2)) (hfz : w.frozen? ⟨b, 0, none⟩ = false) :
  Calls Tryz.prog 90 #[.pointer (some ⟨b, 0, none⟩)] w fun e w' => e = .returned (.tuple #[]) ∧ w' = w.setCell ⟨b, 0, none⟩ (.pointer (some ⟨b, 0, none⟩)) := by
 obtain ⟨j, hj, hjs⟩ := Option.map_eq_some_iff.1 sizeBuilder
 go_enter Tryz.func90, Tryz.ntmps90
 go_wp2
 rw [Lib.run_to_unsafe w ⟨b, 0, none⟩ Tryz.underlying101 Tryz.underlying162 hj (by rw [hjs]; decide) hsh (Nat.zero_lt_succ 1)]
 simp only [Result.andThen]
 rw [Oper.upon_value]
 go_wp2
 rw [run_callFunc_extern Tryz.func119 (by kernel_rfl) (by kernel_rfl) (by kernel_rfl) (e := Extern.AbiNoEscape.same) (by kernel_rfl)]
 rw [Lib.run_noEscape]
 simp only [Result.andThen]
 rw [Oper.upon_value]
 go_wp2
 rw [Lib.run_from_unsafe w ⟨b, 0, none⟩ Tryz.underlying162 Tryz.underlying101 hj hsh liesBuilder]
 simp only [Result.andThen]
 rw [Oper.upon_value]
 go_wp2
 go_end0
 exact ⟨rfl, rfl⟩
def IsB (B b : Nat) (bs : List Value) (w : World) : Prop := Lib.IsBuilder 103 5 B b bs w
theorem copyCheck_any (B b : Nat) (bs : List Value) (w : World) (h : IsB B b bs w) :
  Calls Tryz.prog 90 #[.pointer (some ⟨b, 0, none⟩)] w fun e w' => e = .returned (.tuple #[]) ∧ (Lib.BuilderAt 103 5 B b (.pointer (some ⟨b, 0, none⟩)) bs w' ∧ Below B w w') := by
 rcases h with h | h
 ·refine (copyCheck_fresh b w h.cell0 h.shape h.frozen0).mono ?_
  rintro e w' ⟨rfl, rfl⟩
  exact ⟨rfl, h.used _, (Below.refl B w).setCell (p := ⟨b, 0, none⟩) h.1 _⟩
 ·refine (copyCheck_used b w h.cell0).mono ?_
  rintro e w' ⟨rfl, rfl⟩
  exact ⟨rfl, h, Below.refl B _⟩
def WroteB (B b : Nat) (bs : List Value) (w : World) (e : Ending) (w' : World) : Prop := e = .returned .nilIface ∧ IsB B b bs w' ∧ Below B w w'
set_option maxHeartbeats 2000000 in
set_option maxRecDepth 100000 in
theorem writeByte_any (B b : Nat) (bs : List Value) (c : Int) (w : World) (h : IsB B b bs w) (hlen : bs.length + 1 ≤ 1099511627776) (hBw : B ≤ w.heap.size) :
  Calls Tryz.prog 65 #[.pointer (some ⟨b, 0, none⟩), .int .u8 c] w (WroteB B b (bs ++ [.int .u8 c]) w) := by
 obtain ⟨i0, hi, hz0, hz1, hz2⟩ := info_parts infoByte
 go_enter Tryz.func65, Tryz.ntmps65
 go_wp2_with fail
 refine (copyCheck_any B b bs _ h).mono ?_
 rintro e w1 ⟨rfl, h1, hb1⟩
 obtain ⟨hB, v, hbk, hown, hne⟩ := h1
 have c0 : w1.cell? ⟨b, 0, none⟩ = some (.pointer (some ⟨b, 0, none⟩)) := by rw [Lib.cell_of_heap hbk]; rfl
 have c1 : w1.cell? ⟨b, 1, none⟩ = some v := by rw [Lib.cell_of_heap hbk]; rfl
 go_wp2_with (at_builtin; refine wpList_append_own _ rfl _ _ 58 rfl B 5 i0 (.int .u8 0) 1 1 Tryz.underlying58 hi hz0 hz1 hz2 rfl (by decide) _ _ _ rfl (hown.alloc _) ⟨w1.heap.size, 0, none⟩ 1 1 [.int .u8 c] rfl rfl ?c1 ?c2 ?c3 ?c4 ?c5 ?_)
 case c1 =>
  intro j u hj
  match j, hj with
  | 0, hj => simp at hj; subst hj; simp [Addr.add]
 case c2 => intro u hu; simp at hu; subst hu; rfl
 case c3 => unfold maxLen; omega
 case c4 => omega
 case c5 => have := hb1.size; simp; omega
 intro v' w2 hown' hgrow _
 have hlt : b < w1.heap.size := by
  rcases Nat.lt_or_ge b w1.heap.size with h' | h'
  ·exact h'
  ·simp [Array.getElem?_eq_none h'] at hbk
 have hb2 : w2.heap[b]? = some (.cells #[.pointer (some ⟨b, 0, none⟩), v] 103 (0, 0)) := by
  rw [hgrow.block b (by simp; omega) (fun e => hne e.symm), Lib.alloc_old w1 _ b hlt]
  exact hbk
 have d0 : w2.cell? ⟨b, 0, none⟩ = some (.pointer (some ⟨b, 0, none⟩)) := by rw [Lib.cell_of_heap hb2]; rfl
 have d1 : w2.cell? ⟨b, 1, none⟩ = some v := by rw [Lib.cell_of_heap hb2]; rfl
 have f1 : w2.frozen? ⟨b, 1, none⟩ = false := Lib.frozen_of_heap hb2 1
 obtain ⟨g, cap, rfl⟩ : ∃ g cap, v' = .slice (some ⟨g, 0, none⟩) (bs.length + 1) cap := by
  rcases hown'.2 with ⟨_, h0⟩ | ⟨g, cap, cur, hv, _⟩
  ·omega
  ·exact ⟨g, cap, hv⟩
 go_wp2
 go_ret
 refine ⟨rfl, .inr ?_, ?_⟩
 ·exact Lib.BuilderAt.put (T := 103) (e := 5) hB hb2 (bs' := bs ++ [.int .u8 c]) (by simpa using hown') (by decide)
 ·exact ((hb1.alloc (by have := hb1.size; omega) _).grown hgrow (by have := hb1.size; simp; omega) (fun k hk => (hown.lt k hk).1)).setCell (p := ⟨b, 1, none⟩) hB _
set_option maxHeartbeats 1000000 in
set_option maxRecDepth 100000 in
theorem string_some (B b : Nat) (l : List UInt8) (w : World) (h : IsB B b (Lib.byteCells l) w) (h0 : l ≠ []) :
  Calls Tryz.prog 66 #[.pointer (some ⟨b, 0, none⟩)] w fun e w' => e = .returned (.string ⟨l.toArray⟩) ∧ Below B w w' := by
 obtain ⟨p, hB, v, hbk, hown, hne⟩ : ∃ p, Lib.BuilderAt 103 5 B b p (Lib.byteCells l) w := by
  rcases h with h | h
  ·exact ⟨_, h⟩
  ·exact ⟨_, h⟩
 have hl0 : l.length ≠ 0 := by simpa using h0
 rw [Lib.byteCells_length] at hown
 obtain ⟨g, cap, cur, rfl, hbg, hg, hnc, hcm, hcs, htake⟩ : ∃ g cap cur, v = .slice (some ⟨g, 0, none⟩) l.length cap ∧ B ≤ g ∧ w.heap[g]? = some (.cells cur 5 (0, 0)) ∧ l.length ≤ cap ∧ cap ≤ maxLen ∧ cur.size = cap * 1 ∧ cur.toList.take (l.length * 1) = Lib.byteCells l := by
  rcases hown.2 with ⟨_, hz⟩ | ⟨g, cap, cur, hv, r⟩
  ·exact absurd hz hl0
  ·exact ⟨g, cap, cur, hv, r⟩
 have c1 : w.drew.cell? ⟨b, 1, none⟩ = some (.slice (some ⟨g, 0, none⟩) l.length cap) := by
  have : w.drew.heap[b]? = some (.cells #[p, .slice (some ⟨g, 0, none⟩) l.length cap] 103 (0, 0)) := hbk
  rw [Lib.cell_of_heap this]; rfl
 have hSD : (Builtin.unsafeSliceData_ #[58] 136 #[.slice (some ⟨g, 0, none⟩) l.length cap]).run Tryz.prog w.drew = .ok (.pointer (some ⟨g, 0, none⟩)) w.drew :=
  Lib.run_unsafeSliceData_row _ _ _ _ _ _ (by omega)
 have hUS : (Builtin.unsafeString_ #[136, 3] 9 #[.pointer (some ⟨g, 0, none⟩), .int .i64 l.length]).run Tryz.prog w.drew = .ok (.string ⟨l.toArray⟩) (w.drew.freeze ⟨g, 0, none⟩ l.length) := by
  refine Lib.run_unsafeString_row w.drew 136 3 9 5 Tryz.underlying136 cellsByte g cur.size (by have hg' : w.drew.heap[g]? = some (.cells cur 5 (0, 0)) := hg; simp [World.shape?, hg']) l h0 (by omega) (by unfold maxLen at hcm; omega) ?_
  intro j x hx
  have := hown.cells (g := g) rfl j (.int .u8 x.toNat) (by simp [Lib.byteCells, hx])
  exact this
 have mixed : Tryz.prog.follows .mixedOrders = true := by kernel_rfl
 go_enter Tryz.func66, Tryz.ntmps66
 go_wp2
 go_region_o
 all_goals (go_wp2; go_ret; exact ⟨rfl, Lib.below_freeze (Below.drew (Below.refl B w)) (p := ⟨g, 0, none⟩) hbg _⟩)
end Go.Proofs.YtcimmgpmkfbpdaaGreatDoor.Bld

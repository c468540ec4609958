/- No box differs by more than the star distance: the law walked; printed by starb.py. -/
import Derived.Test.YtjkcdnfmmfpbjaaStarLaw
import Derived.Test.YtjkcdnfmmfpbjaaShiftedLaw
import Derived.Deep.RegionHeld3
import Derived.Deep.AppendLies
namespace Go.Proofs.Ytjkcdnfmmfpbjaa.StarB
open Go.RowKit Go.Proofs.Ytjkcdnfmmfpbjaa Go.Proofs.Ytjkcdnfmmfpbjaa.Base Go.Proofs.Ytjkcdnfmmfpbjaa.Mem Go.Proofs.Ytjkcdnfmmfpbjaa.Inv Go.Proofs.Ytjkcdnfmmfpbjaa.Pts Go.Proofs.Ytjkcdnfmmfpbjaa.StarM Go.Proofs.Ytjkcdnfmmfpbjaa.Star Go.Proofs.Ytjkcdnfmmfpbjaa.ShL Go.Proofs.Ytjkcdnfmmfpbjaa.ShM
set_option linter.unusedVariables false
/-- a list of rows of which only the first coordinates are shown -/
def cut2 : Value → Value
  | .slice A n c => .slice A (min 2 n) c
  | v => v
def cutL (P : List (List Int)) : List (List Int) := P.map (List.take 2)
theorem cutL_len (P : List (List Int)) : (cutL P).length = P.length := by simp [cutL]
theorem cutL_get (P : List (List Int)) (k : Nat) : (cutL P).getD k [] = (P.getD k []).take 2 := by
  by_cases h : k < P.length
  · simp [cutL, List.getD, h]
  · simp [cutL, List.getD, h]
theorem RdI.cut {w : World} {B : Nat} {A : Option Addr} {xs : List Int} (h : RdI w B A xs) : RdI w B A (xs.take 2) := fun h0 => by
  rw [List.length_take] at h0
  obtain ⟨b, off, e, hlt, hc⟩ := h (by omega)
  refine ⟨b, off, e, hlt, fun i hi => ?_⟩
  rw [List.length_take] at hi
  rw [hc i (by omega)]
  simp [List.getD, show i < 2 by omega]
theorem implStar_yes (A : Option Addr) (c B b : Nat) (xss : List (List Int)) (w : World) (hx : RdII w B A xss) (hB : B ≤ w.heap.size) (hl : xss.length ≤ 1048576) (hm : tot xss ≤ 1048576) (hv : ptsB xss b = true) (h2 : (xss.getD 0 []).length ≤ 2) :
    Calls Try.prog 27 #[.slice A xss.length c, .int .i64 b] w (StarRet (allS (decide ((xss.getD 0 []).length = 2)) (pa xss) (pb (decide ((xss.getD 0 []).length = 2)) xss) xss.length (2 ^ b) (2 ^ b + 1)).toNat (xss.length * 2 ^ b * 2 ^ b) w) := by
  obtain ⟨q1, q2, q3, q4, q5, q6, q7⟩ := ptsB_true hv
  have ho := Nat.two_pow_pos b
  have hs : (xss.getD 0 []).length = 1 ∨ (xss.getD 0 []).length = 2 := by omega
  rcases hs with hs | hs
  · refine (implStar1_yes A c B b xss w hx hB hl hm hv hs).mono fun e w' h => ⟨?_, h.2⟩
    rw [h.1, hs]
    have e1 : (allS false (pa xss) (pb false xss) xss.length (2 ^ b) (2 ^ b + 1)).toNat = 2 ^ b * (allI (pa xss) (pb false xss) xss.length (2 ^ b) (2 ^ b + 1)).toNat := by
      rw [allS_false]
      obtain ⟨V, hV⟩ := Int.eq_ofNat_of_zero_le (allI_bd (pa := pa xss) (pb := pb false xss) (n := xss.length) (o := 2 ^ b) (2 ^ b + 1) (Nat.le_refl _)).1
      rw [hV, Int.toNat_natCast, ← Int.natCast_mul, Int.toNat_natCast]
    have e2 : xss.length * 2 ^ b * 2 ^ b = 2 ^ b * (xss.length * 2 ^ b) := Nat.mul_comm _ _
    have := frac_eq (v := (allI (pa xss) (pb false xss) xss.length (2 ^ b) (2 ^ b + 1)).toNat) (u := xss.length * 2 ^ b) ho
    rw [← e1, ← e2] at this
    rw [← this]
    rfl
  · have := implStar2_yes A c B b xss w hx hB hl hm hv hs
    rw [hs]
    exact this
/-- what the law asks of the fraction -/
structure Law (V n o N D : Nat) : Prop where
  d1 : 1 ≤ D
  le : N ≤ D
  half : D ≤ 2 * n * N
  all : ∀ f, f ≤ V → f * D ≤ N * n * o * o
  bd : D ≤ 262144
theorem law_of {V n o : Nat} (hV : V ≤ n * o * o) (hh : o * o ≤ 2 * V) (hn : 0 < n) (ho : 0 < o) (hb : n * o * o ≤ 262144) : Law V n o (V / Nat.gcd V (n * o * o)) (n * o * o / Nat.gcd V (n * o * o)) := by
  have hU : 0 < n * o * o := Nat.mul_pos (Nat.mul_pos hn ho) ho
  have hg : 0 < Nat.gcd V (n * o * o) := Nat.gcd_pos_of_pos_right _ hU
  have e1 := Nat.mul_div_cancel' (Nat.gcd_dvd_left V (n * o * o))
  have e2 := Nat.mul_div_cancel' (Nat.gcd_dvd_right V (n * o * o))
  have hDb : n * o * o / Nat.gcd V (n * o * o) ≤ 262144 := Nat.le_trans (Nat.div_le_self _ _) hb
  generalize Nat.gcd V (n * o * o) = g at *
  generalize V / g = N at *
  generalize hD : n * o * o / g = D at *
  refine ⟨?_, ?_, ?_, ?_, hDb⟩
  · refine Nat.pos_of_ne_zero fun e => ?_
    subst e
    rw [Nat.mul_zero] at e2
    omega
  · refine Nat.le_of_mul_le_mul_left (c := g) ?_ hg
    rw [e1, e2]; exact hV
  · refine Nat.le_of_mul_le_mul_left (c := g) ?_ hg
    rw [e2, show g * (2 * n * N) = n * (2 * (g * N)) by grind, e1, Nat.mul_assoc]
    exact Nat.mul_le_mul_left n hh
  · intro f hf
    refine Nat.le_of_mul_le_mul_left (c := g) ?_ hg
    rw [show g * (f * D) = f * (g * D) by grind, e2, show g * (N * n * o * o) = (g * N) * (n * o * o) by grind, e1]
    exact Nat.mul_le_mul_right _ hf
theorem r8Least_nat (s : Nat) (hs : s ≤ 4) (w : World) : Calls Try.prog 31 #[.int .i64 2, .int .i64 (s : Int)] w fun e w' => e = .returned (.int .i64 ((min 2 s : Nat) : Int)) ∧ w = w' := by
  refine (r8Least_any 2 s w).mono fun e w' h => ?_
  obtain ⟨r, h1, h2, h3, rfl, rfl⟩ := h
  exact ⟨ret_int (by omega), rfl⟩
theorem tot_bd {xss : List (List Int)} (h : ∀ i, i < xss.length → (xss.getD i []).length ≤ 4) (hl : xss.length ≤ 64) : tot xss ≤ 1048576 := by
  have key : ∀ (l : List (List Int)), (∀ xs ∈ l, xs.length ≤ 4) → tot l ≤ 4 * l.length := by
    intro l
    induction l with
    | nil => intro _; simp [tot]
    | cons x r ih =>
      intro hh
      have := ih fun y hy => hh y (List.mem_cons_of_mem _ hy)
      have := hh x List.mem_cons_self
      rw [tot_cons, List.length_cons]; omega
  have := key xss fun xs hx => by
    obtain ⟨i, hi, rfl⟩ := List.getElem_of_mem hx
    have := h i hi
    simpa [List.getD, hi] using this
  omega
theorem own_cap {w : World} {B n c : Nat} {A : Option Addr} {xs : List Int} (h : OwnI w B (.slice A n c) xs) (hn : xs.length = n) : n ≤ c := by
  rcases h.2 with ⟨e1, e2⟩ | ⟨g, cap, cur, e, _, hh, h2, _⟩
  · injection e1 with _ e3 _; omega
  · injection e with _ _ e3
    subst e3
    omega
def LRel (n : Nat) (us2 : List Value) (w2 : World) (v i : Value) (wr : World) : Prop :=
  ∃ k : Nat, k ≤ n ∧ i = .int .i64 (k : Int) ∧ Hid (wr.ownsRow w2.heap.size 28 1 v k ((us2.map cut2).take k)) ∧ Hid (Below w2.heap.size w2 wr)
theorem LRel.next {n k : Nat} {us2 : List Value} {w2 W5 w3 : World} {v v' x : Value} {o : Obj} (hk : k < n) (hl : us2.length = n) (hx : cut2 (us2.getD k undef) = x) (hb : Below w2.heap.size w2 W5) (hv : ∀ g, v.ownBlock = some g → w2.heap.size ≤ g)
    (h1 : w3.ownsRow w2.heap.size 28 1 v' (k + 1) ((us2.map cut2).take k ++ [x])) (h2 : (W5.alloc o).drew.grownBy w3 v.ownBlock) : LRel n us2 w2 v' (.int .i64 ((k : Int) + 1)) w3 := by
  refine ⟨k + 1, hk, by simp, Lib.hid ?_, Lib.hid ?_⟩
  · rw [List.take_succ_eq_append_getElem (by simp; omega)]
    have e : (us2.map cut2)[k]'(by simp; omega) = x := by rw [← hx]; simp [List.getD, show k < us2.length by omega]
    rw [e]
    exact h1
  · have y : Below W5.heap.size W5 (W5.alloc o).drew := ((Below.refl _ _).alloc (Nat.le_refl _) _).drew
    exact hb.trans ((y.mono hb.size).trans (grown_below h2 (fun g e => hv g e) (Nat.le_trans hb.size y.size)))
set_option maxHeartbeats 4000000 in
set_option maxRecDepth 100000 in
theorem boundLaw_any (A0 A1 : Option Addr) (c0 c1 : Nat) (zs ys : List Int) (w : World) (hl0 : zs.length ≤ 9223372036854775807) (hl1 : ys.length ≤ 9223372036854775807) (hz0' : ∀ z ∈ zs, 0 ≤ z ∧ z ≤ 255) (hz1' : ∀ z ∈ ys, 0 ≤ z ∧ z ≤ 255) (hx0 : RdB w w.heap.size A0 zs) (hx1 : RdB w w.heap.size A1 ys) :
    Calls Try.prog 7 #[.slice A0 zs.length c0, .slice A1 ys.length c1] w fun e w' => e = .returned (.bool true) ∧ Below w.heap.size w w' := by
  by_cases hlong : 48 < zs.length ∨ 48 < ys.length
  · clear hx0 hx1 hz0' hz1'
    go_enter Try.func7, Try.ntmps7
    go_wp2_with (go_at_call 21; refine (R8.r8Long_yes _ _ _ _ _ _ _ hlong hl0 hl1).mono ?_; rintro e w' ⟨rfl, rfl⟩)
    go_ret
    exact ⟨rfl, Below.refl _ _⟩
  obtain ⟨i1, ji, jz0, jz1, jz2⟩ := info_parts infoS
  have hs0 : zs.length ≤ 48 := by omega
  have hs1 : ys.length ≤ 48 := by omega
  have HNet := Lib.hid (r8Net_any A0 c0 zs w hx0 hs0 hz0')
  have HX1 := Lib.hid hx1
  have HZ1 := Lib.hid hz1'
  clear hx0 hx1 hz0' hz1' hlong
  go_enter Try.func7, Try.ntmps7
  go_wp2_with fail
  refine (R8.r8Long_no _ _ _ _ _ _ _ hs0 hs1).mono ?_
  rintro e w' ⟨rfl, rfl⟩
  go_wp2_with fail
  refine HNet.out.mono ?_
  rintro e w1 ⟨b, A, c, xss, us, rfl, hb5, hl1', hl3, hall, hbit, htot, o1, b1⟩
  have HB1 := Lib.hid b1
  obtain ⟨W1, hW1⟩ : ∃ W1, W1 = w1.alloc (.cells #[.int .i64 b, .slice A xss.length c] 49) := ⟨_, rfl⟩
  have x1 : Below w1.heap.size w1 W1 := by rw [hW1]; exact (Below.refl _ _).alloc (Nat.le_refl _) _
  have hzW : W1.heap.size = w1.heap.size + 1 := by rw [hW1]; simp
  have k1 : RevNet.Box W1 w1.heap.size b (.slice A xss.length c) := by rw [hW1]; exact RevNet.Box.new _ _ _
  have HK1 := Lib.hid k1
  have X1 := Lib.hid x1
  have HW1 := Lib.hid hW1
  have hzz : w1.heap.size < W1.heap.size := by omega
  have HPt := Lib.hid (NetP.implNetPts_any A c W1.heap.size b xss W1 ((o1.below x1).rd) (Nat.le_refl _) (by omega) htot)
  rw [hbit] at HPt
  have HPtL := Lib.hid (show NetP.nptsL b xss = NetP.netL xss (2 ^ b) by rw [NetP.nptsL, if_pos hbit]; simp)
  rw [HPtL.out] at HPt
  have hq0 := k1.c0
  have hq1 := k1.c1
  have HIn := net_pts hall
  have hPl := NetP.netL_len xss (2 ^ b)
  have hpt := NetP.netL_tot xss (2 ^ b)
  have hpw : 2 ^ b ≤ 2 ^ 5 := Nat.pow_le_pow_right (by decide) hb5
  have hpw0 := Nat.two_pow_pos b
  have hcl : ∀ i, i < (cutL (NetP.netL xss (2 ^ b))).length → ((cutL (NetP.netL xss (2 ^ b))).getD i []).length = min 2 xss.length ∧ InB b (min 2 xss.length) ((cutL (NetP.netL xss (2 ^ b))).getD i []) := fun i hi => by
    rw [cutL_len] at hi
    obtain ⟨h1, h2⟩ := HIn i hi
    rw [cutL_get, List.length_take, h1]
    refine ⟨rfl, fun j hj => ?_⟩
    have := h2 j (by omega)
    simpa [List.getD, List.getElem?_take, show j < 2 by omega] using this
  have HPts := Lib.hid (ptsB_of (b := b) (n := min 2 xss.length) (P := cutL (NetP.netL xss (2 ^ b))) (by omega) (by rw [cutL_len, hPl]; omega) (by rw [cutL_len, hPl]; omega) (by omega) (by omega) hcl)
  have HL0 := Lib.hid ((hcl 0 (by rw [cutL_len, hPl]; omega)).1)
  have HTot : Hid (tot (cutL (NetP.netL xss (2 ^ b))) ≤ 1048576) := Lib.hid (tot_bd (fun i hi => by rw [(hcl i hi).1]; omega) (by rw [cutL_len, hPl]; omega))
  have HRl := Lib.hid (fun i hi => (HIn i hi).1)
  clear hall b1 o1 x1 hzW k1 hW1 hbit hpt HIn hcl
  generalize NetP.netL xss (2 ^ b) = P at *
  have hP64 : P.length ≤ 64 := by omega
  have hP1 : 1 ≤ P.length := by omega
  have HPl := Lib.hid hPl
  clear hPl
  have hP0 : ((P.length : Int) == 0) = false := by simp only [beq_eq_false_iff_ne]; omega
  go_wp2_with fail
  rw [← HW1.out]
  refine HPt.out.mono ?_
  rintro e w2 ⟨A2, c2, us2, rfl, o2, b2⟩
  have B2 := Lib.hid b2
  have r0 := (HK1.out.below b2).c0
  have r1 := (HK1.out.below b2).c1
  have hz2' := b2.size
  have HX2 := Lib.hid (HX1.out.below (HB1.out.trans ((Base.Below.nextA X1.out b2).mono HB1.out.size)) (Nat.le_refl _))
  obtain ⟨A', c', e, hf⟩ := ownsRow_form o2.outer
  injection e with e1 e2 e3
  subst e1 e3
  obtain ⟨g, rfl, _, hgl⟩ := hf (by omega)
  have HC : Hid (∀ k, k < P.length → ∃ A1 c1, us2.getD k undef = .slice A1 xss.length c1 ∧ xss.length ≤ c1 ∧ w2.cell? ⟨g, k, none⟩ = some (.slice A1 xss.length c1) ∧ RdI w2 w2.heap.size A1 (P.getD k [])) := Lib.hid fun k hk => by
    have hi := o2.inner k hk
    obtain ⟨A1, c1, e1, _⟩ := hi.form
    have hc := o2.outer.cellAt k (by omega)
    have hu : us2[k]? = some (us2.getD k undef) := by simp [List.getD, show k < us2.length by rw [o2.len]; exact hk]
    rw [e1] at hi
    rw [hu, e1, HRl.out k hk] at hc
    rw [HRl.out k hk] at e1 hi
    exact ⟨A1, c1, e1, own_cap hi (by rw [HRl.out k hk]), hc, hi.rd⟩
  have HUL := Lib.hid o2.len
  clear o2 b2 hq0 hq1 hf
  have hsl : w1.heap.size < w2.heap.size := by omega
  have H0 : Hid (LRel P.length us2 w2 (.slice (some ⟨w2.heap.size, 0, none⟩) 0 0) (.int .i64 0) (w2.alloc (.cells #[] 28))) := Lib.hid ⟨0, Nat.zero_le _, rfl, Lib.hid (World.ownsRow_made w2 #[] 0 (Nat.le_refl _) (Nat.zero_le _) (by simp)), Lib.hid ((Below.refl _ _).alloc (Nat.le_refl _) _)⟩
  go_wp2_with fail
  go_loopw [8, 9] (fun v i wr => LRel P.length us2 w2 v i wr) (fun _ i _ => P.length - (intOf i).toNat)
  case atStart => exact H0.out
  case round =>
    obtain ⟨k, hk, rfl, HO, HB⟩ := hrel
    obtain ⟨wo, rfl⟩ : ∃ x, x = wr := ⟨_, rfl⟩
    clear H0
    have hzo := HB.out.size
    have s0 := (HB.out.cell (p := ⟨w1.heap.size, 0, none⟩) hsl).trans r0
    have s1 := (HB.out.cell (p := ⟨w1.heap.size, 1, none⟩) hsl).trans r1
    clear r0 r1
    by_cases hlt : k < P.length
    · obtain ⟨A3, c3, e3, hc3, g3, R3⟩ := HC.out k hlt
      have t3 := (HB.out.cell (p := ⟨g, k, none⟩) hgl).trans g3
      have E3 := Lib.hid e3
      clear e3 g3 R3
      go_wp2_with fail
      go_quiet (fail)
      go_wp2_with fail
      obtain ⟨W5, hW5⟩ : ∃ W, W = wo.drewN nq := ⟨_, rfl⟩
      rw [← hW5]
      have D5 : Below w2.heap.size w2 W5 := by rw [hW5]; exact below_drewN HB.out nq
      have z5 : W5.heap.size = wo.heap.size := by rw [hW5]; rfl
      have t5 := (D5.cell (p := ⟨g, k, none⟩) hgl).trans (HC.out k hlt).choose_spec.choose_spec.2.2.1
      have O5 := World.ownsRow.alloc (show W5.ownsRow w2.heap.size 28 1 u8 k ((us2.map cut2).take k) by rw [hW5]; exact ownsRow_below HO.out (below_drewN (Below.refl _ _) nq)) (.cells #[.slice A3 (min 2 xss.length) c3] 28)
      have HO5 := Lib.hid O5
      have hown5 : W5.ownsRow w2.heap.size 28 1 u8 k ((us2.map cut2).take k) := by rw [hW5]; exact ownsRow_below HO.out (below_drewN (Below.refl _ _) nq)
      have hgn : ∀ gg, u8.ownBlock = some gg → w2.heap.size ≤ gg := fun gg he => by
        obtain ⟨_, _, h1, _⟩ := ownsRow_block hown5 he
        exact h1
      have t5' : W5.cell? ⟨g, k, none⟩ = some (.slice A3 xss.length c3) := by rw [hW5]; exact ((below_drewN (Below.refl wo.heap.size wo) nq).cell (p := ⟨g, k, none⟩) (show g < wo.heap.size by omega)).trans t3
      have hgne : u8.ownBlock ≠ some g := fun he => by have := hgn g he; omega
      have hm2 : min 2 xss.length ≤ c3 := by omega
      have HNx := Lib.hid (fun v' w3 (h1 : w3.ownsRow w2.heap.size 28 1 v' (k + 1) ((us2.map cut2).take k ++ [.slice A3 (min 2 xss.length) c3])) (h2 : (W5.alloc (.cells #[.slice A3 (min 2 xss.length) c3] 28)).drew.grownBy w3 u8.ownBlock) => LRel.next (n := P.length) hlt HUL.out (by rw [E3.out]; rfl) D5 hgn h1 h2)
      have lz5 : w2.heap.size ≤ W5.heap.size := D5.size
      have hg5 : g < W5.heap.size := by omega
      have HLe := Lib.hid (fun W => r8Least_nat xss.length (by omega) W)
      clear O5 hW5 D5 t5 t3 hown5
      generalize min 2 xss.length = m2 at *
      go_region_held3 (fun w' => w'.cell? ⟨g, k, none⟩ = some (.slice A3 xss.length c3))
        (first
          | go_keep
          | (rw [hgrow.cell_far _ (by simp; omega) (Ne.symm hgne)]; assumption))
        (first
          | (go_at_call 31; refine (HLe.out _).mono ?_; rintro e w' ⟨rfl, rfl⟩)
          | (refine step_append_lies _ (by rfl) _ _ _ (by rfl) w2.heap.size 28 i1 _ 1 24 Try.underlying42 ji jz0 jz1 jz2 rfl (by omega) u8 k _ (by rfl) ((HO5.out).drew)
              ⟨W5.heap.size, 0, none⟩ 1 1 [.slice A3 m2 c3] (by first | rfl | (simp [Act.eval]; done)) (by rfl) (World.news_of_block (cs := #[.slice A3 m2 c3]) (t := 28) (fr := (0, 0)) (heap_alloc_new W5 _)) one_slice
              (by omega) (by simp only [maxLen]; omega) (by omega) (by simp; omega) (W5.heap.size + 1) (by simp) ?_; intro gg cap w6 hown1 hgrow hat hlt2))
      have HQ2 := Lib.hid (HNx.out _ w6 hown1 hgrow)
      clear hown1 hgrow hat
      go_wp2
      go_roundw
      case rel => exact HQ2.out
      case measure => simp [intOf]; omega
    · obtain rfl : k = P.length := by omega
      have hO := HO.out
      rw [List.take_of_length_le (by rw [List.length_map, HUL.out]; exact Nat.le_refl _)] at hO
      obtain ⟨A7, c7, e7, hf7⟩ := ownsRow_form hO
      subst e7
      obtain ⟨g7, rfl, _, hg7⟩ := hf7 hP1
      have hRd : RdII wo wo.heap.size (some ⟨g7, 0, none⟩) (cutL P) := fun _ => by
        refine ⟨g7, 0, rfl, hg7, fun i hi => ?_⟩
        rw [cutL_len] at hi
        obtain ⟨A1, c1, e1, _, _, r1⟩ := HC.out i hi
        have hc := hO.cellAt i (by omega)
        have hu : (us2.map cut2)[i]? = some (cut2 (us2.getD i undef)) := by simp [List.getD, show i < us2.length by rw [HUL.out]; exact hi]
        refine ⟨A1, c1, ?_, ?_⟩
        · rw [Nat.zero_add, hc, hu, e1, cutL_get, List.length_take, HRl.out i hi]; rfl
        · rw [cutL_get]; exact RdI.cut ((r1.below HB.out (Nat.le_refl _)).more HB.out.size)
      have HSt := Lib.hid (implStar_yes (some ⟨g7, 0, none⟩) c7 wo.heap.size b (cutL P) wo hRd (Nat.le_refl _) (by rw [cutL_len]; omega) HTot.out HPts.out (by rw [HL0.out]; omega))
      obtain ⟨bb, off, e8, hp, hbd⟩ := pts_of hRd HPts.out HL0.out
      injection e8 with e8
      injection e8 with e8 e9 _
      subst e8 e9
      rw [cutL_len, HL0.out] at HSt
      rw [cutL_len] at hp hbd
      have RX := Lib.hid ((HX2.out.below HB.out (by have := HB1.out.size; omega)))
      have BW := Lib.hid ((HB1.out.trans ((Base.Below.nextA X1.out B2.out).mono HB1.out.size)).trans (HB.out.mono (by have := HB1.out.size; omega)))
      have hz0 : w.heap.size ≤ wo.heap.size := BW.out.size
      have hsl' : w1.heap.size < wo.heap.size := by omega
      have hm : min 2 xss.length = 1 ∨ min 2 xss.length = 2 := by omega
      clear HC HO HB hO hf7 hRd s1 HX2 HX1 X1 B2 HB1 HPt HPtL HPts HTot HRl HK1 HW1 HL0 HUL HNet
      generalize pa (cutL P) = pa at *
      have hpb0 : ∀ k, pb false (cutL P) k = 0 := fun _ => rfl
      have hoP : P.length = 2 ^ b := HPl.out
      clear HPl
      rcases hm with hm | hm
      · rw [hm] at HSt hp hbd
        rw [show decide ((1 : Nat) = 2) = false from rfl] at HSt hp hbd
        generalize pb false (cutL P) = pb at *
        generalize P.length = n at *
        have ho : ((2 ^ b : Nat) : Int) = (2 : Int) ^ b := by simp
        have hVb := allS_bd (two := false) (pa := pa) (pb := pb) (n := n) (o := 2 ^ b) (2 ^ b + 1) (Nat.le_refl _)
        have hhalf := half (two := false) (pa := pa) (pb := pb) (n := n) (o := 2 ^ b) (by omega) (Nat.le_of_lt (hbd 0 (by omega)).1) (Nat.le_of_lt (hbd 0 (by omega)).2)
        have HGe := Lib.hid (fun x y hx hy h => all_ge (two := false) (pa := pa) (pb := pb) (n := n) (o := 2 ^ b) (x := x) (y := y) hy h (2 ^ b + 1) hx (Nat.le_refl _))
        obtain ⟨V, hV⟩ := Int.eq_ofNat_of_zero_le hVb.1
        rw [hV] at hVb hhalf HGe HSt
        rw [Int.toNat_natCast] at HSt
        have ho32 : 2 ^ b ≤ 32 := hpw
        have hUb : n * 2 ^ b * 2 ^ b ≤ 262144 := by
          have := Nat.mul_le_mul (Nat.mul_le_mul hP64 ho32) ho32
          omega
        have HLaw := Lib.hid (law_of (V := V) (n := n) (o := 2 ^ b) (Int.ofNat_le.1 hVb.2) (by have h9 : ((2 ^ b * 2 ^ b : Nat) : Int) ≤ 2 * (V : Int) := hhalf; omega) (by omega) hpw0 hUb)
        unfold StarRet fracV at HSt
        generalize V / Nat.gcd V (n * 2 ^ b * 2 ^ b) = N at *
        generalize n * 2 ^ b * 2 ^ b / Nat.gcd V (n * 2 ^ b * 2 ^ b) = D at *
        have HP7 := Lib.hid hp
        clear hV hVb hhalf hUb hp hbd hoP hpw
        go_wp2_with fail
        refine HSt.out.mono ?_
        rintro e w3 ⟨rfl, hb3⟩
        obtain ⟨W3, hW3⟩ : ∃ W, W = w3.alloc (.cells #[.int .i64 (N : Int), .int .i64 (D : Int)] 23) := ⟨_, rfl⟩
        have y3 : Below wo.heap.size wo W3 := by rw [hW3]; exact hb3.trans (((Below.refl w3.heap.size w3).alloc (Nat.le_refl _) _).mono hb3.size)
        have d0 : W3.cell? ⟨w3.heap.size, 0, none⟩ = some (.int .i64 (N : Int)) := by rw [hW3]; exact World.cell?_alloc_new w3 _ _ 0
        have d1 : W3.cell? ⟨w3.heap.size, 1, none⟩ = some (.int .i64 (D : Int)) := by rw [hW3]; exact World.cell?_alloc_new w3 _ _ 1
        have r0 := (y3.cell (p := ⟨w1.heap.size, 0, none⟩) hsl').trans s0
        have HP3 := Lib.hid (HP7.out.below y3 (Nat.le_refl _))
        have RY := Lib.hid (RX.out.below y3 hz0)
        have BE := Lib.hid (BW.out.trans (y3.mono hz0))
        have hlt3 : w1.heap.size < w3.heap.size := Nat.lt_of_lt_of_le hsl' hb3.size
        have t0 := (hb3.cell (p := ⟨w1.heap.size, 0, none⟩) hsl').trans s0
        obtain ⟨l1, l2, l3, l4, l5⟩ := HLaw.out
        have HAll := Lib.hid l4
        obtain ⟨X2, hX2⟩ : ∃ X, 2 * n = X := ⟨_, rfl⟩
        obtain ⟨X3, hX3⟩ : ∃ X, X2 * N = X := ⟨_, rfl⟩
        have m2 : (2 : Int) * (n : Int) = (X2 : Int) := by rw [← hX2]; simp
        have m3 : (X2 : Int) * (N : Int) = (X3 : Int) := by rw [← hX3]; simp
        have m3b : X3 ≤ 128 * 262144 := by rw [← hX3]; exact Nat.mul_le_mul (by omega) (by omega)
        have l3' : D ≤ X3 := by rw [← hX3, ← hX2]; exact l3
        have hpi1 : (1 : Int) ≤ (2 : Int) ^ b := by omega
        have hpi2 : (2 : Int) ^ b ≤ 64 := by omega
        have HW3 := Lib.hid hW3
        clear l3 l4 hX2 hX3 hW3 HSt HLaw y3 hb3 s0 HP7 RX BW
        go_wp2_with fail
        rw [← HW3.out]
        refine (R8.r8At_any A1 c1 _ ys 0 _ _ HZ1.out hl1 RY.out (by decide)).mono ?_
        rintro e w' ⟨x, hx0, hx1, rfl, rfl⟩
        clear t0
        go_wp2_with fail
        refine (R8.r8At_any A1 c1 _ ys 1 _ _ HZ1.out hl1 RY.out (by decide)).mono ?_
        rintro e w' ⟨y, hy0, hy1, rfl, rfl⟩
        obtain ⟨x, rfl⟩ := Int.eq_ofNat_of_zero_le hx0
        obtain ⟨y, rfl⟩ := Int.eq_ofNat_of_zero_le hy0
        rw [← ho] at *
        generalize 2 ^ b = o at *
        have hxo : x ≤ o := by omega
        have hyo : y ≤ o := by omega
        have ho64 : o ≤ 64 := by omega
        clear hx1 hy1 hx0 hy0 hpi1 hpi2 ho
        go_wp2_with fail
        go_loop [16, 17] (fun iv kv => ∃ k : Nat, k ≤ n ∧ kv = .int .i64 (k : Int) ∧ iv = .int .i64 ((cO pa pb x o k : Nat) : Int)) (fun _ kv => n - (intOf kv).toNat)
        case atStart => exact ⟨0, Nat.zero_le _, rfl, rfl⟩
        case round =>
          obtain ⟨k, hk, rfl, rfl⟩ := hrel
          have q1 := cO_le pa pb x o k
          by_cases hkt : k < n
          · obtain ⟨b3, o3, c3, _, g3, g4, g5⟩ := HP3.out.2 k hkt
            have hd0 := hpb0 k
            have hki : (n : Int) ≤ 64 := by omega
            have HO : Hid (cO pa pb x o (k + 1) = cO pa pb x o k + if pa k < x ∧ pb k < o then 1 else 0) := Lib.hid rfl
            clear HGe HAll
            generalize cO pa pb x o k = Q at *
            generalize pa k = a at *
            generalize pb k = d at *
            rw [Nat.zero_add] at g3
            have h2 := hd0
            rcases cmp3 a x with ⟨h1, k1, k2⟩ | ⟨h1, k1, k2⟩ | ⟨h1, k1, k2⟩
            all_goals
              have HH := Lib.hid (And.intro h1 h2)
              clear h1 h2
              go_wp2
              go_round
              case rel => exact ⟨k + 1, hkt, by go_num, by rw [HO.out]; have := HH.out; split <;> first | go_num | (exfalso; omega)⟩
              case measure => simp [intOf]; omega
          · obtain rfl : k = n := by omega
            obtain ⟨b3, o3, c3, _, g3, _, _⟩ := HP3.out.2 0 (by omega)
            rw [Nat.zero_add] at g3
            have hge := HGe.out x o (by omega) (Nat.le_refl _) (by simp)
            have hcc := cO_cC pa pb x o k
            have hcc2 : cO pa pb x o k * o * o ≤ cC pa pb x o k * o * o := coo_le hcc
            obtain ⟨A1', A2', e1, e2, i1, i2, eA⟩ := prod3 x o k (by omega) (by omega) hP64
            obtain ⟨Q1, Q, e3, e4, i3, i4, eQ⟩ := prod3 (cO pa pb x o k) o o (by omega) ho64 ho64
            rw [eA, eQ] at hge
            rw [eQ] at hcc2
            generalize cC pa pb x o k * o * o = R at *
            generalize cO pa pb x o k = q at *
            have hfv : ∃ F : Nat, F ≤ V ∧ F ≤ 262144 ∧ ((A2' < Q ∧ (F : Int) = (Q : Int) - A2') ∨ (¬ A2' < Q ∧ (F : Int) = (A2' : Int) - Q)) := by
              by_cases hs : A2' < Q
              · exact ⟨Q - A2', by omega, by omega, .inl ⟨hs, by omega⟩⟩
              · exact ⟨A2' - Q, by omega, by omega, .inr ⟨hs, by omega⟩⟩
            obtain ⟨F, hF, hFb, hF2⟩ := hfv
            have hla := HAll.out F hF
            obtain ⟨Z1, hZ1⟩ : ∃ Z, F * D = Z := ⟨_, rfl⟩
            obtain ⟨Z2, hZ2⟩ : ∃ Z, N * k = Z := ⟨_, rfl⟩
            obtain ⟨Z3, hZ3⟩ : ∃ Z, Z2 * o = Z := ⟨_, rfl⟩
            obtain ⟨Z4, hZ4⟩ : ∃ Z, Z3 * o = Z := ⟨_, rfl⟩
            rw [hZ1, hZ2, hZ3, hZ4] at hla
            have k1 : Z1 ≤ 262144 * 262144 := by rw [← hZ1]; exact Nat.mul_le_mul hFb l5
            have k2 : Z2 ≤ 262144 * 64 := by rw [← hZ2]; exact Nat.mul_le_mul (by omega) hP64
            have k3 : Z3 ≤ 262144 * 64 * 64 := by rw [← hZ3]; exact Nat.mul_le_mul k2 ho64
            have k4 : Z4 ≤ 262144 * 64 * 64 * 64 := by rw [← hZ4]; exact Nat.mul_le_mul k3 ho64
            have n1 : (F : Int) * (D : Int) = (Z1 : Int) := by rw [← hZ1]; simp
            have n2 : (N : Int) * (k : Int) = (Z2 : Int) := by rw [← hZ2]; simp
            have n3 : (Z2 : Int) * (o : Int) = (Z3 : Int) := by rw [← hZ3]; simp
            have n4 : (Z3 : Int) * (o : Int) = (Z4 : Int) := by rw [← hZ4]; simp
            have hfin : (Z1 : Int) ≤ (Z4 : Int) := by omega
            have hki : (k : Int) ≤ 64 := by omega
            skip
            clear hZ1 hZ2 hZ3 hZ4 HAll HGe hge hcc hcc2 eA eQ
            rcases hF2 with ⟨hs, hFe⟩ | ⟨hs, hFe⟩
            · have hneg : (A2' : Int) - (Q : Int) < 0 := by omega
              have hFn : -((A2' : Int) - (Q : Int)) = (F : Int) := by omega
              have hFn2 : (Q : Int) - (A2' : Int) = (F : Int) := by omega
              clear hFe
              go_wp2
              go_ret
              exact ⟨rfl, BE.out⟩
            · have hneg : ¬ ((A2' : Int) - (Q : Int) < 0) := by omega
              have hFn : (A2' : Int) - (Q : Int) = (F : Int) := by omega
              clear hFe
              go_wp2
              go_ret
              exact ⟨rfl, BE.out⟩
      · rw [hm] at HSt hp hbd
        rw [show decide ((2 : Nat) = 2) = true from rfl] at HSt hp hbd
        clear hpb0
        generalize pb true (cutL P) = pb at *
        generalize P.length = n at *
        have ho : ((2 ^ b : Nat) : Int) = (2 : Int) ^ b := by simp
        have hVb := allS_bd (two := true) (pa := pa) (pb := pb) (n := n) (o := 2 ^ b) (2 ^ b + 1) (Nat.le_refl _)
        have hhalf := half (two := true) (pa := pa) (pb := pb) (n := n) (o := 2 ^ b) (by omega) (Nat.le_of_lt (hbd 0 (by omega)).1) (Nat.le_of_lt (hbd 0 (by omega)).2)
        have HGe := Lib.hid (fun x y hx hy h => all_ge (two := true) (pa := pa) (pb := pb) (n := n) (o := 2 ^ b) (x := x) (y := y) hy h (2 ^ b + 1) hx (Nat.le_refl _))
        obtain ⟨V, hV⟩ := Int.eq_ofNat_of_zero_le hVb.1
        rw [hV] at hVb hhalf HGe HSt
        rw [Int.toNat_natCast] at HSt
        have ho32 : 2 ^ b ≤ 32 := hpw
        have hUb : n * 2 ^ b * 2 ^ b ≤ 262144 := by
          have := Nat.mul_le_mul (Nat.mul_le_mul hP64 ho32) ho32
          omega
        have HLaw := Lib.hid (law_of (V := V) (n := n) (o := 2 ^ b) (Int.ofNat_le.1 hVb.2) (by have h9 : ((2 ^ b * 2 ^ b : Nat) : Int) ≤ 2 * (V : Int) := hhalf; omega) (by omega) hpw0 hUb)
        unfold StarRet fracV at HSt
        generalize V / Nat.gcd V (n * 2 ^ b * 2 ^ b) = N at *
        generalize n * 2 ^ b * 2 ^ b / Nat.gcd V (n * 2 ^ b * 2 ^ b) = D at *
        have HP7 := Lib.hid hp
        clear hV hVb hhalf hUb hp hbd hoP hpw
        go_wp2_with fail
        refine HSt.out.mono ?_
        rintro e w3 ⟨rfl, hb3⟩
        obtain ⟨W3, hW3⟩ : ∃ W, W = w3.alloc (.cells #[.int .i64 (N : Int), .int .i64 (D : Int)] 23) := ⟨_, rfl⟩
        have y3 : Below wo.heap.size wo W3 := by rw [hW3]; exact hb3.trans (((Below.refl w3.heap.size w3).alloc (Nat.le_refl _) _).mono hb3.size)
        have d0 : W3.cell? ⟨w3.heap.size, 0, none⟩ = some (.int .i64 (N : Int)) := by rw [hW3]; exact World.cell?_alloc_new w3 _ _ 0
        have d1 : W3.cell? ⟨w3.heap.size, 1, none⟩ = some (.int .i64 (D : Int)) := by rw [hW3]; exact World.cell?_alloc_new w3 _ _ 1
        have r0 := (y3.cell (p := ⟨w1.heap.size, 0, none⟩) hsl').trans s0
        have HP3 := Lib.hid (HP7.out.below y3 (Nat.le_refl _))
        have RY := Lib.hid (RX.out.below y3 hz0)
        have BE := Lib.hid (BW.out.trans (y3.mono hz0))
        have hlt3 : w1.heap.size < w3.heap.size := Nat.lt_of_lt_of_le hsl' hb3.size
        have t0 := (hb3.cell (p := ⟨w1.heap.size, 0, none⟩) hsl').trans s0
        obtain ⟨l1, l2, l3, l4, l5⟩ := HLaw.out
        have HAll := Lib.hid l4
        obtain ⟨X2, hX2⟩ : ∃ X, 2 * n = X := ⟨_, rfl⟩
        obtain ⟨X3, hX3⟩ : ∃ X, X2 * N = X := ⟨_, rfl⟩
        have m2 : (2 : Int) * (n : Int) = (X2 : Int) := by rw [← hX2]; simp
        have m3 : (X2 : Int) * (N : Int) = (X3 : Int) := by rw [← hX3]; simp
        have m3b : X3 ≤ 128 * 262144 := by rw [← hX3]; exact Nat.mul_le_mul (by omega) (by omega)
        have l3' : D ≤ X3 := by rw [← hX3, ← hX2]; exact l3
        have hpi1 : (1 : Int) ≤ (2 : Int) ^ b := by omega
        have hpi2 : (2 : Int) ^ b ≤ 64 := by omega
        have HW3 := Lib.hid hW3
        clear l3 l4 hX2 hX3 hW3 HSt HLaw y3 hb3 s0 HP7 RX BW
        go_wp2_with fail
        rw [← HW3.out]
        refine (R8.r8At_any A1 c1 _ ys 0 _ _ HZ1.out hl1 RY.out (by decide)).mono ?_
        rintro e w' ⟨x, hx0, hx1, rfl, rfl⟩
        clear t0
        go_wp2_with fail
        refine (R8.r8At_any A1 c1 _ ys 1 _ _ HZ1.out hl1 RY.out (by decide)).mono ?_
        rintro e w' ⟨y, hy0, hy1, rfl, rfl⟩
        obtain ⟨x, rfl⟩ := Int.eq_ofNat_of_zero_le hx0
        obtain ⟨y, rfl⟩ := Int.eq_ofNat_of_zero_le hy0
        rw [← ho] at *
        generalize 2 ^ b = o at *
        have hxo : x ≤ o := by omega
        have hyo : y ≤ o := by omega
        have ho64 : o ≤ 64 := by omega
        clear hx1 hy1 hx0 hy0 hpi1 hpi2 ho
        go_wp2_with fail
        go_loop [16, 17] (fun iv kv => ∃ k : Nat, k ≤ n ∧ kv = .int .i64 (k : Int) ∧ iv = .int .i64 ((cO pa pb x y k : Nat) : Int)) (fun _ kv => n - (intOf kv).toNat)
        case atStart => exact ⟨0, Nat.zero_le _, rfl, rfl⟩
        case round =>
          obtain ⟨k, hk, rfl, rfl⟩ := hrel
          have q1 := cO_le pa pb x y k
          by_cases hkt : k < n
          · obtain ⟨b3, o3, c3, _, g3, g4, g5⟩ := HP3.out.2 k hkt
            have g5 := g5 rfl
            have hki : (n : Int) ≤ 64 := by omega
            have HO : Hid (cO pa pb x y (k + 1) = cO pa pb x y k + if pa k < x ∧ pb k < y then 1 else 0) := Lib.hid rfl
            clear HGe HAll
            generalize cO pa pb x y k = Q at *
            generalize pa k = a at *
            generalize pb k = d at *
            rw [Nat.zero_add] at g3
            rcases cmp3 a x with ⟨h1, k1, k2⟩ | ⟨h1, k1, k2⟩ | ⟨h1, k1, k2⟩ <;> rcases cmp3 d y with ⟨h2, k3, k4⟩ | ⟨h2, k3, k4⟩ | ⟨h2, k3, k4⟩
            all_goals
              have HH := Lib.hid (And.intro h1 h2)
              clear h1 h2
              go_wp2
              go_round
              case rel => exact ⟨k + 1, hkt, by go_num, by rw [HO.out]; have := HH.out; split <;> first | go_num | (exfalso; omega)⟩
              case measure => simp [intOf]; omega
          · obtain rfl : k = n := by omega
            obtain ⟨b3, o3, c3, _, g3, _, _⟩ := HP3.out.2 0 (by omega)
            rw [Nat.zero_add] at g3
            have hge := HGe.out x y (by omega) hyo (by simp)
            have hcc := cO_cC pa pb x y k
            have hcc2 : cO pa pb x y k * o * o ≤ cC pa pb x y k * o * o := coo_le hcc
            obtain ⟨A1', A2', e1, e2, i1, i2, eA⟩ := prod3 x y k (by omega) (by omega) hP64
            obtain ⟨Q1, Q, e3, e4, i3, i4, eQ⟩ := prod3 (cO pa pb x y k) o o (by omega) ho64 ho64
            rw [eA, eQ] at hge
            rw [eQ] at hcc2
            generalize cC pa pb x y k * o * o = R at *
            generalize cO pa pb x y k = q at *
            have hfv : ∃ F : Nat, F ≤ V ∧ F ≤ 262144 ∧ ((A2' < Q ∧ (F : Int) = (Q : Int) - A2') ∨ (¬ A2' < Q ∧ (F : Int) = (A2' : Int) - Q)) := by
              by_cases hs : A2' < Q
              · exact ⟨Q - A2', by omega, by omega, .inl ⟨hs, by omega⟩⟩
              · exact ⟨A2' - Q, by omega, by omega, .inr ⟨hs, by omega⟩⟩
            obtain ⟨F, hF, hFb, hF2⟩ := hfv
            have hla := HAll.out F hF
            obtain ⟨Z1, hZ1⟩ : ∃ Z, F * D = Z := ⟨_, rfl⟩
            obtain ⟨Z2, hZ2⟩ : ∃ Z, N * k = Z := ⟨_, rfl⟩
            obtain ⟨Z3, hZ3⟩ : ∃ Z, Z2 * o = Z := ⟨_, rfl⟩
            obtain ⟨Z4, hZ4⟩ : ∃ Z, Z3 * o = Z := ⟨_, rfl⟩
            rw [hZ1, hZ2, hZ3, hZ4] at hla
            have k1 : Z1 ≤ 262144 * 262144 := by rw [← hZ1]; exact Nat.mul_le_mul hFb l5
            have k2 : Z2 ≤ 262144 * 64 := by rw [← hZ2]; exact Nat.mul_le_mul (by omega) hP64
            have k3 : Z3 ≤ 262144 * 64 * 64 := by rw [← hZ3]; exact Nat.mul_le_mul k2 ho64
            have k4 : Z4 ≤ 262144 * 64 * 64 * 64 := by rw [← hZ4]; exact Nat.mul_le_mul k3 ho64
            have n1 : (F : Int) * (D : Int) = (Z1 : Int) := by rw [← hZ1]; simp
            have n2 : (N : Int) * (k : Int) = (Z2 : Int) := by rw [← hZ2]; simp
            have n3 : (Z2 : Int) * (o : Int) = (Z3 : Int) := by rw [← hZ3]; simp
            have n4 : (Z3 : Int) * (o : Int) = (Z4 : Int) := by rw [← hZ4]; simp
            have hfin : (Z1 : Int) ≤ (Z4 : Int) := by omega
            have hki : (k : Int) ≤ 64 := by omega
            obtain ⟨X0, e0, i0, _⟩ := prod2 x o (by omega) ho64
            clear hZ1 hZ2 hZ3 hZ4 HAll HGe hge hcc hcc2 eA eQ
            rcases hF2 with ⟨hs, hFe⟩ | ⟨hs, hFe⟩
            · have hneg : (A2' : Int) - (Q : Int) < 0 := by omega
              have hFn : -((A2' : Int) - (Q : Int)) = (F : Int) := by omega
              have hFn2 : (Q : Int) - (A2' : Int) = (F : Int) := by omega
              clear hFe
              go_wp2
              go_ret
              exact ⟨rfl, BE.out⟩
            · have hneg : ¬ ((A2' : Int) - (Q : Int) < 0) := by omega
              have hFn : (A2' : Int) - (Q : Int) = (F : Int) := by omega
              clear hFe
              go_wp2
              go_ret
              exact ⟨rfl, BE.out⟩
/-- an argument of bytes of each -/
theorem boundLaw_v {w : World} {v u : Value} (h : Open.IsBytes w v) (h' : Open.IsBytes w u) : Calls Try.prog 7 #[v, u] w fun e w' => e = .returned (.bool true) ∧ Below w.heap.size w w' := by
  obtain ⟨A, c, zs, rfl, hl, hz, hx⟩ := h.ex
  obtain ⟨A', c', ys, rfl, hl', hz', hx'⟩ := h'.ex
  exact boundLaw_any A A' c c' zs ys w hl hl' hz hz' hx hx'
end Go.Proofs.Ytjkcdnfmmfpbjaa.StarB

/- The counts of boxes, of the program and of the reference. -/
import Derived.Test.YtjkcdnfmmfpbjaaCuts
import Derived.Test.YtjkcdnfmmfpbjaaCopy
namespace Go.Proofs.Ytjkcdnfmmfpbjaa.Box
open Go.RowKit Go.Proofs.Ytjkcdnfmmfpbjaa Go.Proofs.Ytjkcdnfmmfpbjaa.Base Go.Proofs.Ytjkcdnfmmfpbjaa.Mem Go.Proofs.Ytjkcdnfmmfpbjaa.AllIn Go.Proofs.Ytjkcdnfmmfpbjaa.Pts Go.Proofs.Ytjkcdnfmmfpbjaa.RevNet Go.Proofs.Ytjkcdnfmmfpbjaa.Bits Go.Proofs.Ytjkcdnfmmfpbjaa.Cuts Go.Proofs.Ytjkcdnfmmfpbjaa.Cpy
set_option linter.unusedVariables false
/-- the box of a point, by the first d coordinates -/
def boxTo (b : Nat) (xs ys : List Int) : Nat → Nat
  | 0 => 0
  | d + 1 => boxTo b xs ys d * 2 ^ (ys.getD d 0).toNat ||| (xs.getD d 0).toNat / 2 ^ (b - (ys.getD d 0).toNat)
theorem part_lt {b x c : Nat} (hx : x < 2 ^ b) (hc : c ≤ b) : x / 2 ^ (b - c) < 2 ^ c := by
  rw [Nat.div_lt_iff_lt_mul (Nat.two_pow_pos _), ← Nat.pow_add, show c + (b - c) = b by omega]
  exact hx
theorem boxTo_lt {b : Nat} {xs ys : List Int} (hx : ∀ j, j < ys.length → 0 ≤ xs.getD j 0 ∧ xs.getD j 0 ≤ (2 : Int) ^ b - 1) (hy : ∀ j, j < ys.length → 0 ≤ ys.getD j 0 ∧ ys.getD j 0 ≤ b) : ∀ d, d ≤ ys.length → boxTo b xs ys d < 2 ^ (sumTo ys d).toNat
  | 0, _ => by simp [boxTo, sumTo]
  | d + 1, hd => by
    have h1 := boxTo_lt hx hy d (by omega)
    obtain ⟨x0, x1⟩ := hx d (by omega)
    obtain ⟨y0, y1⟩ := hy d (by omega)
    have hs := (sumTo_bd hy d (by omega)).1
    have e : (sumTo ys (d + 1)).toNat = (sumTo ys d).toNat + (ys.getD d 0).toNat := by rw [sumTo]; omega
    have ep : ((2 ^ b : Nat) : Int) = (2 : Int) ^ b := by simp
    have h2 : (xs.getD d 0).toNat / 2 ^ (b - (ys.getD d 0).toNat) < 2 ^ (ys.getD d 0).toNat := part_lt (by omega) (by omega)
    rw [boxTo, e, Nat.pow_add]
    have h3 : boxTo b xs ys d * 2 ^ (ys.getD d 0).toNat < 2 ^ (sumTo ys d).toNat * 2 ^ (ys.getD d 0).toNat := Nat.mul_lt_mul_of_pos_right h1 (Nat.two_pow_pos _)
    rw [← Nat.pow_add] at h3 ⊢
    exact Nat.or_lt_two_pow h3 (Nat.lt_of_lt_of_le h2 (Nat.pow_le_pow_right (by decide) (by omega)))
theorem or_int {q r : Nat} (hq : q < 64) (hr : r < 64) : bits .or .i64 (wrap64 (q : Int)) (r : Int) = ((q ||| r : Nat) : Int) := by
  have e2 : wrap64 ((q : Nat) : Int) = ((q : Nat) : Int) := by simp only [wrap64]; omega
  rw [e2, i64_or_nat _ _ (by omega) (by omega)]
theorem box_int {m s c x b : Nat} (hm : m < 2 ^ s) (hs : s + c ≤ 6) (hx : x < 2 ^ b) (hb : b ≤ 6) : bits .or .i64 (wrap64 ((m : Int) * (2 : Int) ^ c)) ((x : Int) / (2 : Int) ^ (b - c)) = ((m * 2 ^ c ||| x / 2 ^ (b - c) : Nat) : Int) := by
  have h1 : m * 2 ^ c < 2 ^ s * 2 ^ c := Nat.mul_lt_mul_of_pos_right hm (Nat.two_pow_pos _)
  rw [← Nat.pow_add] at h1
  have h2 : 2 ^ (s + c) ≤ 2 ^ 6 := Nat.pow_le_pow_right (by decide) hs
  have h3 : x / 2 ^ (b - c) ≤ x := Nat.div_le_self _ _
  have h4 : 2 ^ b ≤ 2 ^ 6 := Nat.pow_le_pow_right (by decide) hb
  have e : (m : Int) * (2 : Int) ^ c = ((m * 2 ^ c : Nat) : Int) := by simp
  have e1 : (x : Int) / (2 : Int) ^ (b - c) = ((x / 2 ^ (b - c) : Nat) : Int) := by simp
  rw [e, e1]
  exact or_int (Nat.lt_of_lt_of_le h1 h2) (Nat.lt_of_le_of_lt h3 (Nat.lt_of_lt_of_le hx h4))
/-- the counts behind k points -/
def cntL (b : Nat) (xss : List (List Int)) (ys : List Int) : Nat → List Int
  | 0 => List.replicate (2 ^ (sumTo ys ys.length).toNat) 0
  | k + 1 => (cntL b xss ys k).set (boxTo b (xss.getD k []) ys ys.length) ((cntL b xss ys k).getD (boxTo b (xss.getD k []) ys ys.length) 0 + 1)
theorem cntL_len (b : Nat) (xss : List (List Int)) (ys : List Int) : ∀ k, (cntL b xss ys k).length = 2 ^ (sumTo ys ys.length).toNat
  | 0 => by simp [cntL]
  | k + 1 => by rw [cntL, List.length_set, cntL_len]
theorem getD_set (l : List Int) (i j : Nat) (v : Int) : (l.set i v).getD j 0 = if i = j ∧ j < l.length then v else l.getD j 0 := by
  simp only [List.getD, List.getElem?_set]
  by_cases h : i = j
  · subst h
    by_cases h2 : i < l.length
    · simp [h2]
    · simp [h2]
  · simp [h]
theorem cntL_bd (b : Nat) (xss : List (List Int)) (ys : List Int) : ∀ k i, 0 ≤ (cntL b xss ys k).getD i 0 ∧ (cntL b xss ys k).getD i 0 ≤ k
  | 0, i => by
    have : (cntL b xss ys 0).getD i 0 = 0 := by
      simp only [cntL, List.getD, List.getElem?_replicate]
      split <;> rfl
    rw [this]; simp
  | k + 1, i => by
    have h1 := cntL_bd b xss ys k i
    have h2 := cntL_bd b xss ys k (boxTo b (xss.getD k []) ys ys.length)
    rw [cntL, getD_set]
    split <;> omega
def CRel (b g : Nat) (xss : List (List Int)) (ys : List Int) (n : Nat) (w : World) (i : Value) (wr : World) : Prop :=
  ∃ k : Nat, k ≤ xss.length ∧ i = .int .i64 (k : Int) ∧ wr.ownsRow w.heap.size 2 1 (.slice (some ⟨g, 0, none⟩) n n) n (ints (cntL b xss ys k)) ∧ Below w.heap.size w wr
theorem CRel.start (b : Nat) (xss : List (List Int)) (ys : List Int) (n : Nat) (w : World) (hn : n = 2 ^ (sumTo ys ys.length).toNat) (hm : n ≤ 64) : CRel b w.heap.size xss ys n w (.int .i64 0) (w.alloc (.cells (madeCells #[.int .i64 0] n) 2)) := by
  refine ⟨0, Nat.zero_le _, rfl, ?_, (Below.refl _ _).alloc (Nat.le_refl _) _⟩
  have := World.ownsRow_lit (e := 2) (size := 1) (base := w.heap.size) w (madeCells #[.int .i64 0] n) n (Nat.le_refl _) (by simp [maxLen]; omega) (by simp [size_madeCells])
  rw [toList_madeCells_one] at this
  subst hn
  simpa [cntL, ints] using this
theorem CRel.next {b g k n : Nat} {xss : List (List Int)} {ys : List Int} {w wr : World} (hk : k < xss.length) (hg : w.heap.size ≤ g)
    (h : wr.ownsRow w.heap.size 2 1 (.slice (some ⟨g, 0, none⟩) n n) n (ints (cntL b xss ys k))) (hb : Below w.heap.size w wr) :
    CRel b g xss ys n w (.int .i64 ((k : Int) + 1)) (wr.setCell ⟨g, boxTo b (xss.getD k []) ys ys.length, none⟩ (.int .i64 ((cntL b xss ys k).getD (boxTo b (xss.getD k []) ys ys.length) 0 + 1))) := by
  obtain ⟨h1, _⟩ := h.stored (boxTo b (xss.getD k []) ys ys.length) (.int .i64 ((cntL b xss ys k).getD (boxTo b (xss.getD k []) ys ys.length) 0 + 1))
  rw [ints_set] at h1
  exact ⟨k + 1, hk, by simp, h1, hb.setCell hg _⟩
/-- a list of the call's own, and whether there is one -/
def IntsRet (R : List Int) (ok : Bool) (w : World) (e : Ending) (w' : World) : Prop := ∃ A c, e = .returned (.tuple #[.slice A R.length c, .bool ok]) ∧ OwnI w' w.heap.size (.slice A R.length c) R ∧ Below w.heap.size w w'
def IntsOne (R : List Int) (w : World) (e : Ending) (w' : World) : Prop := ∃ A c, e = .returned (.slice A R.length c) ∧ OwnI w' w.heap.size (.slice A R.length c) R ∧ Below w.heap.size w w'
set_option maxHeartbeats 2000000 in
set_option maxRecDepth 100000 in
theorem implBox_yes (A A' : Option Addr) (c c' B b : Nat) (xss : List (List Int)) (ys : List Int) (w : World) (hx : RdII w B A xss) (hy : RdI w B A' ys) (hB : B ≤ w.heap.size) (hl : xss.length ≤ 1048576) (hm : tot xss ≤ 1048576) (hly : ys.length ≤ 1048576) (hcut : cutsB xss b ys = true) :
    Calls Try.prog 66 #[.slice A xss.length c, .int .i64 b, .slice A' ys.length c'] w (IntsRet (cntL b xss ys xss.length) true w) := by
  have HV := Lib.hid (areCuts_any A A' c c' B b xss ys w hx hy hB hl hm hly)
  rw [hcut] at HV
  obtain ⟨k1, k2, k3, k4⟩ := cutsB_true hcut
  obtain ⟨q1, q2, q3, q4, q5, q6, q7⟩ := ptsB_true k1
  have hin := allInB_true k3
  rw [← k2] at q6 q7
  rw [Int.toNat_natCast] at q7
  have HRow := Lib.hid (fun d hd => Shift.row_at (d := d) q7 hd)
  have HTo := Lib.hid (fun W (hW : Below w.heap.size w W) => totalOf_any A' c' B b ys W (hy.below hW hB) (fun i hi => by have := hin i hi; omega) (by omega))
  have HIn := Lib.hid hin
  have hs0 := (sumTo_bd hin ys.length (Nat.le_refl _)).1
  obtain ⟨S, hS⟩ := Int.eq_ofNat_of_zero_le hs0
  have hS6 : S ≤ 6 := by omega
  have HS := Lib.hid hS
  obtain ⟨p1, p2⟩ := pw_bd6 hS6
  have ep : ((2 ^ S : Nat) : Int) = (2 : Int) ^ S := by simp
  have hmk := run_make_row' (P := Try.prog) 28 2 (.int .i64 0) 8 Try.underlying28 infoI rfl .i64 .i64 (2 ^ S) (by omega) (by omega)
  rw [ep] at hmk
  have HMk := Lib.hid hmk
  have HX := Lib.hid hx
  have HYR := Lib.hid hy
  have hb6 : b ≤ 6 := by omega
  clear hx hy hcut k1 k2 k3 k4 q7 hin hs0 ep hmk q1 q2
  go_enter Try.func66, Try.ntmps66
  go_wp2_with fail
  refine HV.out.mono ?_
  rintro e w1 ⟨rfl, hb1⟩
  have B1 := Lib.hid hb1
  clear hb1
  go_wp2_with fail
  refine (HTo.out w1 B1.out).mono ?_
  rintro e w' ⟨rfl, rfl⟩
  rw [HS.out]
  have hmk := HMk.out
  go_wp2_with fail
  clear hmk
  have hp64 : 2 ^ S ≤ 2 ^ 6 := Nat.pow_le_pow_right (by decide) hS6
  have HC0 := Lib.hid (CRel.start b xss ys (2 ^ S) w1 (by rw [HS.out]; simp) (by omega))
  obtain ⟨n, hn⟩ : ∃ n, n = 2 ^ S := ⟨_, rfl⟩
  rw [← hn] at HC0
  have hn64 : n ≤ 64 := by omega
  have HN := Lib.hid hn
  have HX1 := Lib.hid (HX.out.below B1.out hB)
  have HY1 := Lib.hid (HYR.out.below B1.out hB)
  have hs1 := B1.out.size
  rw [← hn]
  have hBL := Lib.hid (fun k (hk : k < xss.length) => boxTo_lt (b := b) (xs := xss.getD k []) (ys := ys) (fun j hj => (HRow.out k hk).2 j hj) HIn.out)
  clear hn
  go_loopw [25] (fun i wr => CRel b w1.heap.size xss ys n w1 i wr) (fun i _ => xss.length - (intOf i).toNat)
  case atStart => exact HC0.out
  case round =>
    obtain ⟨k, hk, rfl, hO, hb⟩ := hrel
    obtain ⟨wo, rfl⟩ : ∃ x, x = wr := ⟨_, rfl⟩
    have HO := Lib.hid hO
    have HB := Lib.hid hb
    have hzo := hb.size
    clear hO hb
    by_cases hlt : k < xss.length
    · obtain ⟨ro1, ro2⟩ := HRow.out k hlt
      obtain ⟨b2, off2, e2, hb2B, hc2⟩ := (HX1.out.below HB.out (by omega)) (by omega)
      obtain ⟨A1, c1, g1, r1⟩ := hc2 k hlt
      rw [ro1] at g1
      subst e2
      have R1 := Lib.hid r1
      have HY3 := Lib.hid (HY1.out.below HB.out (by omega))
      have HL1 := Lib.hid ro1
      have RO := Lib.hid ro2
      have HBT := Lib.hid (hBL.out k hlt)
      have HNx := Lib.hid (fun wq hO hb => CRel.next (n := n) (b := b) (g := w1.heap.size) (xss := xss) (ys := ys) (w := w1) (wr := wq) hlt (Nat.le_refl _) hO hb)
      have HCb := Lib.hid (cntL_bd b xss ys k (boxTo b (xss.getD k []) ys ys.length))
      clear hc2 r1 ro1 ro2
      generalize xss.getD k [] = xs at *
      go_wp2_with fail
      go_loopw [11, 31] (fun x j wr => ∃ d : Nat, d ≤ ys.length ∧ j = .int .i64 (d : Int) ∧ x = .int .i64 (boxTo b xs ys d : Nat) ∧ Drawn wo wr) (fun _ j _ => ys.length - (intOf j).toNat)
      case atStart => exact ⟨0, Nat.zero_le _, rfl, rfl, Drawn.refl _⟩
      case round =>
        obtain ⟨d, hd, rfl, rfl, hD⟩ := hrel
        obtain ⟨wp, rfl⟩ : ∃ x, x = wr := ⟨_, rfl⟩
        have HD := Lib.hid hD
        clear hD
        by_cases hdt : d < ys.length
        · obtain ⟨b3, off3, e3, hl3, hc3⟩ := (R1.out.below (HD.out.below (B := wo.heap.size)) (by omega)) (by have := HL1.out; omega)
          have g3 := hc3 d (by have := HL1.out; omega)
          obtain ⟨b4, off4, e4, hl4, hc4⟩ := (HY3.out.below (HD.out.below (B := wo.heap.size)) (by omega)) (by omega)
          have g4 := hc4 d hdt
          obtain ⟨x0, x1⟩ := RO.out d hdt
          obtain ⟨y0, y1⟩ := HIn.out d hdt
          have hbd := HBT.out d (by omega)
          have HS1 : Hid (boxTo b xs ys (d + 1) = boxTo b xs ys d * 2 ^ (ys.getD d 0).toNat ||| (xs.getD d 0).toNat / 2 ^ (b - (ys.getD d 0).toNat)) := Lib.hid rfl
          have hsm := sumTo_mono (fun i hi => (HIn.out i hi).1) (d + 1) ys.length hdt (Nat.le_refl _)
          have hsd := (sumTo_bd HIn.out d (by omega)).1
          rw [sumTo, HS.out] at hsm
          subst e3 e4
          clear hc3 hc4
          obtain ⟨X, hX⟩ := Int.eq_ofNat_of_zero_le x0
          obtain ⟨Y, hY⟩ := Int.eq_ofNat_of_zero_le y0
          have epb : ((2 ^ b : Nat) : Int) = (2 : Int) ^ b := by simp
          have hXb : X < 2 ^ b := by omega
          rw [hX] at g3 HS1
          rw [hY] at g4 HS1 hsm y1
          rw [Int.toNat_natCast, Int.toNat_natCast] at HS1
          have HBx := Lib.hid (box_int (c := Y) (x := X) (b := b) hbd (by omega) hXb hb6)
          have hYb : Y ≤ b := by omega
          have hcut : ((Y : Nat) : Int) ≤ (b : Int) := by omega
          clear epb hX hY x0 x1 y0 y1 hbd hsm hsd
          go_wp2_with fail
          go_quiet (fail)
          go_wp2
          rw [HBx.out]
          go_roundw
          case rel => exact ⟨d + 1, hdt, by go_num, by rw [HS1.out], HD.out.next _⟩
          case measure => simp [intOf]; omega
        · obtain rfl : d = ys.length := by omega
          have hbd := HBT.out ys.length (Nat.le_refl _)
          rw [HS.out, Int.toNat_natCast, ← HN.out] at hbd
          have hrow := ownsRow_below HO.out HD.out.below
          have hcell := hrow.cellAt (boxTo b xs ys ys.length) (by omega)
          rw [ints_get _ _ (by rw [cntL_len, HS.out, Int.toNat_natCast, ← HN.out]; exact hbd)] at hcell
          have hfz := hrow.frozenAt (boxTo b xs ys ys.length)
          obtain ⟨n0, n1⟩ := HCb.out
          have HNy := Lib.hid (HNx.out wp hrow (HB.out.trans HD.out.below))
          clear hrow HNx
          generalize boxTo b xs ys ys.length = q at *
          generalize (cntL b xss ys k).getD q 0 = v at *
          go_wp2_with fail
          go_roundw
          case rel => exact HNy.out
          case measure => simp [intOf]; omega
    · obtain rfl : k = xss.length := by omega
      have ho := HO.out
      have hlen := cntL_len b xss ys xss.length
      rw [HS.out, Int.toNat_natCast, ← HN.out] at hlen
      go_wp2
      go_ret2
      refine ⟨some ⟨w1.heap.size, 0, none⟩, n, by rw [hlen]; rfl, ?_, B1.out.trans (HB.out.mono (by omega))⟩
      rw [hlen]
      refine ownsRow_base (base := w1.heap.size) ?_ (by omega)
      rw [hlen]
      exact ho
theorem pow_step {M s Y : Nat} (hM : M = 2 ^ s) (h : s + Y ≤ 6) : wrap64 ((M : Int) * (2 : Int) ^ Y) = ((2 ^ (s + Y) : Nat) : Int) := by
  have h2 : 2 ^ (s + Y) ≤ 2 ^ 6 := Nat.pow_le_pow_right (by decide) h
  have e : (M : Int) * (2 : Int) ^ Y = ((2 ^ (s + Y) : Nat) : Int) := by rw [hM, Nat.pow_add]; simp
  rw [e]
  generalize 2 ^ (s + Y) = q at *
  simp only [wrap64]; omega
def boxR (xss : List (List Int)) (bits : Int) (ys : List Int) : List Int := if cutsB xss bits ys = true then cntL bits.toNat xss ys xss.length else []
theorem boxR_bd (xss : List (List Int)) (bits : Int) (ys : List Int) : (boxR xss bits ys).length ≤ 64 := by
  unfold boxR
  split
  · rename_i h
    obtain ⟨_, _, _, h4⟩ := cutsB_true h
    rw [cntL_len]
    exact Nat.pow_le_pow_right (by decide) (show (sumTo ys ys.length).toNat ≤ 6 by omega)
  · simp
theorem IntsRet.none {w w' : World} {e : Ending} {xss : List (List Int)} {bits : Int} {ys : List Int} (h : cutsB xss bits ys = false) (he : e = .returned (.tuple #[.slice none 0 0, .bool false])) (hb : Below w.heap.size w w') : IntsRet (boxR xss bits ys) (cutsB xss bits ys) w e w' := by
  have e1 : boxR xss bits ys = [] := by rw [boxR, if_neg (by simp [h])]
  rw [e1, h]
  exact ⟨_, _, he, World.ownsRow_nil w' _ _ 1, hb⟩
theorem implBox_any (A A' : Option Addr) (c c' B : Nat) (bits : Int) (xss : List (List Int)) (ys : List Int) (w : World) (hx : RdII w B A xss) (hy : RdI w B A' ys) (hB : B ≤ w.heap.size) (hl : xss.length ≤ 1048576) (hm : tot xss ≤ 1048576) (hly : ys.length ≤ 1048576) :
    Calls Try.prog 66 #[.slice A xss.length c, .int .i64 bits, .slice A' ys.length c'] w (IntsRet (boxR xss bits ys) (cutsB xss bits ys) w) := by
  cases hp : cutsB xss bits ys with
  | false =>
    have HV := Lib.hid (areCuts_any A A' c c' B bits xss ys w hx hy hB hl hm hly)
    rw [hp] at HV
    have HF := Lib.hid (fun e w' => IntsRet.none (w := w) (w' := w') (e := e) hp)
    rw [hp] at HF
    clear hx hy hp
    go_enter Try.func66, Try.ntmps66
    go_wp2_with fail
    refine HV.out.mono ?_
    rintro e w1 ⟨rfl, hb1⟩
    have B1 := Lib.hid hb1
    clear hb1
    go_wp2
    go_ret2
    exact HF.out _ _ rfl B1.out
  | true =>
    have h0 := (ptsB_true (cutsB_true hp).1).1
    have := implBox_yes A A' c c' B bits.toNat xss ys w hx hy hB hl hm hly (by rw [Int.toNat_of_nonneg h0]; exact hp)
    rw [Int.toNat_of_nonneg h0] at this
    rw [boxR, if_pos hp]
    exact this
end Go.Proofs.Ytjkcdnfmmfpbjaa.Box

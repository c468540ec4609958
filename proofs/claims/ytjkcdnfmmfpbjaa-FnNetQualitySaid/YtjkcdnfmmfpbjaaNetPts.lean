/- The points of a net, of the program and of the reference. -/
import Derived.Test.YtjkcdnfmmfpbjaaRevLaw
namespace Go.Proofs.Ytjkcdnfmmfpbjaa.NetP
open Go.RowKit Go.Proofs.Ytjkcdnfmmfpbjaa Go.Proofs.Ytjkcdnfmmfpbjaa.Base Go.Proofs.Ytjkcdnfmmfpbjaa.Mem Go.Proofs.Ytjkcdnfmmfpbjaa.Pts Go.Proofs.Ytjkcdnfmmfpbjaa.NetV Go.Proofs.Ytjkcdnfmmfpbjaa.RevNet Go.Proofs.Ytjkcdnfmmfpbjaa.Bits
set_option linter.unusedVariables false
/-- the number that the first j rows make of k -/
def numTo (k : Nat) (xs : List Int) : Nat → Nat
  | 0 => 0
  | j + 1 => 2 * numTo k xs j + PopM.par ((xs.getD j 0).toNat &&& k)
theorem numTo_lt (k : Nat) (xs : List Int) : ∀ j, numTo k xs j < 2 ^ j
  | 0 => by simp [numTo]
  | j + 1 => by
    have h := numTo_lt k xs j
    have h2 := PopM.par_lt ((xs.getD j 0).toNat &&& k)
    rw [numTo, Nat.pow_succ]; omega
def numL (k : Nat) (xss : List (List Int)) : List Int := xss.map fun xs => ((numTo k xs xs.length : Nat) : Int)
theorem numL_len (k : Nat) (xss : List (List Int)) : (numL k xss).length = xss.length := by simp [numL]
theorem numL_take (k : Nat) (xss : List (List Int)) (d : Nat) (h : d < xss.length) : (numL k xss).take (d + 1) = (numL k xss).take d ++ [((numTo k (xss.getD d []) (xss.getD d []).length : Nat) : Int)] := by
  have hl : d < (numL k xss).length := by rw [numL_len]; exact h
  rw [List.take_succ_eq_append_getElem hl]
  simp [numL, List.getD, h]
def netL (xss : List (List Int)) (K : Nat) : List (List Int) := (List.range K).map fun k => numL k xss
theorem netL_len (xss : List (List Int)) (K : Nat) : (netL xss K).length = K := by simp [netL]
theorem netL_succ (xss : List (List Int)) (K : Nat) : netL xss (K + 1) = netL xss K ++ [numL K xss] := by simp [netL, List.range_succ]
theorem netL_tot (xss : List (List Int)) (K : Nat) : tot (netL xss K) = K * xss.length := by
  induction K with
  | zero => simp [netL, tot]
  | succ K ih =>
    rw [netL_succ, tot, List.map_append, List.sum_append]
    have : (List.map List.length (netL xss K)).sum = K * xss.length := ih
    rw [this]; simp [numL_len, Nat.add_mul]
/-- what is known of a matrix of a valid net -/
theorem row_of {b d : Nat} {xss : List (List Int)} (h : xss.all (rowB b b) = true) (hd : d < xss.length) : (xss.getD d []).length = b ∧ ∀ j, j < b → 0 ≤ (xss.getD d []).getD j 0 ∧ (xss.getD d []).getD j 0 ≤ (2 : Int) ^ b - 1 := by
  have h1 := all_at [] hd h
  simp only [rowB, Bool.and_eq_true, beq_iff_eq] at h1
  exact ⟨h1.1, fun j hj => AllIn.allInB_true h1.2 j (by omega)⟩
theorem tot_rows {b : Nat} : ∀ (xss : List (List Int)), xss.all (rowB b b) = true → tot xss = b * xss.length
  | [], _ => by simp [tot]
  | xs :: r, h => by
    simp only [List.all_cons, Bool.and_eq_true] at h
    have h1 := h.1
    simp only [rowB, Bool.and_eq_true, beq_iff_eq] at h1
    rw [tot_cons, tot_rows r h.2, h1.1, List.length_cons, Nat.mul_add, Nat.mul_one, Nat.add_comm]
/-- the loop over the numbers -/
def PRel (xss : List (List Int)) (K : Nat) (w : World) (out i : Value) (wr : World) : Prop :=
  ∃ (k : Nat) (us : List Value), k ≤ K ∧ i = .int .i64 (k : Int) ∧ OwnII wr w.heap.size out (netL xss k) us ∧ Below w.heap.size w wr
/-- the loop over the sides -/
def QRel (xss : List (List Int)) (k : Nat) (w : World) (p i : Value) (wr : World) : Prop :=
  ∃ d : Nat, d ≤ xss.length ∧ i = .int .i64 (d : Int) ∧ OwnI wr w.heap.size p ((numL k xss).take d) ∧ Below w.heap.size w wr
theorem QRel.start (xss : List (List Int)) (k : Nat) (w : World) : QRel xss k w (.slice (some ⟨w.heap.size, 0, none⟩) 0 0) (.int .i64 0) (w.alloc (.cells #[] 2)) :=
  ⟨0, Nat.zero_le _, rfl, own_lit w (Nat.le_refl _) [] (by simp), (Below.refl _ _).alloc (Nat.le_refl _) _⟩
theorem QRel.next {xss : List (List Int)} {k d : Nat} {w wr w2 : World} {v v' : Value} {o : Obj} (hd : d < xss.length) (hO : OwnI wr w.heap.size v ((numL k xss).take d)) (hb : Below w.heap.size w wr)
    (hown : w2.ownsRow w.heap.size 2 1 v' (d + 1) (ints ((numL k xss).take d) ++ [.int .i64 (numTo k (xss.getD d []) (xss.getD d []).length : Nat)])) (hg : (wr.alloc o).grownBy w2 v.ownBlock) :
    QRel xss k w v' (.int .i64 ((d : Int) + 1)) w2 := by
  refine ⟨d + 1, hd, by simp, ?_, hb.trans (append_below hO hb.size hg)⟩
  rw [numL_take k xss d hd]
  have hl : ((numL k xss).take d).length = d := by rw [List.length_take, numL_len]; omega
  exact OwnI_push hO hb.size (by rw [hl]; exact hown)
theorem PRel.next {xss : List (List Int)} {K k : Nat} {us : List Value} {w wo wr w2 : World} {v v' p : Value} (hk : k < K) (hO : OwnII wo w.heap.size v (netL xss k) us) (hb : Below w.heap.size w wo)
    (hp : OwnI wr wo.heap.size p (numL k xss)) (hb2 : Below wo.heap.size wo wr) (hown : w2.ownsRow w.heap.size 28 1 v' (k + 1) (us ++ [p])) (hg : (wr.alloc (.cells #[p] 28)).grownBy w2 v.ownBlock) :
    PRel xss K w v' (.int .i64 ((k : Int) + 1)) w2 := by
  have h1 : Below wo.heap.size wo (wr.alloc (.cells #[p] 28)) := hb2.alloc hb2.size _
  have hu : (wr.alloc (.cells #[p] 28)).ownsRow wo.heap.size 2 1 p (numL k xss).length (ints (numL k xss)) := World.ownsRow.alloc hp _
  refine ⟨k + 1, us ++ [p], hk, by simp, ?_, hb.trans ((h1.mono hb.size).trans (grown_below hg (fun g he => ?_) (Nat.le_trans hb.size h1.size)))⟩
  · rw [netL_succ]
    exact hO.push h1 hu (by rw [netL_len]; exact hown) hg hb.size
  · obtain ⟨_, _, h3, _⟩ := ownsRow_block hO.outer he
    exact h3
def NPts (xss : List (List Int)) (b : Nat) (w : World) (e : Ending) (w' : World) : Prop := ∃ A c us, e = .returned (.tuple #[.slice A (2 ^ b) c, .bool true]) ∧ OwnII w' w.heap.size (.slice A (2 ^ b) c) (netL xss (2 ^ b)) us ∧ Below w.heap.size w w'
theorem num_step (x k m : Nat) (hx : x < 2 ^ 6) (hk : k < 2 ^ 6) : bits .and .i64 (x : Int) (k : Int) = ((x &&& k : Nat) : Int) ∧ x &&& k < 9223372036854775808 :=
  ⟨i64_and_nat x k (by omega) (by omega), Nat.lt_of_le_of_lt Nat.and_le_left (by omega)⟩
set_option maxHeartbeats 2000000 in
set_option maxRecDepth 100000 in
theorem implNetPts_yes (A : Option Addr) (c B b : Nat) (xss : List (List Int)) (w : World) (hx : RdII w B A xss) (hB : B ≤ w.heap.size) (hl : xss.length ≤ 4) (hb6 : b ≤ 6) (hv : netB b xss = true) :
    Calls Try.prog 30 #[.agg #[.int .i64 b, .slice A xss.length c]] w (NPts xss b w) := by
  obtain ⟨i0, hi, hz0, hz1, hz2⟩ := info_parts infoI
  obtain ⟨i1, ji, jz0, jz1, jz2⟩ := info_parts infoS
  obtain ⟨_, _, hv1, hv2, hv3⟩ := netB_true hv
  have htot : tot xss ≤ 1048576 := by
    have h1 := tot_rows (b := b) xss (by simpa using hv3)
    have h2 : b * xss.length ≤ 6 * 4 := Nat.mul_le_mul hb6 hl
    omega
  obtain ⟨p1, p2⟩ := pw_bd6 hb6
  have hpw : 2 ^ b ≤ 2 ^ 6 := Nat.pow_le_pow_right (by decide) hb6
  obtain ⟨W0, hW0⟩ : ∃ W0, W0 = w.alloc (.cells #[.int .i64 b, .slice A xss.length c] 49) := ⟨_, rfl⟩
  have B0 : Below w.heap.size w W0 := by rw [hW0]; exact (Below.refl _ _).alloc (Nat.le_refl _) _
  have hw0 : W0.heap.size = w.heap.size + 1 := by rw [hW0]; simp
  have c0 : W0.cell? ⟨w.heap.size, 0, none⟩ = some (.int .i64 b) := by rw [hW0]; go_simp
  have c1 : W0.cell? ⟨w.heap.size, 1, none⟩ = some (.slice A xss.length c) := by rw [hW0]; go_simp
  have HW0 := Lib.hid hW0
  have HV := Lib.hid (implValidNet_any A c B b xss W0 (hx.below B0 hB) (by omega) (by omega) htot)
  rw [hv] at HV
  have HX := Lib.hid (hx.below B0 hB)
  have HB0 := Lib.hid B0
  have hzz : w.heap.size < W0.heap.size := by omega
  have hBz : B ≤ W0.heap.size := by omega
  have HRow := Lib.hid (fun d hd => row_of (b := b) (d := d) (by simpa using hv3) hd)
  clear hW0 B0 hw0 hx hv hv3
  go_enter Try.func30, Try.ntmps30
  go_wp2_with fail
  rw [← HW0.out]
  refine HV.out.mono ?_
  rintro e w1 ⟨rfl, hb1⟩
  have c0' := (hb1.cell (p := ⟨w.heap.size, 0, none⟩) hzz).trans c0
  have c1' := (hb1.cell (p := ⟨w.heap.size, 1, none⟩) hzz).trans c1
  have HX1 := Lib.hid (HX.out.below hb1 hBz)
  have HB1 := Lib.hid (HB0.out.trans (hb1.mono (Nat.le_of_lt hzz)))
  have hz1' := hb1.size
  clear hb1 c0 c1 HX HB0
  have hzw : w.heap.size < w1.heap.size := by omega
  have HPR : Hid (PRel xss (2 ^ b) w1 (.slice (some ⟨w1.heap.size, 0, none⟩) 0 0) (.int .i64 0) (w1.alloc (.cells #[] 28))) :=
    Lib.hid ⟨0, [], Nat.zero_le _, rfl, OwnII.lit0 w1 (Nat.le_refl _) _ rfl, (Below.refl _ _).alloc (Nat.le_refl _) _⟩
  go_wp2_with fail
  go_loopw [4, 19] (fun out i wr => PRel xss (2 ^ b) w1 out i wr) (fun _ i _ => 2 ^ b - (intOf i).toNat)
  case atStart => exact HPR.out
  case round =>
    obtain ⟨k, us, hk, rfl, hO, hb⟩ := hrel
    obtain ⟨wo, rfl⟩ : ∃ x, x = wr := ⟨_, rfl⟩
    have HO := Lib.hid hO
    have HB := Lib.hid hb
    have d0 := (hb.cell (p := ⟨w.heap.size, 0, none⟩) hzw).trans c0'
    have d1 := (hb.cell (p := ⟨w.heap.size, 1, none⟩) hzw).trans c1'
    have hzo := hb.size
    clear hO hb c0' c1'
    by_cases hlt : k < 2 ^ b
    · have hlt' : (k : Int) < (2 : Int) ^ b := by have : ((2 ^ b : Nat) : Int) = (2 : Int) ^ b := by simp
                                                  omega
      have HQ := Lib.hid (QRel.start xss k wo)
      have HX2 := Lib.hid (HX1.out.below HB.out (by omega))
      have hzx : w.heap.size < wo.heap.size := by omega
      go_wp2_with fail
      go_loopw [6, 26] (fun p i wr => QRel xss k wo p i wr) (fun _ i _ => xss.length - (intOf i).toNat)
      case atStart => exact HQ.out
      case round =>
        obtain ⟨d, hd, rfl, hO, hb⟩ := hrel
        obtain ⟨wp, rfl⟩ : ∃ x, x = wr := ⟨_, rfl⟩
        have HO2 := Lib.hid hO
        have HB2 := Lib.hid hb
        have hzp := hb.size
        clear hO hb
        by_cases hdt : d < xss.length
        · obtain ⟨ro1, ro2⟩ := HRow.out d hdt
          have HN := Lib.hid (fun v v' o w2 h1 h2 h3 h4 => QRel.next (k := k) (w := wo) (wr := wp) (w2 := w2) (v := v) (v' := v') (o := o) hdt h1 h2 h3 h4)
          obtain ⟨bb, off, hA, _, hc⟩ := (HX2.out.below HB2.out (by omega)) (by omega)
          obtain ⟨A1, c1, g1, r1⟩ := hc d hdt
          have R1 := Lib.hid r1
          have RO := Lib.hid ro2
          have HNt := Lib.hid (numTo_lt k (xss.getD d []))
          subst hA
          clear hc r1 ro2
          rw [ro1] at g1
          have HL := Lib.hid ro1
          clear ro1
          generalize xss.getD d [] = xs at *
          go_wp2_with fail
          go_loop [9, 32] (fun x j => ∃ m : Nat, m ≤ b ∧ j = .int .i64 (m : Int) ∧ x = .int .i64 (numTo k xs m : Nat)) (fun _ j => b - (intOf j).toNat)
          case atStart => exact ⟨0, Nat.zero_le _, rfl, rfl⟩
          case round =>
            obtain ⟨m, hm, rfl, rfl⟩ := hrel
            by_cases hmt : m < b
            · obtain ⟨b3, off3, rfl, _, hc3⟩ := R1.out (by have := HL.out; omega)
              have g3 := hc3 m (by have := HL.out; omega)
              obtain ⟨q1, q2⟩ := RO.out m hmt
              have hlow := HNt.out m
              have hp2 : 2 ^ m ≤ 2 ^ 6 := Nat.pow_le_pow_right (by decide) (by omega)
              have HS : Hid (numTo k xs (m + 1) = 2 * numTo k xs m + PopM.par ((xs.getD m 0).toNat &&& k)) := Lib.hid rfl
              clear hc3
              obtain ⟨X, hX⟩ := Int.eq_ofNat_of_zero_le q1
              rw [hX] at g3 HS q2
              rw [Int.toNat_natCast] at HS
              have hX6 : X < 2 ^ 6 := by omega
              obtain ⟨n1, n2⟩ := num_step X k 0 hX6 (by omega)
              have N1 := Lib.hid n1
              have hpar := PopM.par_lt (X &&& k)
              clear n1 hX q1 q2
              go_wp2_with fail
              rw [N1.out]
              refine (parity_any _ n2 _).mono ?_
              rintro e w' ⟨rfl, rfl⟩
              go_wp2_with fail
              go_round
              case rel => exact ⟨m + 1, hmt, by go_num, by rw [HS.out]; simp⟩
              case measure => simp [intOf]; omega
            · obtain rfl : m = b := by omega
              have hlen : ((numL k xss).take d).length = d := by rw [List.length_take, numL_len]; omega
              have hown := World.ownsRow.alloc HO2.out (.cells #[.int .i64 (numTo k xs m : Nat)] 2)
              rw [hlen] at hown
              have HW := Lib.hid hown
              clear hown hlen
              go_wp2_with (at_builtin; refine wpList_append_own_at _ rfl (.tmp 44) (.tmp 46) 28 rfl wo.heap.size 2 i0 (.int .i64 0) 1 8 Try.underlying28 hi hz0 hz1 hz2 rfl (by decide) _ _ _ rfl HW.out ⟨wp.heap.size, 0, none⟩ 1 1 [.int .i64 (numTo k xs m : Nat)] rfl rfl ?p1a ?p2a ?p3a ?p4a ?p5a ?_)
              try case p1a => exact news_one _ _ _ (by simp)
              try case p2a => first | exact one_int | rfl | simp
              try case p3a => first | (simp only [maxLen]; omega) | omega
              try case p4a => omega
              try case p5a => first | (simp only [World.size_alloc]; omega) | omega
              intro v' w2 hown' hg' _ he
              have HQ2 := Lib.hid (HN.out _ _ _ _ HO2.out HB2.out (by rw [HL.out]; exact hown') hg')
              clear hown' hg' he
              go_wp2
              go_roundw
              case rel => exact HQ2.out
              case measure => simp [intOf]; omega
        · obtain rfl : d = xss.length := by omega
          have hfull : (numL k xss).take xss.length = numL k xss := List.take_of_length_le (by rw [numL_len]; exact Nat.le_refl _)
          have ho2 := HO2.out
          rw [hfull] at ho2
          have HP := Lib.hid ho2
          obtain ⟨Ap, cp, ep, _⟩ := ho2.form
          subst ep
          have hown := World.ownsRow.alloc (ownsRow_below HO.out.outer HB2.out) (.cells #[.slice Ap (numL k xss).length cp] 28)
          rw [netL_len] at hown
          have HW := Lib.hid hown
          have HN := Lib.hid (fun v' w2 h1 h2 => PRel.next (v' := v') (w2 := w2) hlt HO.out HB.out HP.out HB2.out h1 h2)
          clear hown ho2 hfull HQ
          go_wp2_with (at_builtin; refine wpList_append_own_at _ rfl (.tmp 49) (.tmp 51) 42 rfl w1.heap.size 28 i1 (.slice none 0 0) 1 24 Try.underlying42 ji jz0 jz1 jz2 rfl (by decide) _ _ _ rfl HW.out ⟨wp.heap.size, 0, none⟩ 1 1 [.slice Ap (numL k xss).length cp] rfl rfl ?p1b ?p2b ?p3b ?p4b ?p5b ?_)
          try case p1b => exact news_one _ _ _ (by simp)
          try case p2b => first | exact one_slice | rfl | simp
          try case p3b => first | (simp only [maxLen]; omega) | omega
          try case p4b => omega
          try case p5b => first | (simp only [World.size_alloc]; omega) | omega
          intro v' w2 hown' hg' _ he
          have HQ2 := Lib.hid (HN.out _ _ hown' hg')
          clear hown' hg' he
          go_wp2
          go_roundw
          case rel => exact HQ2.out
          case measure => simp [intOf]; omega
    · obtain rfl : k = 2 ^ b := by omega
      have hnlt : ¬ ((2 ^ b : Nat) : Int) < (2 : Int) ^ b := by simp
      have ho := HO.out
      obtain ⟨A1, c1, e1, _⟩ := ho.form
      rw [netL_len] at e1
      subst e1
      clear ho
      go_wp2
      go_ret2
      exact ⟨A1, c1, us, rfl, HO.out.base (by omega), HB1.out.trans (HB.out.mono (by omega))⟩
def LPts (xss : List (List Int)) (b : Nat) (w : World) (e : Ending) (w' : World) : Prop := ∃ A c us, e = .returned (.slice A (2 ^ b) c) ∧ OwnII w' w.heap.size (.slice A (2 ^ b) c) (netL xss (2 ^ b)) us ∧ Below w.heap.size w w'
end Go.Proofs.Ytjkcdnfmmfpbjaa.NetP

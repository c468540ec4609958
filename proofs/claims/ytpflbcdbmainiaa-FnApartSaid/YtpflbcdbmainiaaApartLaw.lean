/- Parts of a stream are apart exactly if all states on their ways are different: the law at whatever bytes. -/
import Derived.Test.YtpflbcdbmainiaaApartMath
import Derived.Test.YtpflbcdbmainiaaDrawS
import Derived.Test.YtpflbcdbmainiaaSkipLaw
import Derived.Test.YtpflbcdbmainiaaApart
import Derived.Test.YtpflbcdbmainiaaOpen
import Derived.Test.YtpflbcdbmainiaaRevNet
namespace Go.Proofs.Ytpflbcdbmainiaa.ApartL
open Go.RowKit Go.Proofs.Ytpflbcdbmainiaa Go.Proofs.Ytpflbcdbmainiaa.Base Go.Proofs.Ytpflbcdbmainiaa.Mem Go.Proofs.Ytpflbcdbmainiaa.Str Go.Proofs.Ytpflbcdbmainiaa.Take Go.Proofs.Ytpflbcdbmainiaa.Skip Go.Proofs.Ytpflbcdbmainiaa.CycM Go.Proofs.Ytpflbcdbmainiaa.ApartM
set_option linter.unusedVariables false
def AtRet (n : Int) (w : World) (e : Ending) (w' : World) : Prop := ∃ r : Int, 0 ≤ r ∧ r < n ∧ e = .returned (.int .i64 r) ∧ w = w'
theorem b10At_any (A : Option Addr) (c B : Nat) (zs : List Int) (i n : Int) (w : World) (hz : ∀ z ∈ zs, 0 ≤ z ∧ z ≤ 255) (hl : zs.length ≤ 9223372036854775807) (hr : RdB w B A zs) (hi : i = 0 ∨ i = 1) (hn : 2 ≤ n) :
    Calls Try.prog 45 #[.slice A zs.length c, .int .i64 i, .int .i64 n] w (AtRet n w) := by
  by_cases h2 : (zs.length : Int) ≤ i
  · have q0 : 0 ≤ (i * 37 + 11) % n := Int.emod_nonneg _ (by omega)
    have q1 : (i * 37 + 11) % n < n := Int.emod_lt_of_pos _ (by omega)
    clear hr hz
    rcases hi with rfl | rfl
    all_goals
      simp only [Int.zero_mul, Int.one_mul, Int.zero_add, Int.reduceAdd] at q0 q1
      go_enter Try.func45, Try.ntmps45
      go_wp2
      go_ret
      exact ⟨_, q0, q1, rfl, rfl⟩
  · obtain ⟨j, rfl⟩ := Int.eq_ofNat_of_zero_le (show 0 ≤ i by omega)
    have h3 : j < zs.length := by omega
    obtain ⟨b, off, rfl, _, hc⟩ := hr (by omega)
    have g := hc j h3
    have hm := hz (zs.getD j 0) (by simp [List.getD, h3])
    obtain ⟨m1, m2⟩ := hm
    clear hc hr hz
    generalize zs.getD j 0 = z at *
    have hq0 : 0 ≤ z % n := Int.emod_nonneg _ (by omega)
    have hq1 : z % n < n := Int.emod_lt_of_pos _ (by omega)
    have hj : (j : Int) ≤ 1 := by omega
    clear hi
    go_enter Try.func45, Try.ntmps45
    go_wp2
    go_ret
    exact ⟨_, hq0, hq1, rfl, rfl⟩
def HasRet (xs : List Int) (n : Int) (w : World) (e : Ending) (w' : World) : Prop := ∃ r : Bool, e = .returned (.bool r) ∧ w = w' ∧ (r = true → ∃ k, k < xs.length ∧ xs.getD k 0 = n) ∧ (r = false → ∀ k, k < xs.length → xs.getD k 0 ≠ n)
theorem b10Has_any (A : Option Addr) (c B : Nat) (xs : List Int) (n : Int) (w : World) (hx : RdI w B A xs) (hm : xs.length ≤ 1099511627776) :
    Calls Try.prog 48 #[.slice A xs.length c, .int .i64 n] w (HasRet xs n w) := by
  have HX := Lib.hid hx
  clear hx
  go_enter Try.func48, Try.ntmps48
  go_wp2
  go_loop [5] (fun i => ∃ k : Nat, k ≤ xs.length ∧ i = .int .i64 (k : Int) ∧ Hid (∀ j, j < k → xs.getD j 0 ≠ n)) (fun i => xs.length - (intOf i).toNat)
  case atStart => exact ⟨0, Nat.zero_le _, rfl, Lib.hid fun j hj => absurd hj (Nat.not_lt_zero j)⟩
  case round =>
    obtain ⟨k, hk, rfl, HK⟩ := hrel
    by_cases hlt : k < xs.length
    · obtain ⟨b, off, rfl, _, h1⟩ := HX.out (by omega)
      have g1 := h1 k hlt
      clear h1
      by_cases he : xs.getD k 0 = n
      · have HR : Hid (HasRet xs n w (.returned (.bool true)) w) := Lib.hid ⟨true, rfl, rfl, fun _ => ⟨k, hlt, he⟩, fun h => by cases h⟩
        rw [he] at g1
        clear he HX HK
        go_wp2
        go_ret
        exact HR.out
      · have HN : Hid (∀ j, j < k + 1 → xs.getD j 0 ≠ n) := Lib.hid fun j hj => by
          rcases Nat.lt_or_ge j k with h | h
          · exact HK.out j h
          · obtain rfl : j = k := by omega
            exact he
        have he' : (xs.getD k 0 == n) = false := by simpa using he
        clear HK
        generalize xs.getD k 0 = z at *
        go_wp2
        go_round
        case rel => exact ⟨k + 1, by omega, by go_num, HN⟩
        case measure => simp [intOf]; omega
    · have HR : Hid (HasRet xs n w (.returned (.bool false)) w) := Lib.hid ⟨false, rfl, rfl, fun h => (by cases h), fun _ j hj => HK.out j (by omega)⟩
      go_wp2
      go_ret
      exact HR.out
def waysL (U : Nat → Nat) (X i : Nat) : List Int := (List.range i).map fun k => ((iter U X k : Nat) : Int)
theorem waysL_len (U : Nat → Nat) (X i : Nat) : (waysL U X i).length = i := by simp [waysL]
theorem waysL_get (U : Nat → Nat) (X i k : Nat) (h : k < i) : (waysL U X i).getD k 0 = ((iter U X k : Nat) : Int) := by simp [waysL, List.getD, h]
theorem waysL_succ (U : Nat → Nat) (X i : Nat) : waysL U X (i + 1) = waysL U X i ++ [((iter U X i : Nat) : Int)] := by simp [waysL, List.range_succ]
theorem skip_yes {K W T m f a : Int} {U : Nat → Nat} {X j n : Nat} {s : Int} (h : ApartM.Way K W T m f a s U X j n) (i c : Nat) (hc : c ≤ 1000000000000000000) (w : World) :
    Calls Try.prog 40 #[.agg #[.int .i64 K, .int .i64 W, .int .i64 T, .int .i64 m, .int .i64 f, .int .i64 a, .int .i64 (((iter U X i : Nat) : Int))], .int .i64 (c : Int)] w fun e w' => e = .returned (.tuple #[.agg #[.int .i64 K, .int .i64 W, .int .i64 T, .int .i64 m, .int .i64 f, .int .i64 a, .int .i64 (((iter U X (i + c) : Nat) : Int))], .bool true]) ∧ Below w.heap.size w w' := by
  refine (specSS_any K W T m f a _ (c : Int) w).mono fun e w' hr => ⟨?_, hr.2.2⟩
  have := hr.1 (by rw [okS, h.valid i, inR_yes (by omega)]; rfl)
  rw [h.take i c] at this
  exact this
theorem skip0 {K W T m f a : Int} {U : Nat → Nat} {X j n : Nat} {s : Int} (h : ApartM.Way K W T m f a s U X j n) (c : Nat) (hc : c ≤ 1000000000000000000) (w : World) :
    Calls Try.prog 40 #[.agg #[.int .i64 K, .int .i64 W, .int .i64 T, .int .i64 m, .int .i64 f, .int .i64 a, .int .i64 s], .int .i64 (c : Int)] w fun e w' => e = .returned (.tuple #[.agg #[.int .i64 K, .int .i64 W, .int .i64 T, .int .i64 m, .int .i64 f, .int .i64 a, .int .i64 (((iter U X c : Nat) : Int))], .bool true]) ∧ Below w.heap.size w w' := by
  have := skip_yes h 0 c hc w
  rw [Nat.zero_add, show iter U X 0 = X from rfl, ← h.start] at this
  exact this
theorem apart_yes {K W T m f a s : Int} {U : Nat → Nat} {X j n : Nat} (h : ApartM.Way K W T m f a s U X j n) (hB : streamB K W T m f a s = true) {p q L : Nat} (hp : p < 8) (hq : q < 40) (hL : (1 + p) * (1 + q) = L) (w : World) :
    Calls Try.prog 46 #[.agg #[.int .i64 K, .int .i64 W, .int .i64 T, .int .i64 m, .int .i64 f, .int .i64 a, .int .i64 s], .int .i64 (1 + (p : Int)), .int .i64 (1 + (q : Int))] w fun e w' => e = .returned (.tuple #[.bool (decide (L ≤ n)), .bool true]) ∧ Below w.heap.size w w' := by
  subst hL
  have hs : (streamB K W T m f a s && splitB (1 + (p : Int)) (1 + (q : Int))) = true := by
    rw [hB, splitB, inR_yes (by omega), inR_yes (by omega)]; rfl
  refine (implAreApart_any K W T m f a s (1 + (p : Int)) (1 + (q : Int)) w).mono fun e w' hr => ⟨?_, hr.2⟩
  have e1 := hr.1
  rw [hs, apartB_yes hs, h.pre, h.per] at e1
  have hn := h.small
  have hj := h.cyc.1
  have e2 : wrap64 ((j : Int) + ((n : Int) - (j : Int))) = (n : Int) := by simp only [wrap64]; omega
  have e3 : (1 + (p : Int)) * (1 + (q : Int)) = (((1 + p) * (1 + q) : Nat) : Int) := by simp
  rw [e2, e3] at e1
  rw [e1]
  simp only [Int.ofNat_le]
theorem cycle_yes {K W T m f a s : Int} {U : Nat → Nat} {X j n : Nat} (h : ApartM.Way K W T m f a s U X j n) (hB : streamB K W T m f a s = true) (w : World) :
    Calls Try.prog 47 #[.agg #[.int .i64 K, .int .i64 W, .int .i64 T, .int .i64 m, .int .i64 f, .int .i64 a, .int .i64 s]] w fun e w' => e = .returned (.tuple #[.int .i64 (j : Int), .int .i64 (((n - j : Nat) : Int)), .bool true]) ∧ Below w.heap.size w w' := by
  refine (implStreamCycle_any K W T m f a s w).mono fun e w' hr => ⟨?_, hr.2⟩
  have hj := h.cyc.1
  rw [hr.1, hB, h.pre, h.per, show (n : Int) - (j : Int) = ((n - j : Nat) : Int) by omega]
/-- the search's state -/
def LRel (U : Nat → Nat) (X L n B : Nat) (K W T m f a : Int) (w : World) (sv fv iv : Value) (wr : World) : Prop :=
  ∃ (i : Nat) (fb : Bool), i ≤ L ∧ fv = .bool fb ∧ iv = .int .i64 (i : Int) ∧ Hid (fb = true → Diff U X i) ∧ Hid (fb = false → ¬ L ≤ n) ∧ Hid (OwnI wr B sv (waysL U X i)) ∧ Hid (SBox wr (B + 1) K W T m f a ((iter U X i : Nat) : Int)) ∧ Hid (Below w.heap.size w wr)
theorem notRow {w : World} {B k b : Nat} {v : Value} {xs : List Value} {K W T m f a s : Int} (h : SBox w b K W T m f a s) (ho : w.ownsRow B 2 1 v k xs) : v.ownBlock ≠ some b := fun e => by
  obtain ⟨cur, h1, _, _⟩ := ownsRow_block ho e
  unfold SBox at h
  rw [h] at h1
  injection h1 with h1
  injection h1 with _ h2 _
  exact absurd h2 (by decide)
set_option maxHeartbeats 4000000 in
set_option maxRecDepth 100000 in
theorem fnApart_any (A A' : Option Addr) (c c' : Nat) (zs ys : List Int) (w : World) (hx : RdB w w.heap.size A zs) (hy : RdB w w.heap.size A' ys) (hl : zs.length ≤ 9223372036854775807) (hl' : ys.length ≤ 9223372036854775807) (hz : ∀ z ∈ zs, 0 ≤ z ∧ z ≤ 255) (hz' : ∀ z ∈ ys, 0 ≤ z ∧ z ≤ 255) :
    Calls Try.prog 9 #[.slice A zs.length c, .slice A' ys.length c'] w fun e w' => e = .returned (.bool true) ∧ Below w.heap.size w w' := by
  have HL := Lib.hid (fun w => Cycled.b10Long_any A A' zs.length c ys.length c' w)
  have HC := Lib.hid (Draw.b10Stream_any A c w.heap.size zs w hx (Nat.le_refl _) hl hz)
  have HY := Lib.hid hy
  have HZ := Lib.hid hz'
  clear hx hz hy hz' hl
  cases hlong : Cycled.longB zs.length ys.length with
  | true =>
    rw [hlong] at HL
    clear hlong
    go_enter Try.func9, Try.ntmps9
    go_wp2_with fail
    refine (HL.out _).mono ?_
    rintro e w' ⟨rfl, rfl⟩
    go_wp2
    go_ret
    exact ⟨rfl, Below.refl _ _⟩
  | false =>
    rw [hlong] at HL
    clear hlong
    go_enter Try.func9, Try.ntmps9
    go_wp2_with fail
    refine (HL.out _).mono ?_
    rintro e w' ⟨rfl, rfl⟩
    go_wp2_with fail
    refine HC.out.mono ?_
    rintro e w1 ⟨K, W, T, m, f, a, s, hB, rfl, hb1⟩
    obtain ⟨U, X, j, n, hway⟩ := way hB
    obtain ⟨W1, hW1⟩ : ∃ W1, W1 = w1.alloc (.cells #[.int .i64 K, .int .i64 W, .int .i64 T, .int .i64 m, .int .i64 f, .int .i64 a, .int .i64 s] 76) := ⟨_, rfl⟩
    have K1 : SBox W1 w1.heap.size K W T m f a s := by rw [hW1]; exact SBox.new _ _ _ _ _ _ _ _
    have B1 : Below w.heap.size w W1 := by rw [hW1]; exact hb1.alloc hb1.size _
    have HAt := Lib.hid (fun i n hi hn => b10At_any A' c' w.heap.size ys i n W1 HZ.out hl' (HY.out.below B1 (Nat.le_refl _)) hi hn)
    have HW1 := Lib.hid hW1
    have KK1 := Lib.hid K1
    have BB1 := Lib.hid B1
    have HWay := Lib.hid hway
    have HBs := Lib.hid hB
    clear hW1 K1 B1 hb1 HY HZ hway hB HC HL
    go_wp2_with fail
    rw [← HW1.out]
    refine (HAt.out 0 8 (.inl rfl) (by decide)).mono ?_
    rintro e w' ⟨p0, hp0, hp1, rfl, rfl⟩
    obtain ⟨p, rfl⟩ := Int.eq_ofNat_of_zero_le hp0
    go_wp2_with fail
    refine (HAt.out 1 40 (.inr rfl) (by decide)).mono ?_
    rintro e w' ⟨q0, hq0, hq1, rfl, rfl⟩
    obtain ⟨q, rfl⟩ := Int.eq_ofNat_of_zero_le hq0
    obtain ⟨L, hL⟩ : ∃ L, (1 + p) * (1 + q) = L := ⟨_, rfl⟩
    have hLL : (1 + (p : Int)) * (1 + (q : Int)) = (L : Int) := by rw [← hL]; simp
    have hL0 : L ≤ 320 := by rw [← hL]; exact Nat.mul_le_mul (show 1 + p ≤ 8 by omega) (show 1 + q ≤ 40 by omega)
    have HAp := Lib.hid (fun w => apart_yes HWay.out HBs.out (p := p) (q := q) (by omega) (by omega) hL w)
    have HCy := Lib.hid (fun w => cycle_yes HWay.out HBs.out w)
    have hjn := HWay.out.cyc.1
    have hn := HWay.out.small
    have HS1 := Lib.hid (fun w => skip0 HWay.out j (by omega) w)
    have HS2 := Lib.hid (fun w => skip0 HWay.out n (by omega) w)
    rw [← HWay.out.cyc.2.1] at HS2
    have hst := HWay.out.start
    obtain ⟨per, hper⟩ : ∃ per, per = n - j := ⟨_, rfl⟩
    rw [← hper] at HCy
    have hper1 : 1 ≤ per := by omega
    rw [show n = j + per by omega] at HS2
    have hs2 : ((j + per : Nat) : Int) = (j : Int) + (per : Int) := by simp
    rw [hs2] at HS2
    have hjb : j ≤ 200000 := by omega
    have hpb : per ≤ 200000 := by omega
    clear hp0 hq0 hper hs2 hjn
    subst hst
    have c0 := (KK1.out).c0; have c1 := (KK1.out).c1; have c2 := (KK1.out).c2; have c3 := (KK1.out).c3; have c4 := (KK1.out).c4; have c5 := (KK1.out).c5; have c6 := (KK1.out).c6
    go_wp2_with fail
    refine (HAp.out _).mono ?_
    rintro e w2 ⟨rfl, hb2⟩
    have K2 := Lib.hid (KK1.out.below hb2 KK1.out.lt)
    have B2 := Lib.hid (BB1.out.trans (hb2.mono BB1.out.size))
    clear c0 c1 c2 c3 c4 c5 c6 hb2
    have c0 := (K2.out).c0; have c1 := (K2.out).c1; have c2 := (K2.out).c2; have c3 := (K2.out).c3; have c4 := (K2.out).c4; have c5 := (K2.out).c5; have c6 := (K2.out).c6
    go_wp2_with fail
    refine (HCy.out _).mono ?_
    rintro e w3 ⟨rfl, hb3⟩
    have K3 := Lib.hid (K2.out.below hb3 K2.out.lt)
    have B3 := Lib.hid (B2.out.trans (hb3.mono B2.out.size))
    clear c0 c1 c2 c3 c4 c5 c6 hb3
    have c0 := (K3.out).c0; have c1 := (K3.out).c1; have c2 := (K3.out).c2; have c3 := (K3.out).c3; have c4 := (K3.out).c4; have c5 := (K3.out).c5; have c6 := (K3.out).c6
    go_wp2_with fail
    refine (HS1.out _).mono ?_
    rintro e w4 ⟨rfl, hb4⟩
    obtain ⟨y, hy⟩ : ∃ y, y = ((iter U X j : Nat) : Int) := ⟨_, rfl⟩
    rw [← hy] at HS2
    rw [← hy]
    clear hy
    have k4 := K3.out.below hb4 K3.out.lt
    obtain ⟨W4, hW4⟩ : ∃ W4, W4 = w4.alloc (.cells #[.int .i64 K, .int .i64 W, .int .i64 T, .int .i64 m, .int .i64 f, .int .i64 a, .int .i64 y] 76) := ⟨_, rfl⟩
    have A4 : SBox W4 w4.heap.size K W T m f a y := by rw [hW4]; exact SBox.new _ _ _ _ _ _ _ _
    have K4 := Lib.hid (show SBox W4 w1.heap.size K W T m f a X by rw [hW4]; exact k4.below ((Below.refl _ _).alloc (Nat.le_refl _) _) k4.lt)
    have B4 := Lib.hid (show Below w.heap.size w W4 by rw [hW4]; exact (B3.out.trans (hb4.mono B3.out.size)).alloc (Nat.le_trans B3.out.size hb4.size) _)
    have HA4 := Lib.hid A4
    have HW4 := Lib.hid hW4
    clear c0 c1 c2 c3 c4 c5 c6 hb4 A4 k4
    have c0 := (K4.out).c0; have c1 := (K4.out).c1; have c2 := (K4.out).c2; have c3 := (K4.out).c3; have c4 := (K4.out).c4; have c5 := (K4.out).c5; have c6 := (K4.out).c6
    rw [hW4] at c0 c1 c2 c3 c4 c5 c6
    clear hW4
    go_wp2_with fail
    rw [← HW4.out]
    refine (HS2.out _).mono ?_
    rintro e w5 ⟨rfl, hb5⟩
    have k5 := K4.out.below hb5 K4.out.lt
    have a5 := HA4.out.below hb5 HA4.out.lt
    have B5 := B4.out.trans (hb5.mono B4.out.size)
    obtain ⟨W5, hW5⟩ : ∃ W5, W5 = w5.alloc (.cells #[.int .i64 K, .int .i64 W, .int .i64 T, .int .i64 m, .int .i64 f, .int .i64 a, .int .i64 y] 76) := ⟨_, rfl⟩
    have C5 : SBox W5 w5.heap.size K W T m f a y := by rw [hW5]; exact SBox.new _ _ _ _ _ _ _ _
    have A5 : SBox W5 w4.heap.size K W T m f a y := by rw [hW5]; exact a5.below ((Below.refl _ _).alloc (Nat.le_refl _) _) a5.lt
    have K5 : SBox W5 w1.heap.size K W T m f a X := by rw [hW5]; exact k5.below ((Below.refl _ _).alloc (Nat.le_refl _) _) k5.lt
    have BB5 : Below w.heap.size w W5 := by rw [hW5]; exact B5.alloc B5.size _
    have hz5 : W5.heap.size = w5.heap.size + 1 := by rw [hW5]; simp
    have hq1' := own_lit (B := W5.heap.size) W5 (Nat.le_refl _) [] (by simp)
    have HQ1 := Lib.hid hq1'
    -- the world behind the empty list and the box of the state now
    have e5 : (W5.alloc (.cells #[] 2)).heap.size = W5.heap.size + 1 := by simp
    have H0 : Hid (∀ L, LRel U X L n W5.heap.size K W T m f a w (.slice (some ⟨W5.heap.size, 0, none⟩) 0 0) (.bool true) (.int .i64 0) ((W5.alloc (.cells #[] 2)).alloc (.cells #[.int .i64 K, .int .i64 W, .int .i64 T, .int .i64 m, .int .i64 f, .int .i64 a, .int .i64 X] 76))) := Lib.hid fun L => by
      refine ⟨0, true, Nat.zero_le _, rfl, rfl, Lib.hid fun _ => Diff.zero U X, Lib.hid fun h => (by cases h), Lib.hid ?_, Lib.hid ?_, Lib.hid ?_⟩
      · exact OwnI.below hq1' ((Below.refl _ _).alloc (Nat.le_refl _) _)
      · have := SBox.new (W5.alloc (.cells #[] 2)) K W T m f a X
        rw [e5] at this
        exact this
      · exact (BB5.alloc BB5.size _).alloc (by simp; exact Nat.le_trans BB5.size (Nat.le_succ _)) _
    rw [hz5, hW5] at H0
    have u0 : SBox (W5.alloc (.cells #[] 2)) w1.heap.size K W T m f a X := K5.below ((Below.refl _ _).alloc (Nat.le_refl _) _) K5.lt
    clear c0 c1 c2 c3 c4 c5 c6
    have c0 := (A5).c0; have c1 := (A5).c1; have c2 := (A5).c2; have c3 := (A5).c3; have c4 := (A5).c4; have c5 := (A5).c5; have c6 := (A5).c6
    have d0 := (C5).c0; have d1 := (C5).c1; have d2 := (C5).c2; have d3 := (C5).c3; have d4 := (C5).c4; have d5 := (C5).c5; have d6 := (C5).c6
    have g0 := (u0).c0; have g1 := (u0).c1; have g2 := (u0).c2; have g3 := (u0).c3; have g4 := (u0).c4; have g5 := (u0).c5; have g6 := (u0).c6
    rw [hW5] at c0 c1 c2 c3 c4 c5 c6 d0 d1 d2 d3 d4 d5 d6 g0 g1 g2 g3 g4 g5 g6
    have HW5 := Lib.hid hW5
    have HB5 := Lib.hid (And.intro BB5 hz5)
    clear hb5 hW5 k5 a5 B5 C5 A5 K5 BB5 hz5 hq1' u0 HAt HCy HAp HS1 HS2 K2 K3 K4 B2 B3 B4 HA4 BB1 hL
    go_wp2
    obtain ⟨B, hB⟩ : ∃ B, B = w5.heap.size + 1 := ⟨_, rfl⟩
    rw [← hB] at H0
    rw [← hB]
    have hwB : w.heap.size ≤ B := by have := HB5.out.1.size; have := HB5.out.2; omega
    clear hB HB5 HQ1 hjb hpb hper1 c0 c1 c2 c3 c4 c5 c6 d0 d1 d2 d3 d4 d5 d6 g0 g1 g2 g3 g4 g5 g6 e5 HW5 HW4 HW1 KK1
    go_loopw [17, 19, 20] (fun sv fv iv wr => LRel U X L n B K W T m f a w sv fv iv wr) (fun _ _ iv _ => L - (intOf iv).toNat)
    case atStart => exact H0.out L
    case round =>
      obtain ⟨i, fb, hiL, rfl, rfl, HD, HF, HO, HK, HBl⟩ := hrel
      obtain ⟨i0, hi, hz0, hz1, hz2⟩ := info_parts infoI
      clear H0
      by_cases hlt : i < L
      · cases fb with
        | false =>
          have hno : decide (L ≤ n) = false := decide_eq_false (HF.out rfl)
          have HBB := Lib.hid HBl.out
          clear HD HF HO HK
          go_wp2
          go_ret
          exact ⟨by rw [hno]; rfl, HBB.out⟩
        | true =>
          obtain ⟨A1, cp, rfl, _⟩ := HO.out.form
          have HHas := Lib.hid (fun n => b10Has_any A1 cp wr.heap.size (waysL U X i) n wr HO.out.rd (by rw [waysL_len]; omega))
          have hget := Lib.hid (fun k (h : k < i) => waysL_get U X i k h)
          have HHL := Lib.hid (waysL_len U X i)
          have hxl : (waysL U X i).length ≤ 1000 := by rw [waysL_len]; omega
          have hsucc := Lib.hid (waysL_succ U X i)
          have HSk := Lib.hid (fun w => skip_yes HWay.out i 1 (by decide) w)
          have HD0 := Lib.hid (HD.out rfl)
          have c6 := HK.out.c6
          generalize hz : ((iter U X i : Nat) : Int) = z at *
          have HZ := Lib.hid hz
          generalize hzn : ((iter U X (i + 1) : Nat) : Int) = z1 at *
          have HZ1 := Lib.hid hzn
          generalize waysL U X i = xs at *
          have hown := World.ownsRow.alloc HO.out (.cells #[.int .i64 z] 2)
          have HW := Lib.hid hown
          have hBw : B ≤ wr.heap.size := by have := HK.out.lt; omega
          clear hz hzn HD HF hown
          go_wp2_with fail
          refine (HHas.out _).mono ?_
          rintro e w' ⟨r, rfl, rfl, ht, hf⟩
          have HT := Lib.hid ht
          have HFa := Lib.hid hf
          clear ht hf
          go_wp2_with (at_builtin; refine wpList_append_own_at _ rfl (.tmp 101) (.tmp 104) 55 rfl B 2 i0 (.int .i64 0) 1 8 Try.underlying55 hi hz0 hz1 hz2 rfl (by decide) _ _ _ rfl HW.out ⟨wr.heap.size, 0, none⟩ 1 1 [.int .i64 z] rfl rfl ?p1a ?p2a ?p3a ?p4a ?p5a ?_)
          try case p1a => exact news_one _ _ _ (by simp)
          try case p2a => first | exact one_int | rfl | simp
          try case p3a => first | (simp only [maxLen]; omega) | omega
          try case p4a => omega
          try case p5a => first | (simp only [World.size_alloc]; omega) | omega
          intro v' w2 hown' hg' _ he
          have BA : Below wr.heap.size wr (wr.alloc (.cells #[.int .i64 z] 2)) := (Below.refl _ _).alloc (Nat.le_refl _) _
          have KA := HK.out.below BA HK.out.lt
          have K2 := KA.kept hg' (notRow KA (HO.out.below BA))
          have O2 : Hid (OwnI w2 B v' (xs ++ [z])) := Lib.hid (RevNet.OwnI_push HO.out hBw hown')
          have B2 := Lib.hid (HBl.out.trans ((RevNet.append_below HO.out hBw hg').mono hwB))
          have HK2 := Lib.hid K2
          clear hown' hg' he BA KA HO HW c6
          have c0 := (K2).c0; have c1 := (K2).c1; have c2 := (K2).c2; have c3 := (K2).c3; have c4 := (K2).c4; have c5 := (K2).c5; have c6 := (K2).c6
          clear K2
          go_wp2_with fail
          refine (HSk.out _).mono ?_
          rintro e w3 ⟨rfl, hb3⟩
          have k3 := HK2.out.below hb3 HK2.out.lt
          have O3 := O2.out.below hb3
          have B3 := B2.out.trans (hb3.mono B2.out.size)
          obtain ⟨W6, hW6⟩ : ∃ W6, W6 = w3.alloc (.cells #[.int .i64 K, .int .i64 W, .int .i64 T, .int .i64 m, .int .i64 f, .int .i64 a, .int .i64 z1] 76) := ⟨_, rfl⟩
          have N6 : SBox W6 w3.heap.size K W T m f a z1 := by rw [hW6]; exact SBox.new _ _ _ _ _ _ _ _
          have K6 : SBox W6 (B + 1) K W T m f a z := by rw [hW6]; exact k3.below ((Below.refl _ _).alloc (Nat.le_refl _) _) k3.lt
          have O6 : OwnI W6 B v' (xs ++ [z]) := by rw [hW6]; exact O3.below ((Below.refl _ _).alloc (Nat.le_refl _) _)
          have B6 : Below w.heap.size w W6 := by rw [hW6]; exact B3.alloc B3.size _
          have g7 := grown_set7 W6 (B + 1) K W T m f a z1
          have K7 := K6.set7 K W T m f a z1
          have O7 : OwnI (set7 W6 (B + 1) K W T m f a z1) B v' (xs ++ [z]) := World.ownsRow.kept O6 g7 (.inr fun e => notRow K6 O6 e)
          have B7 := below_set7 (b := B + 1) B6 (by omega) B6.size K W T m f a z1
          have HN : Hid (LRel U X L n B K W T m f a w v' (.bool (!r)) (.int .i64 ((i : Int) + 1)) (set7 W6 (B + 1) K W T m f a z1)) := Lib.hid (by
            refine ⟨i + 1, !r, hlt, rfl, by simp, Lib.hid fun h => ?_, Lib.hid fun h => ?_, Lib.hid ?_, Lib.hid ?_, Lib.hid B7⟩
            · have hr : r = false := by cases r <;> simp_all
              refine HD0.out.step fun k hk e => ?_
              have := HFa.out hr k (by rw [HHL.out]; exact hk)
              rw [hget.out k hk, e] at this
              exact this HZ.out
            · have hr : r = true := by cases r <;> simp_all
              obtain ⟨k, hk, e⟩ := HT.out hr
              rw [HHL.out] at hk
              rw [hget.out k hk, ← HZ.out] at e
              exact HWay.out.stop hlt hk (Int.ofNat_inj.1 e)
            · rw [hsucc.out]; exact O7
            · rw [HZ1.out]; exact K7)
          have d0 := (K6).c0; have d1 := (K6).c1; have d2 := (K6).c2; have d3 := (K6).c3; have d4 := (K6).c4; have d5 := (K6).c5; have d6 := (K6).c6
          have g0 := (K6).frz 0; have g1 := (K6).frz 1; have g2 := (K6).frz 2; have g3 := (K6).frz 3; have g4 := (K6).frz 4; have g5 := (K6).frz 5; have g6 := (K6).frz 6
          have q0 := (N6).c0; have q1 := (N6).c1; have q2 := (N6).c2; have q3 := (N6).c3; have q4 := (N6).c4; have q5 := (N6).c5; have q6 := (N6).c6
          rw [hW6] at d0 d1 d2 d3 d4 d5 d6 g0 g1 g2 g3 g4 g5 g6 q0 q1 q2 q3 q4 q5 q6 HN
          clear hW6 N6 K6 O6 B6 g7 K7 O7 B7 k3 O3 B3 hb3 c0 c1 c2 c3 c4 c5 c6 HT HFa hget hsucc HD0 HZ HZ1 O2 B2 HK2 HHL
          go_wp2
          go_roundw
          case rel => exact HN.out
          case measure => simp [intOf]; omega
      · obtain rfl : i = L := by omega
        have hyes : fb = decide (i ≤ n) := by
          cases fb with
          | false => exact (decide_eq_false (HF.out rfl)).symm
          | true => exact (decide_eq_true (HWay.out.fine (HD.out rfl))).symm
        have HBB := Lib.hid HBl.out
        have HYes := Lib.hid hyes
        clear HD HF HO HK hyes
        go_wp2
        go_ret
        exact ⟨by rw [HYes.out]; simp, HBB.out⟩
theorem apart_v {w : World} {v u : Value} (h : Open.IsBytes w v) (h' : Open.IsBytes w u) : Calls Try.prog 9 #[v, u] w fun e w' => e = .returned (.bool true) ∧ Below w.heap.size w w' := by
  obtain ⟨A, c, zs, rfl, hl, hz, hx⟩ := h.ex
  obtain ⟨A', c', ys, rfl, hl', hz', hx'⟩ := h'.ex
  exact fnApart_any A A' c c' zs ys w hx hx' hl hl' hz hz'
end Go.Proofs.Ytpflbcdbmainiaa.ApartL

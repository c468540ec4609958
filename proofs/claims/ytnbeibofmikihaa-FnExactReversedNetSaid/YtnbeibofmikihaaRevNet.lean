/- The reversed net, of the program and of the reference. -/
import Derived.Test.YtnbeibofmikihaaRev
import Derived.Maps.AppendAt
import Derived.Test.YtnbeibofmikihaaPoints
namespace Go.Proofs.Ytnbeibofmikihaa.RevNet
open Go.RowKit Go.Proofs.Ytnbeibofmikihaa Go.Proofs.Ytnbeibofmikihaa.Base Go.Proofs.Ytnbeibofmikihaa.Mem Go.Proofs.Ytnbeibofmikihaa.Pts
set_option linter.unusedVariables false

def unitL (n : Nat) : List Int := (List.range n).map fun i => (2 : Int) ^ i
theorem unitL_len (n : Nat) : (unitL n).length = n := by simp [unitL]
theorem unitL_succ (n : Nat) : unitL (n + 1) = unitL n ++ [(2 : Int) ^ n] := by simp [unitL, List.range_succ]
/-- a number pushed onto a list of the call's own -/
theorem OwnI_push {wr w2 : World} {B : Nat} {v v' : Value} {xs : List Int} {x : Int} (hO : OwnI wr B v xs) (hB : B ≤ wr.heap.size)
    (hown : w2.ownsRow B 2 1 v' (xs.length + 1) (ints xs ++ [.int .i64 x])) : OwnI w2 B v' (xs ++ [x]) := by
  unfold OwnI
  rw [List.length_append, show ints (xs ++ [x]) = ints xs ++ [.int .i64 x] by simp [ints]]
  exact hown
theorem append_below {wr w2 : World} {B : Nat} {v : Value} {xs : List Int} {o : Obj} (hO : OwnI wr B v xs) (hB : B ≤ wr.heap.size) (hg : (wr.alloc o).grownBy w2 v.ownBlock) : Below B wr w2 :=
  ((Below.refl B wr).alloc hB o).trans (grown_below hg (fun g he => by
    obtain ⟨_, _, h3, _⟩ := ownsRow_block hO he
    exact h3) (by simp; omega))
def UnitRel (n : Nat) (w : World) (out i : Value) (wr : World) : Prop := ∃ k : Nat, k ≤ n ∧ i = .int .i64 (k : Int) ∧ OwnI wr w.heap.size out (unitL k) ∧ Below w.heap.size w wr
theorem UnitRel.next {n k : Nat} {w wr w2 : World} {v v' : Value} (hk : k < n) (hO : OwnI wr w.heap.size v (unitL k)) (hb : Below w.heap.size w wr)
    (hown : w2.ownsRow w.heap.size 2 1 v' (k + 1) (ints (unitL k) ++ [.int .i64 ((2 : Int) ^ k)])) (hg : (wr.alloc (.cells #[.int .i64 ((2 : Int) ^ k)] 2)).grownBy w2 v.ownBlock) :
    UnitRel n w v' (.int .i64 ((k : Int) + 1)) w2 := by
  refine ⟨k + 1, hk, by simp, ?_, hb.trans (append_below hO hb.size hg)⟩
  rw [unitL_succ]
  exact OwnI_push hO hb.size (by rw [unitL_len]; exact hown)
def UnitRet (n : Nat) (w : World) (e : Ending) (w' : World) : Prop := ∃ A c, e = .returned (.slice A n c) ∧ OwnI w' w.heap.size (.slice A n c) (unitL n) ∧ Below w.heap.size w w'
set_option maxHeartbeats 1000000 in
theorem unitRows_any (n : Nat) (w : World) (hn : n ≤ 6) : Calls Try.prog 84 #[.int .i64 n] w (UnitRet n w) := by
  obtain ⟨i0, hi, hz0, hz1, hz2⟩ := info_parts infoI
  have h0 : UnitRel n w (.slice (some ⟨w.heap.size, 0, none⟩) 0 0) (.int .i64 0) (w.alloc (.cells #[] 2)) :=
    ⟨0, Nat.zero_le _, rfl, own_lit w (Nat.le_refl _) [] (by simp), (Below.refl _ _).alloc (Nat.le_refl _) _⟩
  have H0 := Lib.hid h0
  clear h0
  go_enter Try.func84, Try.ntmps84
  go_wp2
  go_loopw [3, 7] (fun out i wr => UnitRel n w out i wr) (fun _ i _ => n - (intOf i).toNat)
  case atStart => exact H0.out
  case round =>
    obtain ⟨k, hk, rfl, hO, hb⟩ := hrel
    by_cases hlt : k < n
    · obtain ⟨p1, p2⟩ := pw_bd6 (b := k) (by omega)
      have HO := Lib.hid hO
      have HB := Lib.hid hb
      have hlen := unitL_len k
      have hsz := hb.size
      have hown := World.ownsRow.alloc hO (.cells #[.int .i64 ((2 : Int) ^ k)] 2)
      rw [hlen] at hown
      have HW := Lib.hid hown
      clear hO hb hown
      go_wp2_with (at_builtin; refine wpList_append_own _ rfl (.tmp 10) (.tmp 13) 33 rfl w.heap.size 2 i0 (.int .i64 0) 1 8 Try.underlying33 hi hz0 hz1 hz2 rfl (by decide) _ _ _ rfl HW.out ⟨wr.heap.size, 0, none⟩ 1 1 [.int .i64 ((2 : Int) ^ k)] rfl rfl ?c1 ?c2 ?c3 ?c4 ?c5 ?_)
      case c1 => exact news_one _ _ _ rfl
      case c2 => exact one_int
      case c3 => simp only [maxLen]; omega
      case c4 => omega
      case c5 => simp only [World.size_alloc]; omega
      intro v' w2 hown' hg' _
      have HN := Lib.hid (UnitRel.next (w := w) hlt HO.out HB.out hown' hg')
      clear hown' hg'
      go_wp2
      go_roundw
      case rel => exact HN.out
      case measure => simp [intOf]; omega
    · obtain rfl : k = n := by omega
      have HO := Lib.hid hO
      have HB := Lib.hid hb
      clear hO hb
      go_wp2
      go_ret
      obtain ⟨A, c, e, _⟩ := HO.out.form
      rw [unitL_len] at e
      subst e
      exact ⟨A, c, rfl, HO.out, HB.out⟩

/-- two lists of the call's own in a new list of them -/
theorem OwnII.two {w : World} {B : Nat} {u1 u2 : Value} {ys1 ys2 : List Int} (h1 : OwnI w B u1 ys1) (h2 : OwnI w B u2 ys2) (hB : B ≤ w.heap.size) (ha : ∀ g, u1.ownBlock = some g → u2.ownBlock ≠ some g) :
    OwnII (w.alloc (.cells #[u1, u2] 33)) B (.slice (some ⟨w.heap.size, 0, none⟩) 2 2) [ys1, ys2] [u1, u2] := by
  refine ⟨rfl, ?_, fun i hi => ?_, fun i j g hij hj hg => ?_⟩
  · exact World.ownsRow_lit (e := 33) (size := 1) (base := B) w #[u1, u2] 2 hB (by simp [maxLen]) rfl
  · match i, hi with
    | 0, _ => exact World.ownsRow.alloc h1 _
    | 1, _ => exact World.ownsRow.alloc h2 _
  · have hj' : j < 2 := hj
    obtain rfl : i = 0 := by omega
    obtain rfl : j = 1 := by omega
    exact ha g hg
theorem OwnII.two_set {w : World} {B b : Nat} {u1 u2 x y : Value} {ys1 ys2 : List Int} (h1 : OwnI w B u1 ys1) (h2 : OwnI w B u2 ys2) (hB : B ≤ w.heap.size) (ha : ∀ g, u1.ownBlock = some g → u2.ownBlock ≠ some g) (hb : b < B) :
    OwnII (((w.setCell ⟨b, 0, none⟩ x).setCell ⟨b, 1, none⟩ y).alloc (.cells #[u1, u2] 33)) B (.slice (some ⟨w.heap.size, 0, none⟩) 2 2) [ys1, ys2] [u1, u2] := by
  have hz : ((w.setCell ⟨b, 0, none⟩ x).setCell ⟨b, 1, none⟩ y).heap.size = w.heap.size := by simp
  have := OwnII.two (w := (w.setCell ⟨b, 0, none⟩ x).setCell ⟨b, 1, none⟩ y) (ownsRow_setCell_below (ownsRow_setCell_below h1 (a := ⟨b, 0, none⟩) hb x) (a := ⟨b, 1, none⟩) hb y) (ownsRow_setCell_below (ownsRow_setCell_below h2 (a := ⟨b, 0, none⟩) hb x) (a := ⟨b, 1, none⟩) hb y) (by rw [hz]; exact hB) ha
  rw [hz] at this
  exact this
/-- the rows of the first matrix -/
def revL (n : Nat) : List Int := (List.range n).map fun i => (2 : Int) ^ (n - 1 - i)
theorem unitL_rev (n : Nat) : (unitL n).reverse = revL n := by
  refine getD_ext 0 (by simp [unitL, revL]) fun i hi => ?_
  have hn : i < n := by simpa [unitL] using hi
  have h1 : (unitL n).reverse.getD i 0 = (unitL n).getD (n - 1 - i) 0 := by
    have := List.getElem?_reverse (l := unitL n) (i := i) (by rw [unitL_len]; exact hn)
    rw [List.getD, List.getD, this, unitL_len]
  rw [h1]
  simp [unitL, revL, hn, List.getD, show n - 1 - i < n by omega]
def RevRet (n : Nat) (w : World) (e : Ending) (w' : World) : Prop :=
  ∃ g us, e = .returned (.tuple #[.agg #[.int .i64 (n : Int), .slice (some ⟨g, 0, none⟩) 2 2], .bool true]) ∧ OwnII w' w.heap.size (.slice (some ⟨g, 0, none⟩) 2 2) [revL n, unitL n] us ∧ Below w.heap.size w w'
set_option maxHeartbeats 1000000 in
theorem implRev_yes (n : Nat) (w : World) (hn : n ≤ 6) : Calls Try.prog 42 #[.int .i64 n] w (RevRet n w) := by
  have i1 := inR_yes (n := (n : Int)) (lo := 0) (hi := 6) (by omega)
  go_enter Try.func42, Try.ntmps42
  go_wp2_with (go_at_call 74; refine (isNetBits_any _ _).mono ?_; rintro e w' ⟨rfl, rfl⟩)
  obtain ⟨W0, hW0⟩ : ∃ W0, W0 = w.alloc (.cells #[.int .i64 0, .slice none 0 0] 61) := ⟨_, rfl⟩
  have hz0 : W0.heap.size = w.heap.size + 1 := by rw [hW0]; simp
  have c0 : W0.cell? ⟨w.heap.size, 0, none⟩ = some (.int .i64 0) := by rw [hW0]; go_simp
  have c1 : W0.cell? ⟨w.heap.size, 1, none⟩ = some (.slice none 0 0) := by rw [hW0]; go_simp
  have f0 : ∀ i, W0.frozen? ⟨w.heap.size, i, none⟩ = false := fun i => by rw [hW0]; go_simp
  have B0 := Lib.hid (show Below w.heap.size w W0 by rw [hW0]; exact (Below.refl _ _).alloc (Nat.le_refl _) _)
  rw [← hW0]
  clear hW0
  refine (unitRows_any n W0 hn).mono ?_
  rintro e w1 ⟨A1, c1', rfl, o1, b1⟩
  have O1 := Lib.hid o1
  have B1 := Lib.hid b1
  have hul := unitL_len n
  have R1 := Lib.hid (Rev.reverse_any A1 c1' W0.heap.size (unitL n) w1 (by rw [hul]; exact o1) (by omega))
  rw [hul] at R1
  clear o1 b1
  go_wp2_with fail
  refine R1.out.mono ?_
  rintro e w2 ⟨rfl, o2, g2⟩
  rw [unitL_rev] at o2
  have O2 := Lib.hid o2
  have B2 := Lib.hid (show Below W0.heap.size W0 w2 from B1.out.trans (grown_below g2 (fun q hq => by
    obtain ⟨_, _, h3, _⟩ := ownsRow_block o2 hq
    exact h3) B1.out.size))
  clear o2 g2
  go_wp2_with fail
  refine (unitRows_any n w2 hn).mono ?_
  rintro e w3 ⟨A3, c3', rfl, o3, b3⟩
  have B3 := Lib.hid (Base.Below.nextA B2.out b3)
  have e0 := (B3.out.cell (p := ⟨w.heap.size, 0, none⟩) (by show w.heap.size < _; omega)).trans c0
  have e1 := (B3.out.cell (p := ⟨w.heap.size, 1, none⟩) (by show w.heap.size < _; omega)).trans c1
  have k0 := (B3.out.frozen (p := ⟨w.heap.size, 0, none⟩) (by show w.heap.size < _; omega)).trans (f0 0)
  have k1 := (B3.out.frozen (p := ⟨w.heap.size, 1, none⟩) (by show w.heap.size < _; omega)).trans (f0 1)
  have O3 := Lib.hid (fun x y => OwnII.two_set (b := w.heap.size) (x := x) (y := y) (O2.out.below b3) (ownsRow_base o3 B2.out.size) (Nat.le_trans B2.out.size b3.size) (fun g h1 h2 => by
    obtain ⟨_, _, _, q1⟩ := ownsRow_block O2.out h1
    obtain ⟨_, _, q2, _⟩ := ownsRow_block o3 h2
    omega) (by omega))
  have hz3 : w.heap.size < w3.heap.size := by have := B3.out.size; omega
  clear o3 b3 c0 c1 f0
  go_wp2
  refine bodyPost_ret (v := .tuple #[.agg #[.int .i64 (n : Int), .slice (some ⟨w3.heap.size, 0, none⟩) 2 2], .bool true]) (by simp [results, Try.results42, go_sem, hz3, e0, e1]) rfl ?_
  exact ⟨w3.heap.size, _, rfl, (O3.out _ _).base (by omega), (((B0.out.trans (B3.out.mono (by omega))).setCell (Nat.le_refl _) _).setCell (Nat.le_refl _) _).alloc (by simp; omega) _⟩

/-! ### The reference's net -/
def RevRel (n : Nat) (w : World) (b : Nat) (v1 v2 i : Value) (wr : World) : Prop :=
  ∃ k : Nat, k ≤ n ∧ i = .int .i64 (k : Int) ∧ OwnI wr (b + 1) v1 ((revL n).take k) ∧ OwnI wr (b + 1) v2 (unitL k) ∧ (∀ g, v1.ownBlock = some g → v2.ownBlock ≠ some g) ∧ Below (b + 1) w wr
theorem revL_take (n k : Nat) (h : k < n) : (revL n).take (k + 1) = (revL n).take k ++ [(2 : Int) ^ (n - 1 - k)] := by
  have hl : k < (revL n).length := by simp [revL]; exact h
  rw [List.take_succ_eq_append_getElem hl]
  simp [revL]
/-- what an append leaves of a list beside it -/
theorem beside {wr w2 : World} {B : Nat} {v u : Value} {xs ys : List Int} {o : Obj} (hO : OwnI wr B v xs) (hu : OwnI wr B u ys) (ha : ∀ g, v.ownBlock = some g → u.ownBlock ≠ some g) (hg : (wr.alloc o).grownBy w2 v.ownBlock) : OwnI w2 B u ys := by
  refine World.ownsRow.kept (World.ownsRow.alloc hu o) hg ?_
  rcases hv : u.ownBlock with _ | g
  · exact .inl rfl
  · exact .inr fun e => ha g e.symm hv
theorem RevRel.next {n k b : Nat} {w wr w2 w4 : World} {v1 v2 u1 u2 : Value} {o o' : Obj} (hk : k < n) (hB : b + 1 ≤ w.heap.size)
    (h1 : OwnI wr (b + 1) v1 ((revL n).take k)) (h2 : OwnI wr (b + 1) v2 (unitL k)) (ha : ∀ g, v1.ownBlock = some g → v2.ownBlock ≠ some g) (hb : Below (b + 1) w wr)
    (n1 : OwnI w2 (b + 1) u1 ((revL n).take (k + 1))) (g1 : (wr.alloc o).grownBy w2 v1.ownBlock) (e1 : u1.ownBlock = v1.ownBlock ∨ u1.ownBlock = some (wr.heap.size + 1))
    (n2 : OwnI w4 (b + 1) u2 (unitL (k + 1))) (g2 : (w2.alloc o').grownBy w4 v2.ownBlock) (e2 : u2.ownBlock = v2.ownBlock ∨ u2.ownBlock = some (w2.heap.size + 1)) :
    RevRel n w b u1 u2 (.int .i64 ((k : Int) + 1)) w4 := by
  have hb1 : Below (b + 1) wr w2 := append_below h1 (Nat.le_trans hB hb.size) g1
  have hb2 : Below (b + 1) w w2 := hb.trans hb1
  have hv2 : OwnI w2 (b + 1) v2 (unitL k) := beside h1 h2 ha g1
  have hs : wr.heap.size + 1 ≤ w2.heap.size := by
    have := g1.size
    simpa using this
  have hu1 : ∀ g, v2.ownBlock = some g → u1.ownBlock ≠ some g := fun g hg he => by
    rcases e1 with e | e
    · exact ha g (e.symm.trans he) hg
    · obtain ⟨_, _, _, q⟩ := ownsRow_block h2 hg
      rw [e] at he
      injection he with he
      omega
  refine ⟨k + 1, hk, by simp, beside hv2 n1 hu1 g2, n2, fun g he hg => ?_, hb2.trans (append_below hv2 (Nat.le_trans hB hb2.size) g2)⟩
  rcases e2 with e | e
  · exact hu1 g (e.symm.trans hg) he
  · obtain ⟨_, _, _, q⟩ := ownsRow_block n1 he
    rw [e] at hg
    injection hg with hg
    omega
theorem revL_len (n : Nat) : (revL n).length = n := by simp [revL]
set_option maxHeartbeats 2000000 in
set_option maxRecDepth 100000 in
theorem specRev_yes (n : Nat) (w : World) (hn : n ≤ 6) : Calls Try.prog 41 #[.int .i64 n] w (RevRet n w) := by
  obtain ⟨i0, hi, hz0, hz1, hz2⟩ := info_parts infoI
  have i1 := inR_yes (n := (n : Int)) (lo := 0) (hi := 6) (by omega)
  go_enter Try.func41, Try.ntmps41
  go_wp2_with (go_at_call 83; refine (l10Bits_any _ _).mono ?_; rintro e w' ⟨rfl, rfl⟩)
  obtain ⟨W0, hW0⟩ : ∃ W0, W0 = w.alloc (.cells #[.int .i64 0, .slice none 0 0] 61) := ⟨_, rfl⟩
  have hz0' : W0.heap.size = w.heap.size + 1 := by rw [hW0]; simp
  have c0 : W0.cell? ⟨w.heap.size, 0, none⟩ = some (.int .i64 0) := by rw [hW0]; go_simp
  have c1 : W0.cell? ⟨w.heap.size, 1, none⟩ = some (.slice none 0 0) := by rw [hW0]; go_simp
  have f0 : ∀ i, W0.frozen? ⟨w.heap.size, i, none⟩ = false := fun i => by rw [hW0]; go_simp
  have B0 := Lib.hid (show Below w.heap.size w W0 by rw [hW0]; exact (Below.refl _ _).alloc (Nat.le_refl _) _)
  rw [← hW0]
  clear hW0
  have H0 := Lib.hid (show RevRel n W0 w.heap.size (.slice (some ⟨w.heap.size + 1, 0, none⟩) 0 0) (.slice (some ⟨w.heap.size + 1 + 1, 0, none⟩) 0 0) (.int .i64 0) ((W0.alloc (.cells #[] 2)).alloc (.cells #[] 2)) from by
    have q1 := own_lit (B := w.heap.size + 1) W0 (by omega) [] (by simp)
    have q2 := own_lit (B := w.heap.size + 1) (W0.alloc (.cells #[] 2)) (by simp; omega) [] (by simp)
    rw [hz0'] at q1
    have hz1' : (W0.alloc (.cells #[] 2)).heap.size = w.heap.size + 1 + 1 := by simp [hz0']
    rw [hz1'] at q2
    refine ⟨0, Nat.zero_le _, rfl, ?_, q2, ?_, ((Below.refl _ _).alloc (by omega) _).alloc (by simp; omega) _⟩
    · exact World.ownsRow.alloc q1 _
    · intro g h1 h2
      have e1 : (w.heap.size + 1) = g := Option.some.inj h1
      have e2 : (w.heap.size + 1 + 1) = g := Option.some.inj h2
      omega)
  go_loopw [4, 5, 6] (fun v1 v2 i wr => RevRel n W0 w.heap.size v1 v2 i wr) (fun _ _ i _ => n - (intOf i).toNat)
  case atStart => exact H0.out
  case round =>
    obtain ⟨k, hk, rfl, hO1, hO2, ha, hb⟩ := hrel
    have hw0 : w.heap.size + 1 ≤ W0.heap.size := by omega
    by_cases hlt : k < n
    · obtain ⟨p1, p2⟩ := pw_bd6 (b := k) (by omega)
      obtain ⟨r1, r2⟩ := pw_bd6 (b := n - 1 - k) (by omega)
      have he : ((n - 1 - k : Nat) : Int) = (n : Int) - 1 - k := by omega
      have HO1 := Lib.hid hO1
      have HO2 := Lib.hid hO2
      have HB := Lib.hid hb
      have HA := Lib.hid ha
      have hlen := unitL_len k
      have hlen1 : ((revL n).take k).length = k := by rw [List.length_take, revL_len]; omega
      have hsz := hb.size
      have hown := World.ownsRow.alloc hO1 (.cells #[.int .i64 ((2 : Int) ^ (n - 1 - k))] 2)
      rw [hlen1] at hown
      have HW := Lib.hid hown
      clear hO1 hO2 ha hb hown
      go_wp2_with (at_builtin; refine wpList_append_own_at _ rfl (.tmp 18) (.tmp 25) 33 rfl (w.heap.size + 1) 2 i0 (.int .i64 0) 1 8 Try.underlying33 hi hz0 hz1 hz2 rfl (by decide) _ _ _ rfl HW.out ⟨wr.heap.size, 0, none⟩ 1 1 [.int .i64 ((2 : Int) ^ (n - 1 - k))] rfl rfl ?c1 ?c2 ?c3 ?c4 ?c5 ?_)
      case c1 => exact news_one _ _ _ rfl
      case c2 => exact one_int
      case c3 => simp only [maxLen]; omega
      case c4 => omega
      case c5 => simp only [World.size_alloc]; omega
      intro u1 w2 hown' hg' _ he1
      have N1 := Lib.hid (show OwnI w2 (w.heap.size + 1) u1 ((revL n).take (k + 1)) from by
        rw [revL_take n k hlt]
        exact OwnI_push HO1.out (Nat.le_trans hw0 hsz) (by rw [hlen1]; exact hown'))
      have G1 := Lib.hid hg'
      have E1 := Lib.hid he1
      have o2 := beside HO1.out HO2.out HA.out hg'
      have hown2 := World.ownsRow.alloc o2 (.cells #[.int .i64 ((2 : Int) ^ k)] 2)
      rw [hlen] at hown2
      have HW2 := Lib.hid hown2
      have HO2' := Lib.hid o2
      have hsz2 : w.heap.size + 1 ≤ w2.heap.size := by have := hg'.size; simp at this; omega
      clear hown' hg' he1 o2 hown2
      go_wp2_with (at_builtin; refine wpList_append_own_at _ rfl (.tmp 27) (.tmp 31) 33 rfl (w.heap.size + 1) 2 i0 (.int .i64 0) 1 8 Try.underlying33 hi hz0 hz1 hz2 rfl (by decide) _ _ _ rfl HW2.out ⟨w2.heap.size, 0, none⟩ 1 1 [.int .i64 ((2 : Int) ^ k)] rfl rfl ?c1 ?c2 ?c3 ?c4 ?c5 ?_)
      case c1 => exact news_one _ _ _ rfl
      case c2 => exact one_int
      case c3 => simp only [maxLen]; omega
      case c4 => omega
      case c5 => simp only [World.size_alloc]; omega
      intro u2 w4 hown' hg' _ he2
      have N2 := Lib.hid (show OwnI w4 (w.heap.size + 1) u2 (unitL (k + 1)) from by
        rw [unitL_succ]
        exact OwnI_push HO2'.out hsz2 (by rw [hlen]; exact hown'))
      have HN := Lib.hid (RevRel.next (w := W0) (b := w.heap.size) hlt hw0 HO1.out HO2.out HA.out HB.out N1.out G1.out (by simpa using E1.out) N2.out hg' (by simpa using he2))
      clear hown' hg' he2
      go_wp2
      go_roundw
      case rel => exact HN.out
      case measure => simp [intOf]; omega
    · obtain rfl : k = n := by omega
      rw [show (revL k).take k = revL k from List.take_of_length_le (by rw [revL_len]; exact Nat.le_refl _)] at hO1
      obtain ⟨A4, c4, e4, _⟩ := hO1.form
      obtain ⟨A5, c5, e5, _⟩ := hO2.form
      rw [revL_len] at e4
      rw [unitL_len] at e5
      subst e4
      subst e5
      have B3 := Lib.hid hb
      have hz3 : w.heap.size < wr.heap.size := by have := hb.size; omega
      have e0 := (hb.cell (p := ⟨w.heap.size, 0, none⟩) (by show w.heap.size < _; omega)).trans c0
      have e1 := (hb.cell (p := ⟨w.heap.size, 1, none⟩) (by show w.heap.size < _; omega)).trans c1
      have k0 := (hb.frozen (p := ⟨w.heap.size, 0, none⟩) (by show w.heap.size < _; omega)).trans (f0 0)
      have k1 := (hb.frozen (p := ⟨w.heap.size, 1, none⟩) (by show w.heap.size < _; omega)).trans (f0 1)
      have O3 := Lib.hid (fun x y => OwnII.two_set (b := w.heap.size) (x := x) (y := y) hO1 hO2 (Nat.le_trans hw0 hb.size) ha (by omega))
      clear hO1 hO2 ha hb c0 c1 f0
      go_wp2
      refine bodyPost_ret (v := .tuple #[.agg #[.int .i64 (k : Int), .slice (some ⟨wr.heap.size, 0, none⟩) 2 2], .bool true]) (by simp [results, Try.results41, go_sem, hz3, e0, e1]) rfl ?_
      exact ⟨wr.heap.size, _, rfl, (O3.out _ _).base (by omega), (((B0.out.trans (B3.out.mono (by omega))).setCell (Nat.le_refl _) _).setCell (Nat.le_refl _) _).alloc (by simp; omega) _⟩
end Go.Proofs.Ytnbeibofmikihaa.RevNet

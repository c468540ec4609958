/- The law on the reversed net. -/
import Derived.Test.YtnbeibofmikihaaRevNet
import Derived.Test.YtnbeibofmikihaaNetLaw
namespace Go.Proofs.Ytnbeibofmikihaa.RevNet
open Go.RowKit Go.Proofs.Ytnbeibofmikihaa Go.Proofs.Ytnbeibofmikihaa.Base Go.Proofs.Ytnbeibofmikihaa.Mem Go.Proofs.Ytnbeibofmikihaa.Pts Go.Proofs.Ytnbeibofmikihaa.NetV
set_option linter.unusedVariables false

/-- no net: the empty one -/
def NoNet (w : World) (e : Ending) (w' : World) : Prop := e = .returned (.tuple #[.agg #[.int .i64 0, .slice none 0 0], .bool false]) ∧ Below w.heap.size w w'
theorem specRev_no (n : Int) (w : World) (h : inR n 0 6 = false) : Calls Try.prog 41 #[.int .i64 n] w (NoNet w) := by
  have hb := (Below.refl w.heap.size w).alloc (Nat.le_refl _) (.cells #[.int .i64 0, .slice none 0 0] 61)
  have HB := Lib.hid hb
  clear hb
  go_enter Try.func41, Try.ntmps41
  go_wp2_with (go_at_call 83; refine (l10Bits_any _ _).mono ?_; rintro e w' ⟨rfl, rfl⟩)
  refine bodyPost_ret (v := .tuple #[.agg #[.int .i64 0, .slice none 0 0], .bool false]) (by simp [results, Try.results41, go_sem]) rfl ⟨rfl, HB.out⟩
theorem implRev_no (n : Int) (w : World) (h : inR n 0 6 = false) : Calls Try.prog 42 #[.int .i64 n] w (NoNet w) := by
  have hb := (Below.refl w.heap.size w).alloc (Nat.le_refl _) (.cells #[.int .i64 0, .slice none 0 0] 61)
  have HB := Lib.hid hb
  clear hb
  go_enter Try.func42, Try.ntmps42
  go_wp2_with (go_at_call 74; refine (isNetBits_any _ _).mono ?_; rintro e w' ⟨rfl, rfl⟩)
  refine bodyPost_ret (v := .tuple #[.agg #[.int .i64 0, .slice none 0 0], .bool false]) (by simp [results, Try.results42, go_sem]) rfl ⟨rfl, HB.out⟩
theorem block_lt {w : World} {g : Nat} {o : Obj} (h : w.heap[g]? = some o) : g < w.heap.size := by
  rcases Nat.lt_or_ge g w.heap.size with hlt | hge
  · exact hlt
  · rw [Array.getElem?_eq_none hge] at h; cases h
theorem notInts_below {w w' : World} (h : Below w.heap.size w w') : NotInts w w' := fun g cur t hg _ => (h.block g (block_lt hg)).trans hg
/-- a box with a net in it -/
def Box (w : World) (g : Nat) (bits : Int) (v : Value) : Prop := w.heap[g]? = some (.cells #[.int .i64 bits, v] 61 (0, 0))
theorem Box.new (w : World) (bits : Int) (v : Value) : Box (w.alloc (.cells #[.int .i64 bits, v] 61)) w.heap.size bits v := by
  unfold Box
  show (w.heap.push _)[w.heap.size]? = _
  simp
theorem Box.lt {w : World} {g : Nat} {bits : Int} {v : Value} (h : Box w g bits v) : g < w.heap.size := block_lt h
theorem Box.kept {w w' : World} {g : Nat} {bits : Int} {v : Value} (h : Box w g bits v) (k : NotInts w w') : Box w' g bits v := k g _ _ h (by decide)
theorem Box.below {w w' : World} {g : Nat} {bits : Int} {v : Value} (h : Box w g bits v) (k : Below w.heap.size w w') : Box w' g bits v := h.kept (notInts_below k)
theorem Box.c0 {w : World} {g : Nat} {bits : Int} {v : Value} (h : Box w g bits v) : w.cell? ⟨g, 0, none⟩ = some (.int .i64 bits) := by
  unfold Box at h
  simp [World.cell?, h]
theorem Box.c1 {w : World} {g : Nat} {bits : Int} {v : Value} (h : Box w g bits v) : w.cell? ⟨g, 1, none⟩ = some v := by
  unfold Box at h
  simp [World.cell?, h]
theorem markNet_any (A : Option Addr) (c B k : Nat) (bits : Int) (xss : List (List Int)) (us : List Value) (w : World) (hx : OwnII w B (.slice A xss.length c) xss us) (hB : B ≤ w.heap.size) (hm : k + tot xss ≤ 1099511627776) (hm' : xss.length ≤ 1099511627776) :
    Calls Try.prog 44 #[.agg #[.int .i64 bits, .slice A xss.length c], .int .i64 k] w fun e w' => e = .returned (.int .i64 ((k + tot xss : Nat) : Int)) ∧ OwnII w' B (.slice A xss.length c) (mk k xss) us ∧ Below B w w' ∧ NotInts w w' := by
  have hb : Below B w (w.alloc (.cells #[.int .i64 bits, .slice A xss.length c] 61)) := (Below.refl _ _).alloc hB _
  have hb' := (Below.refl w.heap.size w).alloc (Nat.le_refl _) (.cells #[.int .i64 bits, .slice A xss.length c] 61)
  have HC := Lib.hid (markII_full A c B k xss us _ (hx.below hb') (by simp; omega) hm hm')
  have HB := Lib.hid hb
  have HN := Lib.hid (notInts_below hb')
  clear hb hb' hx
  go_enter Try.func44, Try.ntmps44
  go_wp2_with fail
  refine HC.out.mono ?_
  rintro e w1 ⟨rfl, o1, b1, n1⟩
  have H1 := Lib.hid (And.intro o1 (And.intro (HB.out.trans b1) (HN.out.trans n1)))
  clear o1 b1 n1
  go_wp2
  go_ret
  exact ⟨rfl, H1.out.1, H1.out.2.1, H1.out.2.2⟩
theorem heldNet_yes (A : Option Addr) (c B k : Nat) (bits : Int) (xss : List (List Int)) (w : World) (hx : RdII w B A (mk k xss)) (hB : B ≤ w.heap.size) (hm : k + tot xss ≤ 1099511627776) (hm' : xss.length ≤ 1099511627776) :
    Calls Try.prog 45 #[.agg #[.int .i64 bits, .slice A xss.length c], .int .i64 k] w fun e w' => e = .returned (.int .i64 ((k + tot xss : Nat) : Int)) ∧ Below w.heap.size w w' := by
  have hb' := (Below.refl w.heap.size w).alloc (Nat.le_refl _) (.cells #[.int .i64 bits, .slice A xss.length c] 61)
  have HC := Lib.hid (heldII_yes A c B k xss _ (hx.below hb' hB) hm hm')
  have HB := Lib.hid hb'
  clear hb' hx
  go_enter Try.func45, Try.ntmps45
  go_wp2_with fail
  refine HC.out.mono ?_
  rintro e w1 ⟨rfl, rfl⟩
  go_wp2
  go_ret
  exact ⟨rfl, HB.out⟩
/-- a net made, of these numbers -/
def GNetRet (bits : Int) (ok : Bool) (xss : List (List Int)) (w : World) (e : Ending) (w' : World) : Prop :=
  ∃ A c us, e = .returned (.tuple #[.agg #[.int .i64 bits, .slice A xss.length c], .bool ok]) ∧ OwnII w' w.heap.size (.slice A xss.length c) xss us ∧ Below w.heap.size w w'
theorem GNetRet.of_no {w : World} {e : Ending} {w' : World} (h : NoNet w e w') : GNetRet 0 false [] w e w' := ⟨none, 0, [], h.1, OwnII.nil _ _, h.2⟩
theorem GNetRet.of_rev {n : Nat} {w : World} {e : Ending} {w' : World} (h : RevRet n w e w') : GNetRet n true [revL n, unitL n] w e w' := by
  obtain ⟨g, us, h1, h2, h3⟩ := h
  exact ⟨some ⟨g, 0, none⟩, 2, us, h1, h2, h3⟩
theorem rev_both (n : Int) : ∃ bits ok xss, xss.length ≤ 2 ∧ tot xss ≤ 12 ∧ (∀ w, Calls Try.prog 41 #[.int .i64 n] w (GNetRet bits ok xss w)) ∧ (∀ w, Calls Try.prog 42 #[.int .i64 n] w (GNetRet bits ok xss w)) := by
  cases h : inR n 0 6 with
  | false => exact ⟨0, false, [], by simp, by simp [tot], fun w => (specRev_no n w h).mono fun e w' q => .of_no q, fun w => (implRev_no n w h).mono fun e w' q => .of_no q⟩
  | true =>
    have hr : 0 ≤ n ∧ n ≤ 6 := by simpa [inR] using h
    obtain ⟨k, rfl⟩ : ∃ k : Nat, n = k := ⟨n.toNat, by omega⟩
    have hk : k ≤ 6 := by omega
    exact ⟨k, true, [revL k, unitL k], by simp, by simp [tot, revL_len, unitL_len]; omega, fun w => (specRev_yes k w hk).mono fun e w' q => .of_rev q, fun w => (implRev_yes k w hk).mono fun e w' q => .of_rev q⟩

set_option maxHeartbeats 1000000 in
theorem exactReversedNet_any (n : Int) (w : World) :
    Calls Try.prog 12 #[.int .i64 n] w fun e w' => e = .returned (.bool true) ∧ Below w.heap.size w w' := by
  obtain ⟨bits, ok, xss, hL, hT, hS, hI⟩ := rev_both n
  have HS := Lib.hid hS
  have HI := Lib.hid hI
  clear hS hI
  go_enter Try.func12, Try.ntmps12
  go_wp2_with fail
  refine (HS.out _).mono ?_
  rintro e w1 ⟨A0, c0, us0, rfl, o0, b1⟩
  have O0 := Lib.hid o0
  have B1 := Lib.hid b1
  clear o0 b1
  go_wp2_with fail
  obtain ⟨W1, hW1⟩ : ∃ W1, W1 = w1.alloc (.cells #[.int .i64 bits, .slice A0 xss.length c0] 61) := ⟨_, rfl⟩
  have zW1 : W1.heap.size = w1.heap.size + 1 := by rw [hW1]; simp
  have XW1 := Lib.hid (show Below w1.heap.size w1 W1 by rw [hW1]; exact (Below.refl _ _).alloc (Nat.le_refl _) _)
  have KW1 := Lib.hid (show Box W1 w1.heap.size bits (.slice A0 xss.length c0) by rw [hW1]; exact Box.new _ _ _)
  rw [← hW1]
  clear hW1
  have O0' := Lib.hid (O0.out.below XW1.out)
  refine (HI.out W1).mono ?_
  rintro e w2 ⟨A1, c1, us1, rfl, o1, b2⟩
  have O1 := Lib.hid o1
  have B2 := Lib.hid b2
  have hs2 := b2.size
  have K12 := Lib.hid (KW1.out.below b2)
  have l12 := K12.out.lt
  clear o1 b2
  have q0a := K12.out.c0
  have q0b := K12.out.c1
  go_wp2_with fail
  clear q0a q0b
  obtain ⟨W2, hW2⟩ : ∃ W2, W2 = w2.alloc (.cells #[.int .i64 bits, .slice A1 xss.length c1] 61) := ⟨_, rfl⟩
  have zW2 : W2.heap.size = w2.heap.size + 1 := by rw [hW2]; simp
  have XW2 := Lib.hid (show Below w2.heap.size w2 W2 by rw [hW2]; exact (Below.refl _ _).alloc (Nat.le_refl _) _)
  have KW2 := Lib.hid (show Box W2 w2.heap.size bits (.slice A1 xss.length c1) by rw [hW2]; exact Box.new _ _ _)
  rw [← hW2]
  clear hW2
  have O1' := Lib.hid (O1.out.below XW2.out)
  have O2 := Lib.hid ((O0'.out.below B2.out).below XW2.out)
  have BW2 := Lib.hid (Base.Below.nextA B2.out XW2.out)
  have K1W := Lib.hid (K12.out.below XW2.out)
  refine (eqNet_yes A1 A0 c1 c0 W2.heap.size W2.heap.size bits xss W2 O1'.out.rd O2.out.rd (by omega) (by omega) (by omega) (by omega)).mono ?_
  rintro e w3 ⟨rfl, hd⟩
  have hs3 := hd.size
  have O13 := Lib.hid (O1'.out.below hd)
  have B3 := Lib.hid (Base.Below.nextA BW2.out hd)
  have K13 := Lib.hid (K1W.out.below hd)
  have K23 := Lib.hid (KW2.out.below hd)
  have O03 := Lib.hid (O2.out.below hd)
  clear hd
  have q0a := K13.out.c0
  have q0b := K13.out.c1
  have q1a := K23.out.c0
  have q1b := K23.out.c1
  go_wp2_with fail
  clear q0a q0b q1a q1b
  refine (markNet_any A1 c1 W1.heap.size 1 bits xss us1 w3 O13.out (by omega) (by omega) (by omega)).mono ?_
  rintro e w4 ⟨rfl, o4, b4, n4⟩
  have O4 := Lib.hid o4
  have B4 := Lib.hid (B3.out.trans b4)
  have hs4 := b4.size
  have K14 := Lib.hid (K13.out.kept n4)
  have K24 := Lib.hid (K23.out.kept n4)
  have O04 := Lib.hid (O0'.out.below (B3.out.trans b4))
  clear o4 b4 n4
  have h4 : 1 + tot xss ≤ 1099511627776 := by omega
  have q0a := K14.out.c0
  have q0b := K14.out.c1
  have q1a := K24.out.c0
  have q1b := K24.out.c1
  go_wp2_with fail
  clear q0a q0b q1a q1b
  refine (heldNet_yes A1 c1 w4.heap.size 1 bits xss w4 (by have := O4.out; rw [← mk_len 1 xss] at this; exact this.rd) (by omega) (by omega) (by omega)).mono ?_
  rintro e w5 ⟨rfl, b5⟩
  have B5 := Lib.hid b5
  have hs5 := b5.size
  have K15 := Lib.hid (K14.out.below b5)
  have K25 := Lib.hid (K24.out.below b5)
  clear b5
  have q0a := K15.out.c0
  have q0b := K15.out.c1
  have q1a := K25.out.c0
  have q1b := K25.out.c1
  go_wp2_with fail
  clear q0a q0b q1a q1b
  refine (HI.out w5).mono ?_
  rintro e w6 ⟨A2, c2, us2, rfl, o6, b6⟩
  have O6 := Lib.hid o6
  have B6 := Lib.hid (Base.Below.nextA B5.out b6)
  have hs6 := b6.size
  have K16 := Lib.hid (K15.out.below b6)
  have K26 := Lib.hid (K25.out.below b6)
  have l16 := K16.out.lt
  have l26 := K26.out.lt
  clear o6 b6
  have q0a := K16.out.c0
  have q0b := K16.out.c1
  have q1a := K26.out.c0
  have q1b := K26.out.c1
  go_wp2_with fail
  clear q0a q0b q1a q1b
  obtain ⟨W6, hW6⟩ : ∃ W6, W6 = w6.alloc (.cells #[.int .i64 bits, .slice A2 xss.length c2] 61) := ⟨_, rfl⟩
  have zW6 : W6.heap.size = w6.heap.size + 1 := by rw [hW6]; simp
  have XW6 := Lib.hid (show Below w6.heap.size w6 W6 by rw [hW6]; exact (Below.refl _ _).alloc (Nat.le_refl _) _)
  have KW6 := Lib.hid (show Box W6 w6.heap.size bits (.slice A2 xss.length c2) by rw [hW6]; exact Box.new _ _ _)
  rw [← hW6]
  clear hW6
  have O6' := Lib.hid (O6.out.below XW6.out)
  have B6' := Lib.hid (Base.Below.nextA B6.out XW6.out)
  have K1X := Lib.hid (K16.out.below XW6.out)
  have K2X := Lib.hid (K26.out.below XW6.out)
  refine (eqNet_yes A2 A0 c2 c0 W6.heap.size W6.heap.size bits xss W6 O6'.out.rd (O04.out.below B6'.out).rd (by omega) (by omega) (by omega) (by omega)).mono ?_
  rintro e w7 ⟨rfl, b7⟩
  have B7 := Lib.hid (Base.Below.nextA B6'.out b7)
  have hs7 := b7.size
  have K17 := Lib.hid (K1X.out.below b7)
  have K27 := Lib.hid (K2X.out.below b7)
  clear b7
  have q0a := K17.out.c0
  have q0b := K17.out.c1
  have q1a := K27.out.c0
  have q1b := K27.out.c1
  go_wp2_with fail
  clear q0a q0b q1a q1b
  refine (heldNet_yes A1 c1 w7.heap.size 1 bits xss w7 (by have := O4.out.below B7.out; rw [← mk_len 1 xss] at this; exact this.rd) (by omega) (by omega) (by omega)).mono ?_
  rintro e w8 ⟨rfl, b8⟩
  have B8 := Lib.hid (Base.Below.nextA (Base.Below.nextA (Base.Below.nextA (Base.Below.nextA B1.out XW1.out) B4.out) B7.out) b8)
  clear b8
  go_wp2
  go_ret
  exact ⟨rfl, B8.out⟩
end Go.Proofs.Ytnbeibofmikihaa.RevNet

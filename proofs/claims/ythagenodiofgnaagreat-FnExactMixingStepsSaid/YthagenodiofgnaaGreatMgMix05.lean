/- Lists of the program's ratios in memory: three cells an element; pushing, reading. -/
import Derived.Test.YthagenodiofgnaaGreatMgMix03
import Derived.Test.YthagenodiofgnaaGreatMgMix04
import Derived.Test.YthagenodiofgnaaGreatMgMix00
import Derived.StillTail
import Derived.Deep.Quiet
namespace Go.Proofs.YthagenodiofgnaaGreat.Ratio
open Go.RowKit Go.Proofs.YthagenodiofgnaaGreat Go.Proofs.YthagenodiofgnaaGreat.Base Go.Proofs.YthagenodiofgnaaGreat.Mem Go.Proofs.YthagenodiofgnaaGreat.NatM Go.Proofs.YthagenodiofgnaaGreat.Nat32 Go.Proofs.YthagenodiofgnaaGreat.RatM Go.Proofs.YthagenodiofgnaaGreat.Blk
open Go.Proofs.YthagenodiofgnaaGreat.Inv (natOf natOf_eq len_pos Rat3 not_slice not_bool frz)
set_option linter.unusedVariables false
def Apart (own : Option Nat) (A : Option Addr) : Prop := ∀ a, A = some a → own ≠ some a.block
theorem rdU_kept {w w' : World} {own : Option Nat} {A : Option Addr} {xs : List Nat} (h : RdU w w.heap.size A xs) (hg : w.grownBy w' own) (ha : Apart own A) : RdU w' w'.heap.size A xs := fun h0 => by
 obtain ⟨b, off, rfl, hlt, hc⟩ := h h0
 refine ⟨b, off, rfl, Nat.lt_of_lt_of_le hlt hg.size, fun i hi => ?_⟩
 have := hc i hi
 rw [← this]
 exact World.cell?_of_block (hg.block b hlt (fun e => ha _ rfl e.symm))
theorem rdU_below {w w' : World} {A : Option Addr} {xs : List Nat} (h : RdU w w.heap.size A xs) (hb : Below w.heap.size w w') : RdU w' w'.heap.size A xs := (h.below hb (Nat.le_refl _)).more hb.size
def rt3 (q : Rat) (A1 A2 : Option Addr) (c1 c2 : Nat) : List Value := [.bool (decide (q < 0)), .slice A1 (natL q.num.natAbs).length c1, .slice A2 (natL q.den).length c2]
def ElR (w : World) (own : Option Nat) (cs : List Value) (i : Nat) (q : Rat) : Prop :=
 ∃ A1 c1 A2 c2, (cs.drop (i * 3)).take 3 = rt3 q A1 A2 c1 c2 ∧ RdU w w.heap.size A1 (natL q.num.natAbs) ∧ RdU w w.heap.size A2 (natL q.den) ∧ (0 < (natL q.num.natAbs).length → Apart own A1) ∧ (0 < (natL q.den).length → Apart own A2)
structure OwnR (w : World) (B : Nat) (v : Value) (n : Nat) (f : Nat → Rat) (cs : List Value) : Prop where
 row : w.ownsRow B 82 3 v n cs
 els : ∀ i, i < n → ElR w v.ownBlock cs i (f i)
theorem ElR.below {w w' : World} {own : Option Nat} {cs : List Value} {i : Nat} {q : Rat} (h : ElR w own cs i q) (hb : Below w.heap.size w w') : ElR w' own cs i q := by
 obtain ⟨A1, c1, A2, c2, e, h1, h2, h3, h4⟩ := h
 exact ⟨A1, c1, A2, c2, e, rdU_below h1 hb, rdU_below h2 hb, h3, h4⟩
theorem OwnR.below {w w' : World} {B n : Nat} {v : Value} {f : Nat → Rat} {cs : List Value} (h : OwnR w B v n f cs) (hb : Below w.heap.size w w') : OwnR w' B v n f cs :=
 ⟨ownsRow_below h.row hb, fun i hi => (h.els i hi).below hb⟩
theorem OwnR.form {w : World} {B n : Nat} {v : Value} {f : Nat → Rat} {cs : List Value} (h : OwnR w B v n f cs) : ∃ A c, v = .slice A n c ∧ (0 < n → ∃ g, A = some ⟨g, 0, none⟩ ∧ B ≤ g ∧ g < w.heap.size) := ownsRow_form h.row
theorem OwnR.base {w : World} {B B' n : Nat} {v : Value} {f : Nat → Rat} {cs : List Value} (h : OwnR w B v n f cs) (hB : B' ≤ B) : OwnR w B' v n f cs := ⟨ownsRow_base h.row hB, h.els⟩
theorem OwnR.congr {w : World} {B n : Nat} {v : Value} {f f' : Nat → Rat} {cs : List Value} (h : OwnR w B v n f cs) (hf : ∀ i, i < n → f i = f' i) : OwnR w B v n f' cs :=
 ⟨h.row, fun i hi => by rw [← hf i hi]; exact h.els i hi⟩
theorem OwnR.at {w : World} {B n c : Nat} {A : Option Addr} {f : Nat → Rat} {cs : List Value} (h : OwnR w B (.slice A n c) n f cs) {i : Nat} (hi : i < n) :
  ∃ g s A1 k1 c1 A2 k2 c2, A = some ⟨g, 0, none⟩ ∧ g < w.heap.size ∧ w.cell? ⟨g, i * 3, none⟩ = some (.bool s) ∧ w.cell? ⟨g, i * 3 + 1, none⟩ = some (.slice A1 k1 c1) ∧ w.cell? ⟨g, i * 3 + 2, none⟩ = some (.slice A2 k2 c2) ∧
   IsRt w (f i) (.agg #[.bool s, .slice A1 k1 c1, .slice A2 k2 c2]) := by
 obtain ⟨A', c', e, hf⟩ := h.form
 injection e with e1 e2 e3
 subst e1 e3
 obtain ⟨g, rfl, _, hlt⟩ := hf (by omega)
 obtain ⟨A1, c1, A2, c2, e, h1, h2, _⟩ := h.els i hi
 have key : ∀ k, k < 3 → w.cell? ⟨g, i * 3 + k, none⟩ = (rt3 (f i) A1 A2 c1 c2)[k]? := fun k hk => by
  rw [World.ownsRow.cellAt h.row (i * 3 + k) (by omega), ← e, List.getElem?_take, if_pos hk, List.getElem?_drop]
 exact ⟨g, _, A1, _, c1, A2, _, c2, rfl, hlt, key 0 (by decide), key 1 (by decide), key 2 (by decide), A1, c1, A2, c2, rfl, h1, h2⟩
theorem infoR : (Tryz.prog.info? 82).map (fun i => (i.zero, i.size, i.bytes)) = some (some (.agg #[.bool false, .slice none 0 0, .slice none 0 0]), 3, 56) := by kernel_rfl
theorem ones_three {s : Bool} {A1 A2 : Option Addr} {k1 c1 k2 c2 : Nat} : ∀ u ∈ [Value.bool s, .slice A1 k1 c1, .slice A2 k2 c2], u.oneCell' = true := by
 intro u hu
 simp only [List.mem_cons, List.not_mem_nil, or_false] at hu
 rcases hu with rfl | rfl | rfl <;> rfl
theorem news_three (w : World) (t : TypeId) {u0 u1 u2 : Value} {g : Nat} (hg : g = w.heap.size) : ∀ (j : Nat) (x : Value), [u0, u1, u2][j]? = some x → (w.alloc (.cells #[u0, u1, u2] t)).cell? ((⟨g, 0, none⟩ : Addr).add j) = some x := by
 subst hg
 intro j x hx
 have e : (#[u0, u1, u2] : Array Value)[j]? = some x := by rw [← Array.getElem?_toList]; exact hx
 rw [Addr.add_lit]
 exact (World.cell?_alloc_new w #[u0, u1, u2] t (0 + j)).trans (by rw [Nat.zero_add]; exact e)
theorem ElR.kept {w w' : World} {own own' : Option Nat} {cs : List Value} {i : Nat} {q : Rat} (h : ElR w own cs i q) (hg : w.grownBy w' own) (he : own' = own ∨ own' = some w.heap.size) : ElR w' own' cs i q := by
 obtain ⟨A1, c1, A2, c2, e, h1, h2, h3, h4⟩ := h
 have key : ∀ {A : Option Addr} {xs : List Nat}, RdU w w.heap.size A xs → (0 < xs.length → Apart own A) → RdU w' w'.heap.size A xs ∧ (0 < xs.length → Apart own' A) := fun {A xs} k1 k2 => by
  refine ⟨fun h0 => rdU_kept k1 hg (k2 h0) h0, fun h0 => ?_⟩
  rcases he with rfl | rfl
  ·exact k2 h0
  ·obtain ⟨b, off, rfl, hlt, _⟩ := k1 h0
   intro a ha hb
   injection ha with ha
   subst ha
   injection hb with hb
   have : w.heap.size = b := hb
   omega
 obtain ⟨k1, k2⟩ := key h1 h3
 obtain ⟨k3, k4⟩ := key h2 h4
 exact ⟨A1, c1, A2, c2, e, k1, k3, k2, k4⟩
theorem OwnR.push {wr w1 w2 : World} {B n : Nat} {v v' : Value} {f : Nat → Rat} {cs : List Value} {A1 A2 : Option Addr} {c1 c2 : Nat} {ca : Array Value} {t : TypeId} (h : OwnR wr B v n f cs) (h1 : Below wr.heap.size wr w1)
  (d1 : RdU w1 w1.heap.size A1 (natL (f n).num.natAbs)) (d2 : RdU w1 w1.heap.size A2 (natL (f n).den)) (a1 : 0 < (natL (f n).num.natAbs).length → Apart v.ownBlock A1) (a2 : 0 < (natL (f n).den).length → Apart v.ownBlock A2)
  (hown : w2.ownsRow B 82 3 v' (n + 1) (cs ++ rt3 (f n) A1 A2 c1 c2)) (hg : (w1.alloc (.cells ca t)).grownBy w2 v.ownBlock) (he : v'.ownBlock = v.ownBlock ∨ v'.ownBlock = some (w1.alloc (.cells ca t)).heap.size) :
  OwnR w2 B v' (n + 1) f (cs ++ rt3 (f n) A1 A2 c1 c2) := by
 have hb2 : Below w1.heap.size w1 (w1.alloc (.cells ca t)) := (Below.refl _ _).alloc (Nat.le_refl _) _
 have hA := (h.below h1).below hb2
 have hlen : cs.length = n * 3 := h.row.1
 refine ⟨hown, fun i hi => ?_⟩
 rcases Nat.lt_or_ge i n with hlt | hge
 ·obtain ⟨B1, j1, B2, j2, e, p1, p2, p3, p4⟩ := hA.els i hlt
  have e2 : ((cs ++ rt3 (f n) A1 A2 c1 c2).drop (i * 3)).take 3 = (cs.drop (i * 3)).take 3 := by
   rw [List.drop_append_of_le_length (by omega), List.take_append_of_le_length (by rw [List.length_drop]; omega)]
  exact ElR.kept ⟨B1, j1, B2, j2, e2.trans e, p1, p2, p3, p4⟩ hg he
 ·obtain rfl : i = n := by omega
  refine ElR.kept (own := v.ownBlock) ⟨A1, c1, A2, c2, ?_, rdU_below d1 hb2, rdU_below d2 hb2, a1, a2⟩ hg he
  rw [List.drop_append, List.drop_of_length_le (by omega), hlen, Nat.sub_self]
  rfl
theorem OwnR.nil (w : World) (B : Nat) (f : Nat → Rat) : OwnR w B (.slice none 0 0) 0 f [] := ⟨World.ownsRow_nil w B _ 3, fun i hi => absurd hi (Nat.not_lt_zero i)⟩
theorem OwnR.lit0 (w : World) (f : Nat → Rat) : OwnR (w.alloc (.cells #[] 82)) w.heap.size (.slice (some ⟨w.heap.size, 0, none⟩) 0 0) 0 f [] :=
 ⟨World.ownsRow_made w #[] 0 (Nat.le_refl _) (Nat.zero_le _) (by simp), fun i hi => absurd hi (Nat.not_lt_zero i)⟩
theorem RdV.apart {w0 w : World} {A : Option Addr} {xs : List Nat} {B size n : Nat} {t : TypeId} {v : Value} {cs : List Value} (h : RdV w0 w A xs) (hr : w0.ownsRow B t size v n cs) : Apart v.ownBlock A := fun a ha hb => by
 obtain ⟨_, _, _, hlt⟩ := ownsRow_block hr hb
 have := h.2 a ha
 omega
def RsRet (n : Nat) (f : Nat → Rat) (w : World) (e : Ending) (w' : World) : Prop := ∃ v cs, e = .returned v ∧ OwnR w' w.heap.size v n f cs ∧ Below w.heap.size w w'
def RdR (w : World) (A : Option Addr) (n : Nat) (f : Nat → Rat) : Prop :=
 0 < n → ∃ g, A = some ⟨g, 0, none⟩ ∧ g < w.heap.size ∧ ∀ i, i < n → ∃ s A1 k1 c1 A2 k2 c2, w.cell? ⟨g, i * 3, none⟩ = some (.bool s) ∧ w.cell? ⟨g, i * 3 + 1, none⟩ = some (.slice A1 k1 c1) ∧ w.cell? ⟨g, i * 3 + 2, none⟩ = some (.slice A2 k2 c2) ∧ IsRt w (f i) (.agg #[.bool s, .slice A1 k1 c1, .slice A2 k2 c2])
theorem OwnR.rd {w : World} {B n c : Nat} {A : Option Addr} {f : Nat → Rat} {cs : List Value} (h : OwnR w B (.slice A n c) n f cs) : RdR w A n f := fun h0 => by
 obtain ⟨g, s, A1, k1, c1, A2, k2, c2, rfl, hlt, _⟩ := h.at h0
 refine ⟨g, rfl, hlt, fun i hi => ?_⟩
 obtain ⟨g', s, A1, k1, c1, A2, k2, c2, e, _, x0, x1, x2, hr⟩ := h.at hi
 injection e with e
 injection e with e _ _
 subst e
 exact ⟨s, A1, k1, c1, A2, k2, c2, x0, x1, x2, hr⟩
theorem RdR.below {w w' : World} {A : Option Addr} {n : Nat} {f : Nat → Rat} (h : RdR w A n f) (hb : Below w.heap.size w w') : RdR w' A n f := fun h0 => by
 obtain ⟨g, e, hlt, hc⟩ := h h0
 refine ⟨g, e, Nat.lt_of_lt_of_le hlt hb.size, fun i hi => ?_⟩
 obtain ⟨s, A1, k1, c1, A2, k2, c2, x0, x1, x2, hr⟩ := hc i hi
 exact ⟨s, A1, k1, c1, A2, k2, c2, (hb.cell (p := ⟨g, i * 3, none⟩) hlt).trans x0, (hb.cell (p := ⟨g, i * 3 + 1, none⟩) hlt).trans x1, (hb.cell (p := ⟨g, i * 3 + 2, none⟩) hlt).trans x2, hr.below hb⟩
theorem RdR.at {w : World} {A : Option Addr} {n : Nat} {f : Nat → Rat} (h : RdR w A n f) {i : Nat} (hi : i < n) :
  ∃ g s A1 k1 c1 A2 k2 c2, A = some ⟨g, 0, none⟩ ∧ g < w.heap.size ∧ w.cell? ⟨g, i * 3, none⟩ = some (.bool s) ∧ w.cell? ⟨g, i * 3 + 1, none⟩ = some (.slice A1 k1 c1) ∧ w.cell? ⟨g, i * 3 + 2, none⟩ = some (.slice A2 k2 c2) ∧
   IsRt w (f i) (.agg #[.bool s, .slice A1 k1 c1, .slice A2 k2 c2]) := by
 obtain ⟨g, e, hlt, hc⟩ := h (by omega)
 obtain ⟨s, A1, k1, c1, A2, k2, c2, x0, x1, x2, hr⟩ := hc i hi
 exact ⟨g, s, A1, k1, c1, A2, k2, c2, e, hlt, x0, x1, x2, hr⟩
theorem RdR.congr {w : World} {A : Option Addr} {n : Nat} {f f' : Nat → Rat} (h : RdR w A n f) (hf : ∀ i, i < n → f i = f' i) : RdR w A n f' := fun h0 => by
 obtain ⟨g, e, hlt, hc⟩ := h h0
 exact ⟨g, e, hlt, fun i hi => by rw [← hf i hi]; exact hc i hi⟩
end Go.Proofs.YthagenodiofgnaaGreat.Ratio
namespace Go.Proofs.YthagenodiofgnaaGreat.Nat32
open Go.RowKit Go.Proofs.YthagenodiofgnaaGreat Go.Proofs.YthagenodiofgnaaGreat.Base Go.Proofs.YthagenodiofgnaaGreat.Mem Go.Proofs.YthagenodiofgnaaGreat.NatM
set_option linter.unusedVariables false
set_option maxHeartbeats 1000000 in
theorem small_no (x : Nat) (A : Option Addr) (c B : Nat) (w : World) (hx : RdU w B A (natL x)) (h : 1000000000000000000 < x) :
  Calls Tryz.prog 128 #[.slice A (natL x).length c] w fun e w' => ∃ i : Int, e = .returned (.tuple #[.int .i64 i, .bool false]) ∧ w = w' := by
 by_cases hlen : (natL x).length ≤ 2
 case neg =>
  generalize (natL x).length = k at *
  have hd : decide ((2 : Int) < (k : Int)) = true := decide_eq_true (by omega)
  clear hx
  go_enter Tryz.func128, Tryz.ntmps128
  go_wp2
  go_ret2
  exact ⟨0, rfl, rfl⟩
 have ok := natL_ok x
 have hv := natL_val x
 have HX := Lib.hid hx
 generalize hxs : natL x = xs at *
 have HV := Lib.hid hv
 have HO := Lib.hid ok
 clear hx hv ok hxs
 go_enter Tryz.func128, Tryz.ntmps128
 go_wp2
 go_loop [12, 4] (fun iv nv => ∃ k : Nat, k ≤ xs.length ∧ iv = .int .i64 (k : Int) ∧ nv = .int .u64 ((val (xs.take k) : Nat) : Int)) (fun iv _ => xs.length - (intOf iv).toNat)
 case atStart => exact ⟨0, Nat.zero_le _, rfl, rfl⟩
 case round =>
  obtain ⟨k, hk, rfl, rfl⟩ := hrel
  by_cases hlt : k < xs.length
  ·have hx1 : xs.getD k 0 < B32 := HO.out _ (by simp [List.getD, hlt])
   obtain ⟨b, off, rfl, _, hc⟩ := HX.out (by omega)
   have g := hc k hlt
   clear hc
   have HS := Lib.hid (val_take_succ xs k hlt)
   have hk2 : k = 0 ∨ k = 1 := by omega
   rcases hk2 with rfl | rfl
   ·rw [List.take_zero, show val ([] : List Nat) = 0 from rfl] at HS ⊢
    rw [Nat.add_zero] at g
    unfold B32 at hx1
    generalize xs.getD 0 0 = y at *
    have HO2 := Lib.hid (or_digit 0 y (by decide) hx1)
    have HO1 := Lib.hid (u64_or 0 y (by decide) (by omega))
    go_wp2
    go_round
    case rel => exact ⟨1, by omega, rfl, by rw [HS.out]; have := HO1.out; rw [Nat.zero_or] at this; rw [show ((0 : Nat) : Int) = 0 from rfl] at this; rw [this]; simp⟩
    case measure => simp [intOf]; omega
   ·unfold B32 at hx1
    have hz1 : val (xs.take 1) < B32 := by
     have := val_lt _ (okN_take HO.out 1)
     rw [List.length_take, Nat.min_eq_left (by omega)] at this
     simpa using this
    unfold B32 at hz1
    generalize xs.getD 1 0 = y at *
    generalize val (xs.take 1) = z at *
    have HO2 := Lib.hid (or_digit z y hz1 hx1)
    go_wp2
    go_round
    case rel => exact ⟨2, by omega, rfl, by rw [HS.out, HO2.out]; rfl⟩
    case measure => simp [intOf]; omega
  ·obtain rfl : k = xs.length := by omega
   have hvx : val (xs.take xs.length) = x := by rw [List.take_of_length_le (Nat.le_refl _)]; exact HV.out
   rw [hvx]
   have hlt2 : x < 18446744073709551616 := by
    have := val_lt xs HO.out
    have e : B32 ^ xs.length ≤ B32 ^ 2 := Nat.pow_le_pow_right (by decide) hlen
    rw [HV.out] at this
    exact Nat.lt_of_lt_of_le this (Nat.le_trans e (by decide))
   have hle : decide ((x : Int) ≤ 1000000000000000000) = false := decide_eq_false (by omega)
   clear hvx
   go_wp2
   go_ret2
   exact ⟨⟨wrap64 (bits BinOp.and IntKind.u64 (x : Int) 9223372036854775807), rfl⟩, rfl⟩
end Go.Proofs.YthagenodiofgnaaGreat.Nat32
set_option linter.unusedVariables false
namespace Go.Proofs.YthagenodiofgnaaGreat.RatM
theorem cop_mul {a b c : Nat} (h1 : Nat.gcd a c = 1) (h2 : Nat.gcd b c = 1) : Nat.gcd (a * b) c = 1 :=
 Nat.Coprime.mul_left (k := c) h1 h2
theorem cop_mul_r {a b c : Nat} (h1 : Nat.gcd a b = 1) (h2 : Nat.gcd a c = 1) : Nat.gcd a (b * c) = 1 := by
 rw [Nat.gcd_comm]; exact cop_mul (by rw [Nat.gcd_comm]; exact h1) (by rw [Nat.gcd_comm]; exact h2)
theorem cop_dvd {a b c : Nat} (h : Nat.gcd a b = 1) (hc : c ∣ b) : Nat.gcd a c = 1 :=
 Nat.Coprime.coprime_dvd_right hc h
theorem cop_dvd_l {a b c : Nat} (h : Nat.gcd a b = 1) (hc : c ∣ a) : Nat.gcd c b = 1 :=
 Nat.Coprime.coprime_dvd_left hc h
theorem qv_scale (s : Bool) {n d k : Nat} (hd : d ≠ 0) (hk : k ≠ 0) : qv s (n * k) (d * k) = qv s n d := by
 have g := natCast_ne hd
 have g' := natCast_ne hk
 unfold qv
 simp only [Rat.natCast_mul]
 cases s <;> simp only [Bool.false_eq_true, if_false, if_true] <;> grind
theorem cop_of_sum {t u v b : Nat} (h : t = u + v ∨ t + v = u ∨ t + u = v) (hv : b ∣ v) (hu : Nat.gcd u b = 1) : Nat.gcd t b = 1 := by
 obtain ⟨k, rfl⟩ := hv
 have key : Nat.gcd t b ∣ u := by
  have h1 := Nat.gcd_dvd_left t b
  have h2 : Nat.gcd t b ∣ b * k := Nat.dvd_trans (Nat.gcd_dvd_right t b) (Nat.dvd_mul_right b k)
  rcases h with h | h | h
  ·rw [h] at h1
   rw [h]
   exact (Nat.dvd_add_left (by rw [h] at h2; exact h2)).1 h1
  ·rw [← h]; exact Nat.dvd_add h1 h2
  ·rw [← h] at h2
   exact (Nat.dvd_add_right h1).1 h2
 have h3 := Nat.dvd_gcd key (Nat.gcd_dvd_right t b)
 rw [hu] at h3
 exact Nat.dvd_one.1 h3
theorem sum_cop {n1 d1 n2 d2 D t : Nat} (hd1 : 0 < d1) (hd2 : 0 < d2) (h1 : Nat.gcd n1 d1 = 1) (h2 : Nat.gcd n2 d2 = 1) (hD : D = Nat.gcd d1 d2)
  (ht : t = n1 * (d2 / D) + n2 * (d1 / D) ∨ t + n2 * (d1 / D) = n1 * (d2 / D) ∨ t + n1 * (d2 / D) = n2 * (d1 / D)) :
  Nat.gcd (t / Nat.gcd D (t % D)) ((d1 / D) * (d2 / Nat.gcd D (t % D))) = 1 := by
 have hD0 : 0 < D := by rw [hD]; exact Nat.gcd_pos_of_pos_left _ hd1
 have e1 : D ∣ d1 := by rw [hD]; exact Nat.gcd_dvd_left _ _
 have e2 : D ∣ d2 := by rw [hD]; exact Nat.gcd_dvd_right _ _
 have hcop : Nat.gcd (d1 / D) (d2 / D) = 1 := by rw [hD]; exact Nat.coprime_div_gcd_div_gcd (Nat.gcd_pos_of_pos_left _ hd1)
 have eg : Nat.gcd D (t % D) = Nat.gcd D t := by rw [Nat.gcd_comm D (t % D), ← Nat.gcd_rec]
 rw [eg]
 have hG0 : 0 < Nat.gcd D t := Nat.gcd_pos_of_pos_left _ hD0
 obtain ⟨b, rfl⟩ := e1
 obtain ⟨c, rfl⟩ := e2
 rw [Nat.mul_div_cancel_left _ hD0] at *
 rw [Nat.mul_div_cancel_left _ hD0] at *
 have hb : Nat.gcd t b = 1 := by
  refine cop_of_sum (u := n1 * c) (v := n2 * b) (by omega) (Nat.dvd_mul_left b n2) ?_
  exact cop_mul (cop_dvd h1 (Nat.dvd_mul_left b D)) (by rw [Nat.gcd_comm]; exact hcop)
 have hc : Nat.gcd t c = 1 := by
  refine cop_of_sum (u := n2 * b) (v := n1 * c) (by omega) (Nat.dvd_mul_left c n1) ?_
  exact cop_mul (cop_dvd h2 (Nat.dvd_mul_left c D)) hcop
 have hGD := Nat.gcd_dvd_left D t
 have hGt := Nat.gcd_dvd_right D t
 have hq : Nat.gcd (t / Nat.gcd D t) (D / Nat.gcd D t) = 1 := by
  rw [Nat.gcd_comm]; exact Nat.coprime_div_gcd_div_gcd hG0
 have hl : t / Nat.gcd D t ∣ t := Nat.div_dvd_of_dvd hGt
 have e3 : D * c / Nat.gcd D t = c * (D / Nat.gcd D t) := by
  rw [Nat.mul_comm D c, Nat.mul_div_assoc c hGD]
 rw [e3]
 exact cop_mul_r (cop_dvd_l hb hl) (cop_mul_r (cop_dvd_l hc hl) hq)
theorem sum_val (s : Bool) {d1 d2 D t : Nat} (hd1 : 0 < d1) (hd2 : 0 < d2) (hD : D = Nat.gcd d1 d2) :
  qv s (t / Nat.gcd D (t % D)) ((d1 / D) * (d2 / Nat.gcd D (t % D))) = qv s (t * D) (d1 * d2) := by
 have hD0 : 0 < D := by rw [hD]; exact Nat.gcd_pos_of_pos_left _ hd1
 have e1 : D ∣ d1 := by rw [hD]; exact Nat.gcd_dvd_left _ _
 have e2 : D ∣ d2 := by rw [hD]; exact Nat.gcd_dvd_right _ _
 have eg : Nat.gcd D (t % D) = Nat.gcd D t := by rw [Nat.gcd_comm D (t % D), ← Nat.gcd_rec]
 rw [eg]
 have hG0 : 0 < Nat.gcd D t := Nat.gcd_pos_of_pos_left _ hD0
 have hGD := Nat.gcd_dvd_left D t
 have hGt := Nat.gcd_dvd_right D t
 have hG2 := Nat.dvd_trans hGD e2
 generalize Nat.gcd D t = G at *
 obtain ⟨b, rfl⟩ := e1
 obtain ⟨c, rfl⟩ := hG2
 obtain ⟨k, rfl⟩ := hGt
 rw [Nat.mul_div_cancel_left _ hD0, Nat.mul_div_cancel_left _ hG0, Nat.mul_div_cancel_left _ hG0]
 have h1 : b ≠ 0 := by rintro rfl; simp at hd1
 have h2 : c ≠ 0 := by rintro rfl; simp at hd2
 have := qv_scale s (n := k) (d := b * c) (k := G * D) (Nat.mul_ne_zero h1 h2) (Nat.mul_ne_zero (by omega) (by omega))
 rw [← this]
 congr 1
 ·simp only [Nat.mul_left_comm, Nat.mul_comm]
 ·simp only [Nat.mul_left_comm, Nat.mul_comm]
theorem sum_t {n1 d1 n2 d2 D : Nat} (hd1 : 0 < d1) (hD : D = Nat.gcd d1 d2) : (n1 * (d2 / D)) * D = n1 * d2 ∧ (n2 * (d1 / D)) * D = n2 * d1 := by
 have e1 : D ∣ d1 := by rw [hD]; exact Nat.gcd_dvd_left _ _
 have e2 : D ∣ d2 := by rw [hD]; exact Nat.gcd_dvd_right _ _
 rw [Nat.mul_assoc, Nat.mul_assoc, Nat.div_mul_cancel e1, Nat.div_mul_cancel e2]
 exact ⟨rfl, rfl⟩
theorem prod_cop {n1 d1 n2 d2 : Nat} (hd1 : 0 < d1) (hd2 : 0 < d2) (h1 : Nat.gcd n1 d1 = 1) (h2 : Nat.gcd n2 d2 = 1) :
  Nat.gcd ((n1 / Nat.gcd n1 d2) * (n2 / Nat.gcd n2 d1)) ((d2 / Nat.gcd n1 d2) * (d1 / Nat.gcd n2 d1)) = 1 := by
 have a1 : Nat.gcd (n1 / Nat.gcd n1 d2) (d2 / Nat.gcd n1 d2) = 1 := Nat.coprime_div_gcd_div_gcd (Nat.gcd_pos_of_pos_right _ hd2)
 have a2 : Nat.gcd (n2 / Nat.gcd n2 d1) (d1 / Nat.gcd n2 d1) = 1 := Nat.coprime_div_gcd_div_gcd (Nat.gcd_pos_of_pos_right _ hd1)
 have l1 : n1 / Nat.gcd n1 d2 ∣ n1 := Nat.div_dvd_of_dvd (Nat.gcd_dvd_left _ _)
 have l2 : n2 / Nat.gcd n2 d1 ∣ n2 := Nat.div_dvd_of_dvd (Nat.gcd_dvd_left _ _)
 have r1 : d2 / Nat.gcd n1 d2 ∣ d2 := Nat.div_dvd_of_dvd (Nat.gcd_dvd_right _ _)
 have r2 : d1 / Nat.gcd n2 d1 ∣ d1 := Nat.div_dvd_of_dvd (Nat.gcd_dvd_right _ _)
 refine cop_mul (cop_mul_r a1 ?_) (cop_mul_r ?_ a2)
 ·exact cop_dvd (cop_dvd_l h1 l1) r2
 ·exact cop_dvd (cop_dvd_l h2 l2) r1
theorem prod_val (s : Bool) {n1 d1 n2 d2 : Nat} (hd1 : 0 < d1) (hd2 : 0 < d2) :
  qv s ((n1 / Nat.gcd n1 d2) * (n2 / Nat.gcd n2 d1)) ((d2 / Nat.gcd n1 d2) * (d1 / Nat.gcd n2 d1)) = qv s (n1 * n2) (d1 * d2) := by
 have p1 : 0 < Nat.gcd n1 d2 := Nat.gcd_pos_of_pos_right _ hd2
 have p2 : 0 < Nat.gcd n2 d1 := Nat.gcd_pos_of_pos_right _ hd1
 have l1 := Nat.gcd_dvd_left n1 d2
 have l2 := Nat.gcd_dvd_left n2 d1
 have r1 := Nat.gcd_dvd_right n1 d2
 have r2 := Nat.gcd_dvd_right n2 d1
 generalize Nat.gcd n1 d2 = G at *
 generalize Nat.gcd n2 d1 = H at *
 obtain ⟨a, rfl⟩ := l1
 obtain ⟨b, rfl⟩ := l2
 obtain ⟨c, rfl⟩ := r1
 obtain ⟨d, rfl⟩ := r2
 rw [Nat.mul_div_cancel_left _ p1, Nat.mul_div_cancel_left _ p2, Nat.mul_div_cancel_left _ p1, Nat.mul_div_cancel_left _ p2]
 have h1 : c ≠ 0 := by rintro rfl; simp at hd2
 have h2 : d ≠ 0 := by rintro rfl; simp at hd1
 have := qv_scale s (n := a * b) (d := c * d) (k := G * H) (Nat.mul_ne_zero h1 h2) (Nat.mul_ne_zero (by omega) (by omega))
 rw [← this]
 congr 1
 ·simp only [Nat.mul_left_comm, Nat.mul_comm]
 ·simp only [Nat.mul_left_comm, Nat.mul_comm]
theorem low_of {s : Bool} {n d : Nat} (hd : d ≠ 0) (hg : Nat.gcd n d = 1) : (qv s n d).num = (if s then -(n : Int) else (n : Int)) ∧ (qv s n d).den = d := by
 obtain ⟨h1, h2⟩ := own_num (s := s) hd hg
 refine ⟨?_, h2⟩
 by_cases hn : n = 0
 ·subst hn
  rw [qv_zero]
  cases s <;> rfl
 ·have h3 := qv_neg (s := s) hn hd
  have h4 := neg_iff (qv s n d)
  cases s
  ·have : ¬ (qv false n d).num < 0 := fun h => by
    have := h4.2 h
    simp [this] at h3
   simp only [Bool.false_eq_true, if_false]; omega
  ·have : (qv true n d).num < 0 := h4.1 (of_decide_eq_true h3)
   simp only [if_true]; omega
theorem qv_add {s s' : Bool} {n d n' d' : Nat} (h : d ≠ 0) (h' : d' ≠ 0) :
  qv s n d + qv s' n' d' = if s = s' then qv s (n * d' + n' * d) (d * d') else if n * d' < n' * d then qv s' (n' * d - n * d') (d * d') else qv s (n * d' - n' * d) (d * d') := by
 split
 ·rename_i e
  subst e
  exact (qv_add_same s h h').symm
 ·rename_i e
  split
  ·rename_i hlt
   have := qv_add_diff s' (n := n') (d := d') (n' := n) (d' := d) h' h (by omega)
   rw [Nat.mul_comm d d', this, show (!s') = s by cases s <;> cases s' <;> simp_all, Rat.add_comm]
  ·rename_i hlt
   have := qv_add_diff s (n := n) (d := d) (n' := n') (d' := d') h h' (by omega)
   rw [this, show (!s) = s' by cases s <;> cases s' <;> simp_all]
def smallQ (q : Rat) : Bool := decide (q.num.natAbs ≤ 1000000000000000000) && decide (q.den ≤ 1000000000000000000)
def numQ (q : Rat) : Int := if smallQ q then q.num else 0
def denQ (q : Rat) : Int := if smallQ q then (q.den : Int) else 0
theorem small_yes {q : Rat} (h1 : q.num.natAbs ≤ 1000000000000000000) (h2 : q.den ≤ 1000000000000000000) : smallQ q = true ∧ numQ q = q.num ∧ denQ q = (q.den : Int) := by
 have hs : smallQ q = true := by unfold smallQ; rw [decide_eq_true h1, decide_eq_true h2]; rfl
 exact ⟨hs, by unfold numQ; rw [hs]; rfl, by unfold denQ; rw [hs]; rfl⟩
theorem small_no {q : Rat} (h : ¬ q.num.natAbs ≤ 1000000000000000000 ∨ ¬ q.den ≤ 1000000000000000000) : smallQ q = false ∧ numQ q = 0 ∧ denQ q = 0 := by
 have hs : smallQ q = false := by
  unfold smallQ
  rcases h with h | h
  ·rw [decide_eq_false h]; rfl
  ·rw [decide_eq_false h, Bool.and_false]
 exact ⟨hs, by unfold numQ; rw [hs]; rfl, by unfold denQ; rw [hs]; rfl⟩
theorem small_true {q : Rat} (h : smallQ q = true) : q.num.natAbs ≤ 1000000000000000000 ∧ q.den ≤ 1000000000000000000 := by
 unfold smallQ at h
 rw [Bool.and_eq_true, decide_eq_true_eq, decide_eq_true_eq] at h
 exact h
def VF (n d : Int) : Prop := 1 ≤ d ∧ d ≤ 1000000000000000000 ∧ -1000000000000000000 ≤ n ∧ n ≤ 1000000000000000000 ∧ Nat.gcd n.natAbs d.toNat = 1
theorem VF.num {n d : Int} (h : VF n d) : (qf n d).num = n ∧ ((qf n d).den : Int) = d ∧ (decide (qf n d < 0) = decide (n < 0)) := qf_num (by have := h.1; omega) h.2.2.2.2
theorem VF.of (q : Rat) (h : smallQ q = true) : VF q.num (q.den : Int) := by
 obtain ⟨h1, h2⟩ := small_true h
 have := q.den_pos
 exact ⟨by omega, by omega, by omega, by omega, by rw [Int.toNat_natCast]; exact q.reduced⟩
theorem qf_self (q : Rat) : qf q.num (q.den : Int) = q := by
 have h := qv_self q
 unfold qf
 rw [Int.toNat_natCast]
 have e : decide (q.num < 0) = decide (q < 0) := by rw [Bool.eq_iff_iff, decide_eq_true_eq, decide_eq_true_eq]; exact (neg_iff q).symm
 rw [e]; exact h
theorem VF.small {n d : Int} (h : VF n d) : smallQ (qf n d) = true := by
 obtain ⟨h1, h2, _⟩ := h.num
 refine (small_yes ?_ ?_).1
 ·rw [h1]; have := h.2.2.1; have := h.2.2.2.1; omega
 ·have := h.2.1; omega
end Go.Proofs.YthagenodiofgnaaGreat.RatM
namespace Go.Proofs.YthagenodiofgnaaGreat.Ratio
open Go.RowKit Go.Proofs.YthagenodiofgnaaGreat Go.Proofs.YthagenodiofgnaaGreat.Base Go.Proofs.YthagenodiofgnaaGreat.Mem Go.Proofs.YthagenodiofgnaaGreat.NatM Go.Proofs.YthagenodiofgnaaGreat.Nat32 Go.Proofs.YthagenodiofgnaaGreat.RatM
open Go.Proofs.YthagenodiofgnaaGreat.Inv (natOf natOf_eq len_pos Rat3 not_slice not_bool frz)
set_option linter.unusedVariables false
theorem smallAny (x : Nat) (A : Option Addr) (c B : Nat) (w : World) (hx : RdU w B A (natL x)) :
  Calls Tryz.prog 128 #[.slice A (natL x).length c] w fun e w' => (∃ i : Int, e = .returned (.tuple #[.int .i64 i, .bool (decide (x ≤ 1000000000000000000))]) ∧ (x ≤ 1000000000000000000 → i = x)) ∧ w = w' := by
 rcases Nat.lt_or_ge 1000000000000000000 x with h | h
 ·rw [decide_eq_false (by omega)]
  refine (small_no x A c B w hx h).mono ?_
  rintro e w' ⟨i, rfl, rfl⟩
  exact ⟨⟨i, rfl, fun h' => absurd h' (by omega)⟩, rfl⟩
 ·rw [decide_eq_true (by omega)]
  refine (small_yes x A c B w hx h).mono ?_
  rintro e w' ⟨rfl, rfl⟩
  exact ⟨⟨x, rfl, fun _ => rfl⟩, rfl⟩
theorem ratFraction {q : Rat} {v : Value} (w : World) (hv : IsRt w q v) :
  Calls Tryz.prog 102 #[v] w fun e w' => e = .returned (.tuple #[.agg #[.int .i64 (numQ q), .int .i64 (denQ q)], .bool (smallQ q)]) ∧ Below w.heap.size w w' := by
 obtain ⟨A, c, A', c', rfl, hx, hy⟩ := hv
 have HB : Hid (Below w.heap.size w ((w.alloc (.cells #[.bool (decide (q < 0)), .slice A (natL q.num.natAbs).length c, .slice A' (natL q.den).length c'] 82)).alloc (.cells #[.int .i64 0, .int .i64 0] 34))) := Lib.hid (((Below.refl _ _).alloc (Nat.le_refl _) _).alloc (by simp) _)
 have H1 := Lib.hid (fun W (h : Below w.heap.size w W) => smallAny q.num.natAbs A c w.heap.size W (hx.below h (Nat.le_refl _)))
 have H2 := Lib.hid (fun W (h : Below w.heap.size w W) => smallAny q.den A' c' w.heap.size W (hy.below h (Nat.le_refl _)))
 have HF : ∀ i j : Int, (q.num.natAbs ≤ 1000000000000000000 → i = q.num.natAbs) → (q.den ≤ 1000000000000000000 → j = q.den) → decide (q.num.natAbs ≤ 1000000000000000000) = true → decide (q.den ≤ 1000000000000000000) = true → smallQ q = true ∧ denQ q = j ∧ ((q.num.natAbs : Int) = i ∧ (q.den : Int) = j) ∧ (decide (q < 0) = true → numQ q = -i ∧ 0 ≤ i ∧ i ≤ 1000000000000000000) ∧ (decide (q < 0) = false → numQ q = i) := by
  intro i j hi hj h1 h2
  have hs : smallQ q = true := by unfold smallQ; rw [h1, h2]; rfl
  have hn := hi (of_decide_eq_true h1)
  have hle := of_decide_eq_true h1
  refine ⟨hs, by unfold denQ; rw [hs, hj (of_decide_eq_true h2)]; rfl, ⟨hn.symm, (hj (of_decide_eq_true h2)).symm⟩, fun hq => ?_, fun hq => ?_⟩
  ·have : q.num < 0 := Int.not_le.1 fun h => Rat.not_le.2 (of_decide_eq_true hq) (Rat.num_nonneg.1 h)
   exact ⟨by unfold numQ; rw [hs]; simp; omega, by omega, by omega⟩
  ·have : 0 ≤ q.num := Rat.num_nonneg.2 (Rat.not_lt.1 (of_decide_eq_false hq))
   unfold numQ; rw [hs]; simp; omega
 have HG : (decide (q.num.natAbs ≤ 1000000000000000000) = false ∨ decide (q.den ≤ 1000000000000000000) = false) → smallQ q = false ∧ numQ q = 0 ∧ denQ q = 0 := by
  intro h
  have hs : smallQ q = false := by unfold smallQ; rcases h with h | h <;> rw [h] <;> simp
  exact ⟨hs, by unfold numQ; rw [hs]; rfl, by unfold denQ; rw [hs]; rfl⟩
 have HF := Lib.hid HF
 have HG := Lib.hid HG
 clear hx hy
 generalize decide (q < 0) = s at *
 generalize (natL q.num.natAbs).length = n at *
 generalize (natL q.den).length = n' at *
 generalize hb1 : decide (q.num.natAbs ≤ 1000000000000000000) = b1 at *
 generalize hb2 : decide (q.den ≤ 1000000000000000000) = b2 at *
 clear hb1 hb2
 generalize numQ q = vn at *
 generalize denQ q = vd at *
 generalize smallQ q = sm at *
 go_enter Tryz.func102, Tryz.ntmps102
 go_wp2_with fail
 refine (H1.out _ HB.out).mono ?_
 rintro e w1 ⟨⟨i, rfl, hi⟩, rfl⟩
 have HI := Lib.hid hi
 clear hi
 go_wp2_with fail
 refine (H2.out _ HB.out).mono ?_
 rintro e w1 ⟨⟨j, rfl, hj⟩, rfl⟩
 have HF2 := Lib.hid (HF.out i j HI.out hj)
 clear hj
 clear HF
 cases b1 with
 | false =>
  obtain ⟨rfl, rfl, rfl⟩ := HG.out (Or.inl rfl)
  cases b2 <;>
  ·go_wp2
   refine bodyPost_ret (v := .tuple #[.agg #[.int .i64 0, .int .i64 0], .bool false]) (by simp [results, Tryz.results102, go_sem]) rfl ⟨rfl, ?_⟩
   exact ((Below.refl _ _).alloc (Nat.le_refl _) _).alloc (by simp) _
 | true =>
  cases b2 with
  | false =>
   obtain ⟨rfl, rfl, rfl⟩ := HG.out (Or.inr rfl)
   go_wp2
   refine bodyPost_ret (v := .tuple #[.agg #[.int .i64 0, .int .i64 0], .bool false]) (by simp [results, Tryz.results102, go_sem]) rfl ⟨rfl, ?_⟩
   exact ((Below.refl _ _).alloc (Nat.le_refl _) _).alloc (by simp) _
  | true =>
   obtain ⟨rfl, rfl, ⟨e1, e2⟩, hn, hp⟩ := HF2.out rfl rfl
   have E1 := Lib.hid e1
   have E2 := Lib.hid e2
   clear e1 e2
   cases s with
   | true =>
    obtain ⟨rfl, h0, hle⟩ := hn rfl
    clear hn hp
    have hw : wrap64 (-i) = -i := by first | (unfold wrap64; omega) | (simp [wrap64]; omega)
    go_wp2
    refine bodyPost_ret (v := .tuple #[.agg #[.int .i64 (-i), .int .i64 vd], .bool true]) (by simp [results, Tryz.results102, go_sem]; first | done | (rw [E1.out, E2.out]; first | exact ⟨hw, rfl⟩ | exact ⟨rfl, rfl⟩)) rfl ⟨rfl, ?_⟩
    exact ((Below.refl _ _).alloc (Nat.le_refl _) _).alloc (by simp) _
   | false =>
    obtain rfl := hp rfl
    clear hn hp
    go_wp2
    refine bodyPost_ret (v := .tuple #[.agg #[.int .i64 vn, .int .i64 vd], .bool true]) (by simp [results, Tryz.results102, go_sem]; first | done | (rw [E1.out, E2.out]; first | exact ⟨hw, rfl⟩ | exact ⟨rfl, rfl⟩)) rfl ⟨rfl, ?_⟩
    exact ((Below.refl _ _).alloc (Nat.le_refl _) _).alloc (by simp) _
end Go.Proofs.YthagenodiofgnaaGreat.Ratio
namespace Go.Proofs.YthagenodiofgnaaGreat.MemF
open Go.RowKit Go.Proofs.YthagenodiofgnaaGreat Go.Proofs.YthagenodiofgnaaGreat.Base Go.Proofs.YthagenodiofgnaaGreat.Mem
set_option linter.unusedVariables false
theorem eqFraction_yes (a b : Int) (w : World) : Calls Tryz.prog 124 #[.agg #[.int .i64 a, .int .i64 b], .agg #[.int .i64 a, .int .i64 b]] w fun e w' => e = .returned (.bool true) ∧ Below w.heap.size w w' := by
 go_enter Tryz.func124, Tryz.ntmps124
 go_wp2
 go_ret
 exact ⟨rfl, ((Below.refl _ _).alloc (Nat.le_refl _) _).alloc (by simp) _⟩
def RdF (w : World) (B : Nat) (A : Option Addr) (n : Nat) (fs : List Int) : Prop :=
 0 < n → ∃ b off, A = some ⟨b, off, none⟩ ∧ b < B ∧ ∀ i, i < 2 * n → w.cell? ⟨b, off + i, none⟩ = some (.int .i64 (fs.getD i 0))
theorem RdF.below {w w' : World} {B C n : Nat} {A : Option Addr} {fs : List Int} (h : RdF w B A n fs) (hb : Below C w w') (hBC : B ≤ C) : RdF w' B A n fs := fun h0 => by
 obtain ⟨b, off, e, hlt, hc⟩ := h h0
 exact ⟨b, off, e, hlt, fun i hi => (hb.cell (p := ⟨b, off + i, none⟩) (by show b < C; omega)).trans (hc i hi)⟩
theorem RdF.more {w : World} {B C n : Nat} {A : Option Addr} {fs : List Int} (h : RdF w B A n fs) (hBC : B ≤ C) : RdF w C A n fs := fun h0 => by
 obtain ⟨b, off, e, hlt, hc⟩ := h h0
 exact ⟨b, off, e, by omega, hc⟩
def OwnF (w : World) (B : Nat) (v : Value) (n : Nat) (fs : List Int) : Prop := w.ownsRow B 34 2 v n (ints fs)
theorem OwnF.len {w : World} {B n : Nat} {v : Value} {fs : List Int} (h : OwnF w B v n fs) : fs.length = 2 * n := by
 have := h.1
 rw [ints_len] at this
 omega
theorem OwnF.form {w : World} {B n : Nat} {v : Value} {fs : List Int} (h : OwnF w B v n fs) : ∃ A c, v = .slice A n c ∧ (0 < n → ∃ g, A = some ⟨g, 0, none⟩ ∧ B ≤ g ∧ g < w.heap.size) := ownsRow_form h
theorem OwnF.rd {w : World} {B n m c : Nat} {A : Option Addr} {fs : List Int} (h : OwnF w B (.slice A m c) n fs) : RdF w w.heap.size A n fs := fun h0 => by
 obtain ⟨A', c', e, hf⟩ := ownsRow_form h
 injection e with e1 e2 e3
 subst e1 e2 e3
 obtain ⟨g, rfl, _, hlt⟩ := hf h0
 refine ⟨g, 0, rfl, hlt, fun i hi => ?_⟩
 have hl := h.len
 rw [Nat.zero_add, World.ownsRow.cellAt h i (by omega), ints_get fs i (by omega)]
theorem OwnF.below {w w' : World} {B n : Nat} {v : Value} {fs : List Int} (h : OwnF w B v n fs) (hb : Below w.heap.size w w') : OwnF w' B v n fs := ownsRow_below h hb
theorem RdF.at {w : World} {B n : Nat} {A : Option Addr} {fs : List Int} (h : RdF w B A n fs) {j : Nat} (hj : j < n) : ∃ b off, A = some ⟨b, off, none⟩ ∧ b < B ∧ w.cell? ⟨b, off + j * 2, none⟩ = some (.int .i64 (fs.getD (2 * j) 0)) ∧ w.cell? ⟨b, off + j * 2 + 1, none⟩ = some (.int .i64 (fs.getD (2 * j + 1) 0)) := by
 obtain ⟨b, off, e, hlt, hc⟩ := h (by omega)
 refine ⟨b, off, e, hlt, ?_, ?_⟩
 ·have := hc (2 * j) (by omega); rw [Nat.mul_comm j 2]; exact this
 ·have := hc (2 * j + 1) (by omega); rw [← Nat.add_assoc] at this; rw [Nat.mul_comm j 2]; exact this
set_option maxHeartbeats 1000000 in
set_option maxRecDepth 100000 in
theorem eqF_yes (A A' : Option Addr) (c c' B B' n : Nat) (fs : List Int) (w : World) (hx : RdF w B A n fs) (hy : RdF w B' A' n fs) (hB : B ≤ w.heap.size) (hB' : B' ≤ w.heap.size) (hm : n ≤ 1099511627776) :
  Calls Tryz.prog 95 #[.slice A n c, .slice A' n c'] w fun e w' => e = .returned (.bool true) ∧ Below w.heap.size w w' := by
 have HX := Lib.hid (hx.more hB)
 have HY := Lib.hid (hy.more hB')
 clear hx hy
 go_enter Tryz.func95, Tryz.ntmps95
 go_wp2
 go_loopw [5] (fun i wr => ∃ j : Nat, j ≤ n ∧ i = .int .i64 (j : Int) ∧ Below w.heap.size w wr) (fun i _ => n - (intOf i).toNat)
 case atStart => exact ⟨0, Nat.zero_le _, rfl, Below.refl _ _⟩
 case round =>
  obtain ⟨j, hj, rfl, hb⟩ := hrel
  by_cases hlt : j < n
  ·obtain ⟨b, off, rfl, hbl, h1, h2⟩ := (HX.out.below hb (Nat.le_refl _)).at hlt
   obtain ⟨b', off', rfl, hbl', h3, h4⟩ := (HY.out.below hb (Nat.le_refl _)).at hlt
   have hsz := hb.size
   have HB := Lib.hid hb
   generalize fs.getD (2 * j) 0 = v0 at *
   generalize fs.getD (2 * j + 1) 0 = v1 at *
   have H1 := Lib.hid (And.intro h1 h2)
   have H2 := Lib.hid (And.intro h3 h4)
   have hl1 : b < wr.heap.size := Nat.lt_of_lt_of_le hbl hsz
   have hl2 : b' < wr.heap.size := Nat.lt_of_lt_of_le hbl' hsz
   clear h1 h2 h3 h4 hb hbl hbl'
   obtain ⟨wo, rfl⟩ : ∃ x, x = wr := ⟨_, rfl⟩
   go_wp2
   (refine wp_region_below (by kernel_rfl) (by kernel_rfl) ?_; (repeat (refine wpQuiet_step (fun K hK => ?_); go_simp; first | (refine hK _ ?_; clear hK K) | (apply Exists.intro; refine ⟨fun wq hq => ?_, hK _ ?_⟩; (first | rfl | (have c0 := (hq.cell (p := ⟨b, off + j * 2, none⟩) hl1).trans H1.out.1; have c1 := (hq.cell (p := ⟨b, off + j * 2 + 1, none⟩) hl1).trans H1.out.2; have d0 := (hq.cell (p := ⟨b', off' + j * 2, none⟩) hl2).trans H2.out.1; have d1 := (hq.cell (p := ⟨b', off' + j * 2 + 1, none⟩) hl2).trans H2.out.2; first | (go_simp; done) | (go_simp; rfl) | (first | (go_at_call 124; refine (eqFraction_yes v0 v1 _).mono ?_; rintro e w1 ⟨rfl, hb1⟩; exact ⟨rfl, Base.Below.nextA hq hb1⟩)))); clear hK K))); refine wpQuiet_nil ?_; intro wq hq)
   have HB1 := Lib.hid (HB.out.trans (hq.mono hsz))
   clear hq
   go_wp2
   go_roundw
   case rel => exact ⟨j + 1, hlt, by go_num, HB1.out⟩
   case measure => simp [intOf]; omega
  ·obtain rfl : j = n := by omega
   have HB := Lib.hid hb
   go_wp2
   go_ret
   exact ⟨rfl, HB.out⟩
theorem infoFr : (Tryz.prog.info? 34).map (fun i => (i.zero, i.size, i.bytes)) = some (some (.agg #[.int .i64 0, .int .i64 0]), 2, 16) := by kernel_rfl
theorem news_two (w : World) (t : TypeId) {u0 u1 : Value} {g : Nat} (hg : g = w.heap.size) : ∀ (j : Nat) (x : Value), [u0, u1][j]? = some x → (w.alloc (.cells #[u0, u1] t)).cell? ((⟨g, 0, none⟩ : Addr).add j) = some x := by
 subst hg
 intro j x hx
 have e : (#[u0, u1] : Array Value)[j]? = some x := by rw [← Array.getElem?_toList]; exact hx
 rw [Addr.add_lit]
 exact (World.cell?_alloc_new w #[u0, u1] t (0 + j)).trans (by rw [Nat.zero_add]; exact e)
theorem ones_two {a b : Int} : ∀ u ∈ [Value.int .i64 a, .int .i64 b], u.oneCell' = true := by
 intro u hu
 simp only [List.mem_cons, List.not_mem_nil, or_false] at hu
 rcases hu with rfl | rfl <;> rfl
theorem OwnF_above {w w' : World} {B n : Nat} {v : Value} {fs : List Int} (h : OwnF w B v n fs) (hb : Above B w w') : OwnF w' B v n fs := ownsRow_above h hb
def FsRet (N : Nat) (R : List Int) (ok : Bool) (w : World) (e : Ending) (w' : World) : Prop := ∃ A c, e = .returned (.tuple #[.slice A N c, .bool ok]) ∧ OwnF w' w.heap.size (.slice A N c) N R ∧ Below w.heap.size w w'
theorem FsRet.no {w w' : World} (h : Below w.heap.size w w') : FsRet 0 [] false w (.returned (.tuple #[.slice none 0 0, .bool false])) w' := ⟨none, 0, rfl, World.ownsRow_nil _ _ _ _, h⟩
end Go.Proofs.YthagenodiofgnaaGreat.MemF
namespace Go.Proofs.YthagenodiofgnaaGreat.GiveM
open Go.RowKit Go.Proofs.YthagenodiofgnaaGreat Go.Proofs.YthagenodiofgnaaGreat.Base Go.Proofs.YthagenodiofgnaaGreat.Mem Go.Proofs.YthagenodiofgnaaGreat.MemF Go.Proofs.YthagenodiofgnaaGreat.RatM
set_option linter.unusedVariables false
def smallAll (f : Nat → Rat) (n : Nat) : Bool := (List.range n).all fun i => smallQ (f i)
def outF (f : Nat → Rat) : Nat → List Int
 | 0 => []
 | n + 1 => outF f n ++ [numQ (f n), denQ (f n)]
def gN (f : Nat → Rat) (n : Nat) : Nat := if smallAll f n then n else 0
def gR (f : Nat → Rat) (n : Nat) : List Int := if smallAll f n then outF f n else []
theorem small_no {f : Nat → Rat} {n i : Nat} (hi : i < n) (h : smallQ (f i) = false) : gN f n = 0 ∧ gR f n = [] ∧ smallAll f n = false := by
 have e : smallAll f n = false := by
  cases h' : smallAll f n with
  | false => rfl
  | true =>
   have := List.all_eq_true.1 h' i (List.mem_range.2 hi)
   rw [h] at this; cases this
 exact ⟨by rw [gN, e]; rfl, by rw [gR, e]; rfl, e⟩
theorem small_yes' {f : Nat → Rat} {n : Nat} (h : ∀ i, i < n → smallQ (f i) = true) : gN f n = n ∧ gR f n = outF f n ∧ smallAll f n = true := by
 have e : smallAll f n = true := List.all_eq_true.2 fun i hi => h i (List.mem_range.1 hi)
 exact ⟨by rw [gN, e]; rfl, by rw [gR, e]; rfl, e⟩
theorem outF_congr {f g : Nat → Rat} : ∀ {n : Nat}, (∀ i, i < n → f i = g i) → outF f n = outF g n
 | 0, _ => rfl
 | n + 1, h => by rw [outF, outF, outF_congr (fun i hi => h i (by omega)), h n (by omega)]
theorem give_congr {f g : Nat → Rat} {n : Nat} (h : ∀ i, i < n → f i = g i) : gN f n = gN g n ∧ gR f n = gR g n ∧ smallAll f n = smallAll g n := by
 have e : smallAll f n = smallAll g n := by
  unfold smallAll
  rw [Bool.eq_iff_iff, List.all_eq_true, List.all_eq_true]
  exact ⟨fun H i hi => by rw [← h i (List.mem_range.1 hi)]; exact H i hi, fun H i hi => by rw [h i (List.mem_range.1 hi)]; exact H i hi⟩
 refine ⟨by rw [gN, gN, e], ?_, e⟩
 rw [gR, gR, e, outF_congr h]
def GRel (f : Nat → Rat) (n : Nat) (w : World) (iv sv : Value) (wr : World) : Prop :=
 ∃ i : Nat, iv = .int .i64 (i : Int) ∧ i ≤ n ∧ Hid (OwnF wr w.heap.size sv i (outF f i)) ∧ Hid (∀ j, j < i → smallQ (f j) = true) ∧ Hid (Below w.heap.size w wr)
theorem GRel.start (f : Nat → Rat) (n : Nat) (w : World) : GRel f n w (.int .i64 0) (.slice (some ⟨w.heap.size, 0, none⟩) 0 0) (w.alloc (.cells #[] 34)) := by
 refine ⟨0, rfl, Nat.zero_le _, Lib.hid ?_, Lib.hid (fun j hj => absurd hj (Nat.not_lt_zero j)), Lib.hid ((Below.refl _ _).alloc (Nat.le_refl _) _)⟩
 exact World.ownsRow_made w #[] 0 (Nat.le_refl _) (Nat.zero_le _) (by simp)
theorem GRel.next {f : Nat → Rat} {n i : Nat} {w wr w1 w2 : World} {sv v' : Value} {cs : Array Value} {t : TypeId} (hi : i < n) (hO : OwnF wr w.heap.size sv i (outF f i)) (ha : ∀ j, j < i → smallQ (f j) = true) (hv : smallQ (f i) = true) (hb : Below w.heap.size w wr) (h1 : Below wr.heap.size wr w1)
  (hown : w2.ownsRow w.heap.size 34 2 v' (i + 1) (ints (outF f i) ++ [.int .i64 (numQ (f i)), .int .i64 (denQ (f i))])) (hg : (w1.alloc (.cells cs t)).grownBy w2 sv.ownBlock) :
  GRel f n w (.int .i64 ((i : Int) + 1)) v' w2 := by
 have hrow : ∀ g, sv.ownBlock = some g → w.heap.size ≤ g ∧ g < wr.heap.size := fun g hgg => by
  obtain ⟨_, _, h1, h2⟩ := ownsRow_block hO hgg
  exact ⟨h1, h2⟩
 have h2 : Below wr.heap.size wr (w1.alloc (.cells cs t)) := h1.alloc h1.size _
 refine ⟨i + 1, by simp, hi, Lib.hid ?_, Lib.hid ?_, Lib.hid ?_⟩
 ·show w2.ownsRow w.heap.size 34 2 v' (i + 1) (ints (outF f (i + 1)))
  rw [outF, show ints (outF f i ++ [numQ (f i), denQ (f i)]) = ints (outF f i) ++ [.int .i64 (numQ (f i)), .int .i64 (denQ (f i))] by simp [ints]]
  exact hown
 ·intro j hj
  rcases Nat.lt_or_ge j i with h | h
  ·exact ha j h
  ·obtain rfl : j = i := by omega
   exact hv
 ·exact (hb.trans (h2.mono hb.size)).trans (grown_below hg (fun g e => (hrow g e).1) (Nat.le_trans hb.size h2.size))
end Go.Proofs.YthagenodiofgnaaGreat.GiveM
set_option linter.unusedVariables false
namespace Go.Proofs.YthagenodiofgnaaGreat.TwoM
theorem mul_parts (x y : Nat) : x * y = 4294967296 * (4294967296 * (x / 4294967296 * (y / 4294967296))) + 4294967296 * (x / 4294967296 * (y % 4294967296)) + 4294967296 * (x % 4294967296 * (y / 4294967296)) + x % 4294967296 * (y % 4294967296) := by
 have hx := Nat.mod_add_div x 4294967296
 have hy := Nat.mod_add_div y 4294967296
 generalize x / 4294967296 = a at *
 generalize x % 4294967296 = b at *
 generalize y / 4294967296 = c at *
 generalize y % 4294967296 = d at *
 subst hx hy
 rw [Nat.add_mul, Nat.mul_add, Nat.mul_add]
 have e1 : 4294967296 * a * d = 4294967296 * (a * d) := Nat.mul_assoc _ _ _
 have e2 : b * (4294967296 * c) = 4294967296 * (b * c) := by rw [Nat.mul_left_comm]
 have e3 : 4294967296 * a * (4294967296 * c) = 4294967296 * (4294967296 * (a * c)) := by rw [Nat.mul_assoc, Nat.mul_left_comm a]
 rw [e1, e2, e3]
 omega
theorem times_two (x y : Nat) (hx : x < 9223372036854775808) (hy : y < 9223372036854775808) :
  ∃ P O T L : Nat, x / 4294967296 * (y / 4294967296) = P ∧ x / 4294967296 * (y % 4294967296) = O ∧ x % 4294967296 * (y / 4294967296) = T ∧ x % 4294967296 * (y % 4294967296) = L ∧
   P ≤ 4611686016279904256 ∧ O ≤ 9223372030412324865 ∧ T ≤ 9223372030412324865 ∧ L ≤ 18446744065119617025 ∧
   x * y / 18446744073709551616 = P + O / 4294967296 + T / 4294967296 + (L / 4294967296 + O % 4294967296 + T % 4294967296) / 4294967296 ∧
   x * y % 18446744073709551616 = (L / 4294967296 + O % 4294967296 + T % 4294967296) % 4294967296 * 4294967296 + L % 4294967296 := by
 have e := mul_parts x y
 have hP := Nat.mul_le_mul (show x / 4294967296 ≤ 2147483647 by omega) (show y / 4294967296 ≤ 2147483647 by omega)
 have hO := Nat.mul_le_mul (show x / 4294967296 ≤ 2147483647 by omega) (show y % 4294967296 ≤ 4294967295 by omega)
 have hT := Nat.mul_le_mul (show x % 4294967296 ≤ 4294967295 by omega) (show y / 4294967296 ≤ 2147483647 by omega)
 have hL := Nat.mul_le_mul (show x % 4294967296 ≤ 4294967295 by omega) (show y % 4294967296 ≤ 4294967295 by omega)
 refine ⟨_, _, _, _, rfl, rfl, rfl, rfl, by omega, by omega, by omega, by omega, ?_, ?_⟩
 ·rw [e]
  generalize x / 4294967296 * (y / 4294967296) = P at *
  generalize x / 4294967296 * (y % 4294967296) = O at *
  generalize x % 4294967296 * (y / 4294967296) = T at *
  generalize x % 4294967296 * (y % 4294967296) = L at *
  omega
 ·rw [e]
  generalize x / 4294967296 * (y / 4294967296) = P at *
  generalize x / 4294967296 * (y % 4294967296) = O at *
  generalize x % 4294967296 * (y / 4294967296) = T at *
  generalize x % 4294967296 * (y % 4294967296) = L at *
  omega
theorem split_bit {t i d q r : Nat} (hd : 0 < d) (hq : q = t / 2 ^ (i + 1) / d) (hr : r = t / 2 ^ (i + 1) % d) :
  (d ≤ 2 * r + t / 2 ^ i % 2 → t / 2 ^ i / d = 2 * q + 1 ∧ t / 2 ^ i % d = 2 * r + t / 2 ^ i % 2 - d) ∧ (2 * r + t / 2 ^ i % 2 < d → t / 2 ^ i / d = 2 * q ∧ t / 2 ^ i % d = 2 * r + t / 2 ^ i % 2) := by
 have h1 : t / 2 ^ i = 2 * (t / 2 ^ (i + 1)) + t / 2 ^ i % 2 := by
  have : t / 2 ^ (i + 1) = t / 2 ^ i / 2 := by rw [Nat.pow_succ, Nat.div_div_eq_div_mul]
  omega
 have h2 : t / 2 ^ i % 2 ≤ 1 := by omega
 generalize t / 2 ^ i % 2 = b at *
 generalize t / 2 ^ (i + 1) = h at *
 generalize t / 2 ^ i = g at *
 have h3 := Nat.div_add_mod h d
 have h4 := Nat.mod_lt h hd
 rw [← hq, ← hr] at h3
 rw [← hr] at h4
 have key : g = d * (2 * q) + (2 * r + b) := by
  rw [h1, ← h3, Nat.mul_add, Nat.mul_left_comm]; omega
 constructor
 ·intro hle
  have : g = d * (2 * q + 1) + (2 * r + b - d) := by rw [key, Nat.mul_add d (2 * q) 1]; omega
  refine ⟨?_, ?_⟩
  ·rw [this, Nat.mul_add_div hd, Nat.div_eq_of_lt (by omega), Nat.add_zero]
  ·rw [this, Nat.mul_add_mod, Nat.mod_eq_of_lt (by omega)]
 ·intro hlt
  refine ⟨?_, ?_⟩
  ·rw [key, Nat.mul_add_div hd, Nat.div_eq_of_lt hlt, Nat.add_zero]
  ·rw [key, Nat.mul_add_mod, Nat.mod_eq_of_lt hlt]
theorem bit_high (t i : Nat) (h : 64 ≤ i) : t / 2 ^ i % 2 = t / 18446744073709551616 / 2 ^ (i - 64) % 2 := by
 rw [Nat.div_div_eq_div_mul, show (18446744073709551616 : Nat) = 2 ^ 64 by decide, ← Nat.pow_add]
 congr 3; omega
theorem bit_low (t i : Nat) (h : i < 64) : t / 2 ^ i % 2 = t % 18446744073709551616 / 2 ^ i % 2 := by
 have e : (18446744073709551616 : Nat) = 2 ^ i * (2 * 2 ^ (63 - i)) := by
  rw [← Nat.pow_succ', ← Nat.pow_add, show i + (63 - i + 1) = 64 by omega]
 rw [e, Nat.mod_mul_right_div_self, Nat.mod_mul_right_mod]
end Go.Proofs.YthagenodiofgnaaGreat.TwoM
namespace Go.Proofs.YthagenodiofgnaaGreat.Tail
open Go.RowKit Go.Proofs.YthagenodiofgnaaGreat Go.Proofs.YthagenodiofgnaaGreat.Base
set_option linter.unusedVariables false
section
variable {P : Program} {ops : Array Oper} {md : Region.Mode} {C : World → Prop}
def wpAnyT (P : Program) (md : Region.Mode) (ops : Array Oper) (C : World → Prop) (n : Nat) (L : Array Bool → Act → Prop) : Nat → Array Bool → Act → Prop
 | 0, listed, a => L listed a
 | f + 1, listed, a => Region.ready md ops listed ≠ [] ∧ ∀ i ∈ Region.ready md ops listed, i < n ∧ qOp P ops C i (wpAnyT P md ops C n L f (listed.setIfInBounds i true)) a
theorem wpAny_of_headT {n g : Nat} {L : Array Bool → Act → Prop} {Q' : Exit → Act → World → Prop} (hL : ∀ listed a w, C w → L listed a → wpAny P md ops Q' g listed a w) :
  ∀ (f : Nat) (listed : Array Bool) (a : Act) (w : World), C w → wpAnyT P md ops C n L f listed a → wpAny P md ops Q' (f + g) listed a w
 | 0, listed, a, w, hw, h => by rw [Nat.zero_add]; exact hL _ _ _ hw h
 | f + 1, listed, a, w, hw, h => by
  rw [show f + 1 + g = (f + g) + 1 by omega]
  exact ⟨fun h0 => absurd h0 h.1, fun i hi => wpOp_of_qOp hw (fun a' w' hw' h' => wpAny_of_headT hL f _ a' w' hw' h') (h.2 i hi).2⟩
theorem wpAnyT_first {n i : Nat} {oi : Oper} {v : Value} {L : Array Bool → Act → Prop} (hi : ops[i]? = some oi) (hsel : ∀ (j : Nat) (o : Oper) cs b, ops[j]? = some o → o.op ≠ .select cs b)
  (hs : Region.sinkB md ops n = true) (hc : Region.chainB md ops n = true) (hn : n < ops.size) (hin : i < n)
  (hdone : ∀ listed a, L listed a → ∀ j ∈ Region.ready md ops listed, n ≤ j) :
  ∀ (f : Nat) (listed : Array Bool) (a : Act), HeadInv md ops n listed →
   (∀ j oj, ops[j]? = some oj → j ≠ i → listed.getD j true = false → (∀ e ∈ oj.after, Region.binds md e = true → e.on ≠ i) → oi.apart ops oj = true) →
   i ∈ Region.ready md ops listed → YieldsIn P ops C oi v a →
   wpAnyT P md ops C n L f (listed.setIfInBounds i true) (a.put oi.dst v) → wpAnyT P md ops C n L (f + 1) listed a := by
 intro f
 induction f with
 | zero =>
  intro listed a inv _ hr hy H
  have hun := (mem_ready.1 hr).1
  refine ⟨fun h => (by rw [h] at hr; cases hr), fun j hj => ?_⟩
  have hjn : j < n := by
   rcases Nat.lt_or_ge j n with h | h
   ·exact h
   ·exact absurd hj (tail_waits hs hc hn inv _ i rfl hin hun j h)
  refine ⟨hjn, ?_⟩
  by_cases hji : j = i
  ·subst hji; exact hy.qOp hi H
  ·have := hdone _ _ H j (ready_mono hj hji)
   omega
 | succ f ih =>
  intro listed a inv hfree hr hy H
  have hun := (mem_ready.1 hr).1
  refine ⟨fun h => (by rw [h] at hr; cases hr), fun j hj => ?_⟩
  have hjn : j < n := by
   rcases Nat.lt_or_ge j n with h | h
   ·exact h
   ·exact absurd hj (tail_waits hs hc hn inv _ i rfl hin hun j h)
  refine ⟨hjn, ?_⟩
  by_cases hji : j = i
  ·subst hji; exact hy.qOp hi H
  ·have h1 := (H.2 j (ready_mono hj hji)).2
   obtain ⟨hjun, oj, hoj, hall⟩ := mem_ready.1 hj
   have hnot : ∀ e ∈ oj.after, Region.binds md e = true → e.on ≠ i := fun e he hb heq => by
    have h1 := hall e he hb
    rw [heq, getD_both hun] at h1
    cases h1
   have h2 := qOp_put hoj (hfree j oj hoj hji hjun hnot) (fun cs b => hsel i oi cs b hi) (fun cs b => hsel j oj cs b hoj) hy h1
   have hfree' : ∀ k ok, ops[k]? = some ok → k ≠ i → (listed.setIfInBounds j true).getD k true = false →
     (∀ e ∈ ok.after, Region.binds md e = true → e.on ≠ i) → oi.apart ops ok = true := fun k ok hk hki hun hno => by
    refine hfree k ok hk hki ?_ hno
    by_cases hjk : j = k
    ·subst hjk; exact hjun
    ·rw [getD_set_ne true hjk] at hun; exact hun
   refine qOp_mono (fun a' h3 => ih (listed.setIfInBounds j true) a' (inv.set hj hjn) hfree' (ready_mono hr (Ne.symm hji)) h3.1 ?_) h2
   rw [Array.setIfInBounds_comm _ _ hji]
   exact h3.2
theorem wpAnyT_lex {n g : Nat} {Lq : Act → Prop} (hsel : Region.noSelect ops = true) (hs : Region.sinkB md ops n = true) (hc : Region.chainB md ops n = true) (hn : n < ops.size) :
  ∀ (l : List Oper) (k : Nat) (listed : Array Bool) (a : Act), (∀ j, j < l.length → l[j]? = ops[k + j]?) → k + l.length = n → HeadInv md ops n listed →
  Region.lexHead md ops g l.length k listed = true → wpQuiet P ops C Lq l a →
  wpAnyT P md ops C n (fun listed' a' => Region.seqB md ops g n listed' = true ∧ Lq a') l.length listed a
 | [], k, listed, a, _, hk, _, hB, h => by
  have : k = n := by simpa using hk
  subst this
  exact ⟨by simpa [Region.lexHead] using hB, h⟩
 | o :: l, k, listed, a, hl, hk, inv, hB, h => by
  have h0 : ops[k]? = some o := by simpa using (hl 0 (by simp)).symm
  simp only [List.length_cons, Region.lexHead, Bool.and_eq_true] at hB
  obtain ⟨⟨hr, hf⟩, hB'⟩ := hB
  have hkn : k < n := by simp only [List.length_cons] at hk; omega
  have hr' : k ∈ Region.ready md ops listed := by simpa using hr
  have hst : qOp P ops C k (wpQuiet P ops C Lq l) a := by unfold qOp; simp only [h0]; exact h
  obtain ⟨v, hy, hK⟩ := yieldsIn_of_qOp h0 hst
  exact wpAnyT_first h0 (Region.noSelect_spec hsel) hs hc hn hkn (fun listed' a' hL => seqB_ready hL.1) l.length listed a inv (Region.free_spec h0 hf) hr' hy
   (wpAnyT_lex hsel hs hc hn l (k + 1) _ _ (fun j hj => by have := hl (j + 1) (by simp; omega); simpa [Nat.add_assoc, Nat.add_comm 1 j] using this) (by simp only [List.length_cons] at hk; omega) (inv.set hr' hkn) hB' hK)
theorem wp_region_quiet_tail {id : Nat} {Q : Exit → Act → World → Prop} {a : Act} {w : World} {l : List Oper} (n : Nat) (hm : P.follows .mixedOrders = true) (hB : Region.lexTailB .any l.toArray n = true) (hC : C { w with drawn := w.drawn + 1 })
  (h : wpQuiet P l.toArray C (fun a' => ∀ w', C w' → wpList P l.toArray Q (l.drop n) a' w') (l.take n) a) : (Code.region id l.toArray true).wp P Q a w := by
 simp only [Region.lexTailB, Bool.and_eq_true, decide_eq_true_eq] at hB
 obtain ⟨⟨⟨⟨hsel, hn⟩, hs⟩, hc⟩, hlex⟩ := hB
 have hn' : n < l.length := by simpa using hn
 have htl : (l.take n).length = n := by simp; omega
 have hdl : (l.drop n).length = l.toArray.size - n := by simp
 have inv0 : HeadInv .any l.toArray n (Array.replicate l.toArray.size false) :=
  ⟨by simp, fun j oj _ hl => (by rw [getD_replicate_false] at hl; cases hl), fun t _ ht => getD_in (by simpa using ht) (getD_replicate_false _ _)⟩
 have H := wpAnyT_lex (C := C) (md := .any) (g := l.toArray.size - n) hsel hs hc hn (l.take n) 0 _ a (fun j hj => by
  have hj' : j < n := by rw [htl] at hj; exact hj
  simp [hj']) (by simpa using htl) inv0 (by rw [htl]; exact hlex) h
 refine wp_region_any hm ?_
 have := wpAny_of_headT (Q' := Q) (g := l.toArray.size - n) (fun listed a' w' hw' hL => by
  have := wpAny_of_seq (md := .any) (Q' := Q) (l.drop n) n listed a' w' (fun j => by simp [List.getElem?_drop]) (by rw [hdl]; exact hL.1) (hL.2 w' hw')
  rwa [hdl] at this) _ _ _ _ hC H
 rw [htl, show n + (l.toArray.size - n) = l.toArray.size by omega] at this
 exact this
end
end Go.Proofs.YthagenodiofgnaaGreat.Tail
namespace Go.Proofs.YthagenodiofgnaaGreat.Two
open Go.RowKit Go.Proofs.YthagenodiofgnaaGreat Go.Proofs.YthagenodiofgnaaGreat.Base Go.Proofs.YthagenodiofgnaaGreat.Mem Go.Proofs.YthagenodiofgnaaGreat.TwoM Go.Proofs.YthagenodiofgnaaGreat.Blk
set_option linter.unusedVariables false
def two (t : Nat) : Value := .agg #[.int .u64 ((t / 18446744073709551616 : Nat) : Int), .int .u64 ((t % 18446744073709551616 : Nat) : Int)]
theorem u64_or (a b : Nat) (ha : a < 18446744073709551616) (hb : b < 18446744073709551616) : bits .or .u64 (a : Int) (b : Int) = ((a ||| b : Nat) : Int) := by
 have hx : a ||| b < 2 ^ 64 := Nat.or_lt_two_pow (by omega) (by omega)
 have e : ∀ z : Nat, z < 18446744073709551616 → (BitVec.ofInt 64 (z : Int)).toNat = z := fun z hz => by
  rw [BitVec.ofInt_natCast, BitVec.toNat_ofNat]; exact Nat.mod_eq_of_lt (by omega)
 show IntKind.u64.wrap ((BitVec.ofInt 64 (a : Int) ||| BitVec.ofInt 64 (b : Int)).toNat : Int) = _
 rw [BitVec.toNat_or, e a ha, e b hb, IntKind.wrap_u64]
 omega
theorem or_parts {a b k : Nat} (hb : b < 2 ^ k) (h : a * 2 ^ k + b < 18446744073709551616) : bits .or .u64 ((a * 2 ^ k : Nat) : Int) (b : Int) = ((a * 2 ^ k + b : Nat) : Int) := by
 rw [u64_or _ _ (by omega) (by omega)]
 have e := Nat.shiftLeft_add_eq_or_of_lt hb a
 rw [Nat.shiftLeft_eq] at e
 rw [e]
set_option maxHeartbeats 2000000 in
set_option maxRecDepth 100000 in
theorem times_any (x y : Nat) (hx : x ≤ 1000000000000000000) (hy : y ≤ 1000000000000000000) (w : World) : Calls Tryz.prog 132 #[.int .i64 (x : Int), .int .i64 (y : Int)] w fun e w' => e = .returned (two (x * y)) ∧ Below w.heap.size w w' := by
 obtain ⟨P, O, T, L, hP, hO, hT, hL, lP, lO, lT, lL, e1, e2⟩ := times_two x y (by omega) (by omega)
 unfold two
 rw [e1, e2]
 have rP : (x : Int) / 4294967296 * ((y : Int) / 4294967296) = (P : Int) := by rw [← hP]; simp
 have rO : (x : Int) / 4294967296 * ((y : Int) % 4294967296) = (O : Int) := by rw [← hO]; simp
 have rT : (x : Int) % 4294967296 * ((y : Int) / 4294967296) = (T : Int) := by rw [← hT]; simp
 have rL : (x : Int) % 4294967296 * ((y : Int) % 4294967296) = (L : Int) := by rw [← hL]; simp
 obtain ⟨L1, hL1⟩ : ∃ L1, L1 = L / 4294967296 := ⟨_, rfl⟩
 obtain ⟨L0, hL0⟩ : ∃ L0, L0 = L % 4294967296 := ⟨_, rfl⟩
 obtain ⟨O1, hO1⟩ : ∃ O1, O1 = O / 4294967296 := ⟨_, rfl⟩
 obtain ⟨O0, hO0⟩ : ∃ O0, O0 = O % 4294967296 := ⟨_, rfl⟩
 obtain ⟨T1, hT1⟩ : ∃ T1, T1 = T / 4294967296 := ⟨_, rfl⟩
 obtain ⟨T0, hT0⟩ : ∃ T0, T0 = T % 4294967296 := ⟨_, rfl⟩
 rw [← hL1, ← hL0, ← hO1, ← hO0, ← hT1, ← hT0]
 have r1 : (L : Int) / 4294967296 = (L1 : Int) := by omega
 have r2 : (L : Int) % 4294967296 = (L0 : Int) := by omega
 have r3 : (O : Int) / 4294967296 = (O1 : Int) := by omega
 have r4 : (O : Int) % 4294967296 = (O0 : Int) := by omega
 have r5 : (T : Int) / 4294967296 = (T1 : Int) := by omega
 have r6 : (T : Int) % 4294967296 = (T0 : Int) := by omega
 have b1 : L1 < 4294967296 := by omega
 have b2 : L0 < 4294967296 := by omega
 have b3 : O1 < 4294967296 := by omega
 have b4 : O0 < 4294967296 := by omega
 have b5 : T1 < 4294967296 := by omega
 have b6 : T0 < 4294967296 := by omega
 clear hL1 hL0 hO1 hO0 hT1 hT0 hP hO hT hL e1 e2
 obtain ⟨M, hM⟩ : ∃ M, M = L1 + O0 + T0 := ⟨_, rfl⟩
 obtain ⟨M1, hM1⟩ : ∃ M1, M1 = M / 4294967296 := ⟨_, rfl⟩
 obtain ⟨M0, hM0⟩ : ∃ M0, M0 = M % 4294967296 := ⟨_, rfl⟩
 rw [← hM, ← hM1, ← hM0]
 have c1 : M1 < 4294967296 := by omega
 have c2 : M0 < 4294967296 := by omega
 have s1 : IntKind.u64.wrap ((L1 : Int) + (O0 : Int)) = ((L1 + O0 : Nat) : Int) := by rw [IntKind.wrap_u64]; omega
 have s2 : IntKind.u64.wrap (((L1 + O0 : Nat) : Int) + (T0 : Int)) = (M : Int) := by rw [IntKind.wrap_u64]; omega
 have s3 : (M : Int) / 4294967296 = (M1 : Int) := by omega
 have t1 : IntKind.u64.wrap ((P : Int) + (O1 : Int)) = ((P + O1 : Nat) : Int) := by rw [IntKind.wrap_u64]; omega
 have t2 : IntKind.u64.wrap (((P + O1 : Nat) : Int) + (T1 : Int)) = ((P + O1 + T1 : Nat) : Int) := by rw [IntKind.wrap_u64]; omega
 have t3 : IntKind.u64.wrap (((P + O1 + T1 : Nat) : Int) + (M1 : Int)) = ((P + O1 + T1 + M1 : Nat) : Int) := by rw [IntKind.wrap_u64]; omega
 obtain ⟨A1, hA1⟩ : ∃ A1, A1 = L1 + O0 := ⟨_, rfl⟩
 obtain ⟨A2, hA2⟩ : ∃ A2, A2 = P + O1 := ⟨_, rfl⟩
 obtain ⟨A3, hA3⟩ : ∃ A3, A3 = A2 + T1 := ⟨_, rfl⟩
 obtain ⟨A4, hA4⟩ : ∃ A4, A4 = A3 + M1 := ⟨_, rfl⟩
 rw [← hA1] at s1 s2
 rw [← hA2] at t1 t2 t3
 rw [← hA3] at t2 t3
 rw [← hA4] at t3
 rw [← hA2, ← hA3, ← hA4]
 have HM := Lib.hid (And.intro hM (And.intro hM1 hM0))
 have hw : IntKind.u64.wrap ((M : Int) * 4294967296) = ((M0 * 2 ^ 32 : Nat) : Int) := by rw [IntKind.wrap_u64]; omega
 have hor := or_parts (a := M0) (b := L0) (k := 32) (by omega) (by omega)
 rw [← hw] at hor
 have hN : M0 * 4294967296 + L0 = M0 * 2 ^ 32 + L0 := by omega
 rw [hN]
 obtain ⟨N, hNe⟩ : ∃ N, N = M0 * 2 ^ 32 + L0 := ⟨_, rfl⟩
 rw [← hNe] at hor
 rw [← hNe]
 clear hw hN hNe
 clear hA1 hA2 hA3 hA4 hM hM1 hM0
 go_enter Tryz.func132, Tryz.ntmps132
 go_wp2
 go_quiet (fail)
 go_wp2
 go_quiet (fail)
 go_wp2
 go_quiet (fail)
 go_wp2
 go_quiet (fail)
 go_wp2
 rename_i n1 n2 n3 _ _
 obtain ⟨W, hW⟩ : ∃ W, W = (((((w.alloc (.cells #[.int .u64 0, .int .u64 0] 164)).drewN n1).drewN n2).drewN n3).drewN nq) := ⟨_, rfl⟩
 rw [← hW]
 have K : Blk W w.heap.size 164 #[.int .u64 0, .int .u64 0] := by rw [hW]; exact Blk.new w _ _
 have hB : Below w.heap.size w W := by rw [hW]; exact below_drewN (below_drewN (below_drewN (below_drewN ((Below.refl _ _).alloc (Nat.le_refl _) _) _) _) _) _
 have HK := Lib.hid K
 have HB := Lib.hid hB
 clear hW K hB
 (refine Tail.wp_region_quiet_tail (C := fun w' => ∃ n, w' = World.drewN W n) 26 (by kernel_rfl) (by kernel_rfl) ⟨1, rfl⟩ ?_; simp only [List.take_succ_cons, List.take_zero, List.drop_succ_cons, List.drop_zero]; (repeat (go_big_quiet_step (fail))); refine wpQuiet_nil ?_; rintro _ ⟨nq, rfl⟩)
 have S := ((HK.out.drewN nq).setTo 0 (.int .u64 (A4 : Int)) rfl).setTo 1 (.int .u64 (N : Int)) rfl
 have k0 := (HK.out.drewN nq).at 0 rfl
 have k1 := (HK.out.drewN nq).at 1 rfl
 have z0 := (HK.out.drewN nq).frz 0
 have z1 := (HK.out.drewN nq).frz 1
 have q0 := S.at 0 rfl
 have q1 := S.at 1 rfl
 go_wp2
 refine bodyPost_ret (v := .agg #[.int .u64 (A4 : Int), .int .u64 (N : Int)]) (by simp [results, Tryz.results132, go_sem, q0, q1]) rfl ⟨rfl, ?_⟩
 exact ((below_drewN HB.out nq).setCell (by simp) _).setCell (by simp) _
end Go.Proofs.YthagenodiofgnaaGreat.Two

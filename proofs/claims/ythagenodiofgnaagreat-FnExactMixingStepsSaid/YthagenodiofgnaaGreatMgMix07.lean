/- The program: the rows of a walk as ratios. -/
import Derived.Test.YthagenodiofgnaaGreatMgMix06
import Derived.Test.YthagenodiofgnaaGreatMgMix05
import Derived.Test.YthagenodiofgnaaGreatMgMix03
import Derived.Test.YthagenodiofgnaaGreatMgMix00
import Derived.StillTail
namespace Go.Proofs.YthagenodiofgnaaGreat.Ratio
open Go.RowKit Go.Proofs.YthagenodiofgnaaGreat Go.Proofs.YthagenodiofgnaaGreat.Base Go.Proofs.YthagenodiofgnaaGreat.Mem Go.Proofs.YthagenodiofgnaaGreat.NatM Go.Proofs.YthagenodiofgnaaGreat.Nat32 Go.Proofs.YthagenodiofgnaaGreat.RatM Go.Proofs.YthagenodiofgnaaGreat.Blk Go.Proofs.YthagenodiofgnaaGreat.MemF Go.Proofs.YthagenodiofgnaaGreat.GiveM Go.Proofs.YthagenodiofgnaaGreat.ChM Go.Proofs.YthagenodiofgnaaGreat.WalkM
open Go.Proofs.YthagenodiofgnaaGreat.Inv (natOf natOf_eq len_pos Rat3 not_slice not_bool frz)
set_option linter.unusedVariables false
def LowC (B : Nat) (cs : List Value) : Prop := ∀ a k c, Value.slice (some a) k c ∈ cs → B ≤ a.block
theorem LowC.nil (B : Nat) : LowC B [] := fun a k c h => by cases h
theorem LowC.push {B : Nat} {cs : List Value} {q : Rat} {A1 A2 : Option Addr} {c1 c2 : Nat} (h : LowC B cs) (h1 : ∀ a, A1 = some a → B ≤ a.block) (h2 : ∀ a, A2 = some a → B ≤ a.block) : LowC B (cs ++ rt3 q A1 A2 c1 c2) := by
 intro a k c hm
 rcases List.mem_append.1 hm with hm | hm
 ·exact h a k c hm
 ·simp only [rt3, List.mem_cons, List.not_mem_nil, or_false] at hm
  rcases hm with hm | hm | hm
  ·cases hm
  ·injection hm with e _ _; exact h1 a e.symm
  ·injection hm with e _ _; exact h2 a e.symm
def RsRelL (fs : List Int) (n : Nat) (w : World) (iv ov : Value) (wr : World) : Prop :=
 ∃ (i : Nat) (cs : List Value), iv = .int .i64 (i : Int) ∧ i ≤ n ∧ Hid (OwnR wr w.heap.size ov i (fq fs) cs) ∧ Hid (LowC w.heap.size cs) ∧ Hid (Below w.heap.size w wr)
def RsRetL (n : Nat) (f : Nat → Rat) (w : World) (e : Ending) (w' : World) : Prop := ∃ v cs, e = .returned v ∧ OwnR w' w.heap.size v n f cs ∧ LowC w.heap.size cs ∧ Below w.heap.size w w'
theorem RsRelL.next {fs : List Int} {n i : Nat} {w wr w1 w2 : World} {v v' : Value} {cs : List Value} {A1 A2 : Option Addr} {c1 c2 : Nat} {ca : Array Value} {t : TypeId} (hi : i < n) (h : OwnR wr w.heap.size v i (fq fs) cs) (hl : LowC w.heap.size cs) (hb : Below w.heap.size w wr) (h1 : Below wr.heap.size wr w1)
  (d1 : RdV wr w1 A1 (natL (fq fs i).num.natAbs)) (d2 : RdV wr w1 A2 (natL (fq fs i).den)) (hown : w2.ownsRow w.heap.size 82 3 v' (i + 1) (cs ++ rt3 (fq fs i) A1 A2 c1 c2)) (hg : (w1.alloc (.cells ca t)).grownBy w2 v.ownBlock) (he : v'.ownBlock = v.ownBlock ∨ v'.ownBlock = some (w1.alloc (.cells ca t)).heap.size) : RsRelL fs n w (.int .i64 ((i : Int) + 1)) v' w2 := by
 have hb1 : Below wr.heap.size wr (w1.alloc (.cells ca t)) := h1.alloc h1.size _
 have hsz := hb.size
 refine ⟨i + 1, _, by simp, hi, Lib.hid (h.push h1 d1.1 d2.1 (fun _ => d1.apart h.row) (fun _ => d2.apart h.row) hown hg he), Lib.hid (hl.push (fun a ha => Nat.le_trans hsz (d1.2 a ha)) (fun a ha => Nat.le_trans hsz (d2.2 a ha))), Lib.hid ?_⟩
 exact (hb.trans (hb1.mono hb.size)).trans (grown_below hg (fun g e => (ownsRow_block h.row e).choose_spec.2.1) (Nat.le_trans hb.size hb1.size))
set_option maxHeartbeats 2000000 in
set_option maxRecDepth 100000 in
theorem ratiosL_any {A : Option Addr} {c B n : Nat} {fs : List Int} (w : World) (hx : RdF w B A n fs) (hB : B ≤ w.heap.size) (hv : AllVF fs n) (hn : n ≤ 1000) : Calls Tryz.prog 40 #[.slice A n c] w (RsRetL n (fq fs) w) := by
 obtain ⟨iw, wi, wz0, wz1, wz2⟩ := info_parts infoR
 have HX := Lib.hid (hx.more hB)
 have HV := Lib.hid hv
 have H0 : Hid (RsRelL fs n w (.int .i64 0) (.slice (some ⟨w.heap.size, 0, none⟩) 0 0) (w.alloc (.cells #[] 82))) := Lib.hid ⟨0, [], rfl, Nat.zero_le _, Lib.hid (OwnR.lit0 w _), Lib.hid (LowC.nil _), Lib.hid ((Below.refl _ _).alloc (Nat.le_refl _) _)⟩
 clear hx hv
 go_enter Tryz.func40, Tryz.ntmps40
 go_wp2
 go_loopw [9, 3] (fun iv ov wr => RsRelL fs n w iv ov wr) (fun iv _ _ => n - (intOf iv).toNat)
 case atStart => exact H0.out
 case round =>
  obtain ⟨i, cs, rfl, hi, HO, HLC, HB⟩ := hrel
  clear H0
  by_cases hlt : i < n
  ·obtain ⟨b, off, rfl, hbl, g1, g2⟩ := (HX.out.below HB.out (Nat.le_refl _)).at hlt
   have HW := Lib.hid (fun W => ratioOf_vf (HV.out i hlt) W)
   have hfq : qf (fs.getD (2 * i) 0) (fs.getD (2 * i + 1) 0) = fq fs i := rfl
   rw [hfq] at HW
   clear hfq
   have HNX := Lib.hid (fun (w1 w2 : World) v' A1 A2 c1 c2 ca t h1 d1 d2 hown hg he => RsRelL.next (w1 := w1) (w2 := w2) (v' := v') (A1 := A1) (A2 := A2) (c1 := c1) (c2 := c2) (ca := ca) (t := t) hlt HO.out HLC.out HB.out h1 d1 d2 hown hg he)
   unfold rt3 at HNX
   clear HLC
   generalize fs.getD (2 * i) 0 = x0 at *
   generalize fs.getD (2 * i + 1) 0 = x1 at *
   generalize fq fs i = q at *
   have hsz := HB.out.size
   go_upto_region 5 with (fail)
   obtain ⟨W1, hW1⟩ : ∃ W1, W1 = wr.alloc (.cells #[.int .i64 x0, .int .i64 x1] 34) := ⟨_, rfl⟩
   rw [← hW1]
   have K1 : Hid (Blk W1 wr.heap.size 34 #[.int .i64 x0, .int .i64 x1]) := Lib.hid (by rw [hW1]; exact Blk.new wr _ _)
   have HB1 : Hid (Below wr.heap.size wr W1) := Lib.hid (by rw [hW1]; exact (Below.refl _ _).alloc (Nat.le_refl _) _)
   have hs1 := HB1.out.size
   have y0 := K1.out.at 0 (v := .int .i64 x0) rfl
   have y1 := K1.out.at 1 (v := .int .i64 x1) rfl
   clear hW1 g1 g2
   go_wp2_with fail
   refine (HW.out _).mono ?_
   rintro e w2 ⟨A1, c1, A2, c2, rfl, d1, d2, hb2⟩
   have HB2 := Lib.hid (Base.Below.nextA HB1.out hb2)
   have hs2 := HB2.out.size
   have HD := Lib.hid (And.intro (d1.old HB1.out.size) (d2.old HB1.out.size))
   have HNN := Lib.hid (fun w3 v' ca t hown hg he => HNX.out w2 w3 v' A1 A2 c1 c2 ca t HB2.out HD.out.1 HD.out.2 hown hg he)
   have HW0 := Lib.hid (fun o => World.ownsRow.alloc (ownsRow_below HO.out.row HB2.out) o)
   clear d1 d2 hb2 HO HB y0 y1 HW HNX HD
   generalize decide (q < 0) = s at *
   generalize (natL q.num.natAbs).length = k1 at *
   generalize (natL q.den).length = k2 at *
   have HW2 := Lib.hid (HW0.out (.cells #[.bool s, .slice A1 k1 c1, .slice A2 k2 c2] 82))
   clear HW0
   go_wp2_with (at_builtin; refine wpList_append_own_at _ rfl (.tmp 13) (.tmp 16) 76 rfl w.heap.size 82 iw (.agg #[.bool false, .slice none 0 0, .slice none 0 0]) 3 56 Tryz.underlying76 wi wz0 wz1 wz2 rfl (by decide) _ _ _ rfl HW2.out ⟨w2.heap.size, 0, none⟩ 1 1 [.bool s, .slice A1 k1 c1, .slice A2 k2 c2] rfl rfl ?p1a ?p2a ?p3a ?p4a ?p5a ?_)
   try case p1a => exact news_three _ _ (by simp)
   try case p2a => exact ones_three
   try case p3a => first | (simp only [maxLen]; omega) | omega
   try case p4a => omega
   try case p5a => first | (simp only [World.size_alloc]; omega) | omega
   intro v' w3 hown' hg' _ he
   have HN3 := Lib.hid (HNN.out w3 v' _ _ hown' hg' (by rw [World.size_alloc]; exact he))
   clear hown' hg' he HNN HW2
   go_wp2
   go_roundw
   case rel => exact HN3.out
   case measure => simp [intOf]; omega
  ·obtain rfl : i = n := by omega
   obtain ⟨A', c', rfl, _⟩ := HO.out.form
   have HR : Hid (RsRetL i (fq fs) w (.returned (.slice A' i c')) wr) := Lib.hid ⟨_, cs, rfl, HO.out, HLC.out, HB.out⟩
   clear HO HB HLC
   go_wp2
   go_ret
   exact HR.out
def RdX (w : World) (own : Option Nat) (A : Option Addr) (n : Nat) (f : Nat → Rat) : Prop :=
 0 < n → ∃ g, A = some ⟨g, 0, none⟩ ∧ g < w.heap.size ∧ own ≠ some g ∧ ∀ i, i < n → ∃ s A1 k1 c1 A2 k2 c2, w.cell? ⟨g, i * 3, none⟩ = some (.bool s) ∧ w.cell? ⟨g, i * 3 + 1, none⟩ = some (.slice A1 k1 c1) ∧ w.cell? ⟨g, i * 3 + 2, none⟩ = some (.slice A2 k2 c2) ∧ IsRt w (f i) (.agg #[.bool s, .slice A1 k1 c1, .slice A2 k2 c2]) ∧ (0 < k1 → Apart own A1) ∧ (0 < k2 → Apart own A2)
theorem RdX.rd {w : World} {own : Option Nat} {A : Option Addr} {n : Nat} {f : Nat → Rat} (h : RdX w own A n f) : RdR w A n f := fun h0 => by
 obtain ⟨g, e, hlt, _, hc⟩ := h h0
 refine ⟨g, e, hlt, fun i hi => ?_⟩
 obtain ⟨s, A1, k1, c1, A2, k2, c2, x0, x1, x2, hr, _⟩ := hc i hi
 exact ⟨s, A1, k1, c1, A2, k2, c2, x0, x1, x2, hr⟩
theorem RdX.below {w w' : World} {own : Option Nat} {A : Option Addr} {n : Nat} {f : Nat → Rat} (h : RdX w own A n f) (hb : Below w.heap.size w w') : RdX w' own A n f := fun h0 => by
 obtain ⟨g, e, hlt, hne, hc⟩ := h h0
 refine ⟨g, e, Nat.lt_of_lt_of_le hlt hb.size, hne, fun i hi => ?_⟩
 obtain ⟨s, A1, k1, c1, A2, k2, c2, x0, x1, x2, hr, a1, a2⟩ := hc i hi
 exact ⟨s, A1, k1, c1, A2, k2, c2, (hb.cell (p := ⟨g, i * 3, none⟩) hlt).trans x0, (hb.cell (p := ⟨g, i * 3 + 1, none⟩) hlt).trans x1, (hb.cell (p := ⟨g, i * 3 + 2, none⟩) hlt).trans x2, hr.below hb, a1, a2⟩
theorem RdX.congr {w : World} {own : Option Nat} {A : Option Addr} {n : Nat} {f f' : Nat → Rat} (h : RdX w own A n f) (hf : ∀ i, i < n → f i = f' i) : RdX w own A n f' := fun h0 => by
 obtain ⟨g, e, hlt, hne, hc⟩ := h h0
 exact ⟨g, e, hlt, hne, fun i hi => by rw [← hf i hi]; exact hc i hi⟩
theorem apart_kept {w w' : World} {own own' : Option Nat} {A : Option Addr} {xs : List Nat} {k : Nat} (hk : k = xs.length) (h : RdU w w.heap.size A xs) (hg : w.grownBy w' own) (he : own' = own ∨ own' = some w.heap.size) (ha : 0 < k → Apart own A) : RdU w' w'.heap.size A xs ∧ (0 < k → Apart own' A) := by
 refine ⟨fun h0 => rdU_kept h hg (ha (by omega)) h0, fun h0 => ?_⟩
 rcases he with rfl | rfl
 ·exact ha h0
 ·obtain ⟨b, off, rfl, hlt, _⟩ := h (by omega)
  intro a ha hb
  injection ha with ha
  subst ha
  injection hb with hb
  have : w.heap.size = b := hb
  omega
theorem RdX.kept {w w' : World} {own own' : Option Nat} {A : Option Addr} {n : Nat} {f : Nat → Rat} (h : RdX w own A n f) (hg : w.grownBy w' own) (he : own' = own ∨ own' = some w.heap.size) : RdX w' own' A n f := fun h0 => by
 obtain ⟨g, rfl, hlt, hne, hc⟩ := h h0
 have hx : ∀ o, w'.cell? ⟨g, o, none⟩ = w.cell? ⟨g, o, none⟩ := fun o => World.cell?_of_block (hg.block g hlt (fun e => hne e.symm))
 refine ⟨g, rfl, Nat.lt_of_lt_of_le hlt hg.size, fun e => ?_, fun i hi => ?_⟩
 ·rcases he with rfl | rfl
  ·exact hne e
  ·injection e with e; omega
 ·obtain ⟨s, A1, k1, c1, A2, k2, c2, x0, x1, x2, hr, a1, a2⟩ := hc i hi
  obtain ⟨B1, d1, B2, d2, ev, h1, h2⟩ := hr
  injection ev with ev
  simp only [Array.mk.injEq, List.cons.injEq, Value.slice.injEq, Value.bool.injEq, and_true] at ev
  obtain ⟨e0, ⟨e1, e2, e3⟩, e4, e5, e6⟩ := ev
  subst e1 e3 e4 e6
  obtain ⟨p1, p2⟩ := apart_kept e2 h1 hg he a1
  obtain ⟨p3, p4⟩ := apart_kept e5 h2 hg he a2
  exact ⟨s, A1, k1, c1, A2, k2, c2, (hx _).trans x0, (hx _).trans x1, (hx _).trans x2, ⟨A1, c1, A2, c2, by rw [e0, e2, e5], p1, p3⟩, p2, p4⟩
theorem OwnR.rdX {w : World} {B n c : Nat} {A : Option Addr} {f : Nat → Rat} {cs : List Value} (h : OwnR w B (.slice A n c) n f cs) (hl : LowC B cs) {own : Option Nat} (ho : ∀ b, own = some b → b < B) : RdX w own A n f := fun h0 => by
 obtain ⟨g, s, A1, k1, c1, A2, k2, c2, rfl, hlt, _⟩ := h.at h0
 have hgB : B ≤ g := by obtain ⟨_, _, h2, _⟩ := ownsRow_block h.row (g := g) rfl; exact h2
 refine ⟨g, rfl, hlt, fun e => ?_, fun i hi => ?_⟩
 ·have := ho g e; omega
 ·obtain ⟨g', s, A1, k1, c1, A2, k2, c2, e, _, x0, x1, x2, hr⟩ := h.at hi
  injection e with e
  injection e with e _ _
  subst e
  have hlen : cs.length = n * 3 := h.row.1
  have mem : ∀ o u, o < cs.length → w.cell? ⟨g, o, none⟩ = some u → u ∈ cs := fun o u ho' hu => by
   rw [World.ownsRow.cellAt h.row o (by omega)] at hu
   exact List.mem_of_getElem? hu
  refine ⟨s, A1, k1, c1, A2, k2, c2, x0, x1, x2, hr, fun _ a ha hb => ?_, fun _ a ha hb => ?_⟩
  ·subst ha
   have := hl a k1 c1 (mem _ _ (by omega) x1)
   have := ho _ hb
   omega
  ·subst ha
   have := hl a k2 c2 (mem _ _ (by omega) x2)
   have := ho _ hb
   omega
structure OwnRR (w : World) (B : Nat) (v : Value) (n : Nat) (L : Nat → Nat) (f : Nat → Nat → Rat) (us : List Value) : Prop where
 row : w.ownsRow B 76 1 v n us
 els : ∀ i, i < n → ∃ A c, us[i]? = some (.slice A (L i) c) ∧ RdX w v.ownBlock A (L i) (f i)
theorem OwnRR.lit0 (w : World) (L : Nat → Nat) (f : Nat → Nat → Rat) : OwnRR (w.alloc (.cells #[] 76)) w.heap.size (.slice (some ⟨w.heap.size, 0, none⟩) 0 0) 0 L f [] :=
 ⟨World.ownsRow_made w #[] 0 (Nat.le_refl _) (Nat.zero_le _) (by simp), fun i hi => absurd hi (Nat.not_lt_zero i)⟩
theorem OwnRR.below {w w' : World} {B n : Nat} {v : Value} {L : Nat → Nat} {f : Nat → Nat → Rat} {us : List Value} (h : OwnRR w B v n L f us) (hb : Below w.heap.size w w') : OwnRR w' B v n L f us :=
 ⟨ownsRow_below h.row hb, fun i hi => by
  obtain ⟨A, c, e, h1⟩ := h.els i hi
  exact ⟨A, c, e, h1.below hb⟩⟩
theorem OwnRR.push {wr w1 w2 : World} {B n : Nat} {v v' : Value} {L : Nat → Nat} {f : Nat → Nat → Rat} {us : List Value} {A : Option Addr} {c : Nat} {ca : Array Value} {t : TypeId} (h : OwnRR wr B v n L f us) (h1 : Below wr.heap.size wr w1)
  (hx : RdX w1 v.ownBlock A (L n) (f n)) (hown : w2.ownsRow B 76 1 v' (n + 1) (us ++ [.slice A (L n) c])) (hg : (w1.alloc (.cells ca t)).grownBy w2 v.ownBlock) (he : v'.ownBlock = v.ownBlock ∨ v'.ownBlock = some (w1.alloc (.cells ca t)).heap.size) : OwnRR w2 B v' (n + 1) L f (us ++ [.slice A (L n) c]) := by
 have hb2 : Below w1.heap.size w1 (w1.alloc (.cells ca t)) := (Below.refl _ _).alloc (Nat.le_refl _) _
 have hlen : us.length = n := by have := h.row.1; omega
 refine ⟨hown, fun i hi => ?_⟩
 rcases Nat.lt_or_ge i n with hlt | hge
 ·obtain ⟨A', c', e, hx'⟩ := ((h.below h1).below hb2).els i hlt
  exact ⟨A', c', by rw [List.getElem?_append_left (by omega)]; exact e, hx'.kept hg he⟩
 ·obtain rfl : i = n := by omega
  exact ⟨A, c, by rw [List.getElem?_append_right (by omega), hlen, Nat.sub_self]; rfl, (hx.below hb2).kept hg he⟩
def RdRR (w : World) (A : Option Addr) (n : Nat) (L : Nat → Nat) (f : Nat → Nat → Rat) : Prop :=
 0 < n → ∃ g, A = some ⟨g, 0, none⟩ ∧ g < w.heap.size ∧ ∀ i, i < n → ∃ A' c, w.cell? ⟨g, i, none⟩ = some (.slice A' (L i) c) ∧ RdR w A' (L i) (f i)
theorem RdRR.below {w w' : World} {A : Option Addr} {n : Nat} {L : Nat → Nat} {f : Nat → Nat → Rat} (h : RdRR w A n L f) (hb : Below w.heap.size w w') : RdRR w' A n L f := fun h0 => by
 obtain ⟨g, e, hlt, hc⟩ := h h0
 refine ⟨g, e, Nat.lt_of_lt_of_le hlt hb.size, fun i hi => ?_⟩
 obtain ⟨A', c, x, hr⟩ := hc i hi
 exact ⟨A', c, (hb.cell (p := ⟨g, i, none⟩) hlt).trans x, hr.below hb⟩
theorem RdRR.at {w : World} {A : Option Addr} {n : Nat} {L : Nat → Nat} {f : Nat → Nat → Rat} (h : RdRR w A n L f) {i : Nat} (hi : i < n) : ∃ g A' c, A = some ⟨g, 0, none⟩ ∧ g < w.heap.size ∧ w.cell? ⟨g, i, none⟩ = some (.slice A' (L i) c) ∧ RdR w A' (L i) (f i) := by
 obtain ⟨g, e, hlt, hc⟩ := h (by omega)
 obtain ⟨A', c, x, hr⟩ := hc i hi
 exact ⟨g, A', c, e, hlt, x, hr⟩
theorem OwnRR.rd {w : World} {B n c : Nat} {A : Option Addr} {L : Nat → Nat} {f : Nat → Nat → Rat} {us : List Value} (h : OwnRR w B (.slice A n c) n L f us) : RdRR w A n L f := fun h0 => by
 obtain ⟨A', c', e, hf⟩ := ownsRow_form h.row
 injection e with e1 e2 e3
 subst e1 e3
 obtain ⟨g, rfl, _, hlt⟩ := hf h0
 refine ⟨g, rfl, hlt, fun i hi => ?_⟩
 obtain ⟨A2, c2, e, hx⟩ := h.els i hi
 have hlen : us.length = n := by have := h.row.1; omega
 exact ⟨A2, c2, by rw [World.ownsRow.cellAt h.row i (by omega)]; exact e, hx.rd⟩
theorem infoRR : (Tryz.prog.info? 76).map (fun i => (i.zero, i.size, i.bytes)) = some (some (.slice none 0 0), 1, 24) := by kernel_rfl
def RrRel (n : Nat) (L : Nat → Nat) (fs : Nat → List Int) (w : World) (iv ov : Value) (wr : World) : Prop :=
 ∃ (i : Nat) (us : List Value), iv = .int .i64 (i : Int) ∧ i ≤ n ∧ Hid (OwnRR wr (w.heap.size + 1) ov i L (fun j => fq (fs j)) us) ∧ Hid (Below w.heap.size w wr)
theorem RrRel.next {n i : Nat} {L : Nat → Nat} {fs : Nat → List Int} {w wr w1 w2 : World} {v v' : Value} {us cs : List Value} {A : Option Addr} {c : Nat} {ca : Array Value} {t : TypeId} (hi : i < n) (h : OwnRR wr (w.heap.size + 1) v i L (fun j => fq (fs j)) us) (hb : Below w.heap.size w wr) (h1 : Below wr.heap.size wr w1)
  (ho : OwnR w1 wr.heap.size (.slice A (L i) c) (L i) (fq (fs i)) cs) (hl : LowC wr.heap.size cs) (hown : w2.ownsRow (w.heap.size + 1) 76 1 v' (i + 1) (us ++ [.slice A (L i) c])) (hg : (w1.alloc (.cells ca t)).grownBy w2 v.ownBlock) (he : v'.ownBlock = v.ownBlock ∨ v'.ownBlock = some (w1.alloc (.cells ca t)).heap.size) : RrRel n L fs w (.int .i64 ((i : Int) + 1)) v' w2 := by
 have hb1 : Below wr.heap.size wr (w1.alloc (.cells ca t)) := h1.alloc h1.size _
 refine ⟨i + 1, _, by simp, hi, Lib.hid (h.push h1 (ho.rdX hl fun b e => ?_) hown hg he), Lib.hid ?_⟩
 ·obtain ⟨_, _, _, hlt⟩ := ownsRow_block h.row e; exact hlt
 ·exact (hb.trans (hb1.mono hb.size)).trans (grown_below hg (fun g e => by have := (ownsRow_block h.row e).choose_spec.2.1; omega) (Nat.le_trans hb.size hb1.size))
def RrRet (n : Nat) (L : Nat → Nat) (f : Nat → Nat → Rat) (w : World) (e : Ending) (w' : World) : Prop := ∃ A c, e = .returned (.slice A n c) ∧ RdRR w' A n L f ∧ Below w.heap.size w w'
set_option maxHeartbeats 2000000 in
set_option maxRecDepth 100000 in
theorem rowsI_any {A : Option Addr} {c B n : Nat} {L : Nat → Nat} {fs : Nat → List Int} (w : World) (hx : RdFF w B A n L fs) (hB : B ≤ w.heap.size) (hv : ∀ i, i < n → AllVF (fs i) (L i)) (hL : ∀ i, i < n → L i ≤ 1000) (hn : n ≤ 1000) : Calls Tryz.prog 39 #[.agg #[.slice A n c]] w (RrRet n L (fun j => fq (fs j)) w) := by
 obtain ⟨ir, ri, rz0, rz1, rz2⟩ := info_parts infoRR
 have hb0 : Below w.heap.size w (w.alloc (.cells #[.slice A n c] 32)) := (Below.refl _ _).alloc (Nat.le_refl _) _
 have HX := Lib.hid (hx.more hB)
 have HV := Lib.hid (And.intro hv hL)
 have H0 : Hid (RrRel n L fs w (.int .i64 0) (.slice (some ⟨w.heap.size + 1, 0, none⟩) 0 0) ((w.alloc (.cells #[.slice A n c] 32)).alloc (.cells #[] 76))) := Lib.hid (by
  have h := OwnRR.lit0 (w.alloc (.cells #[.slice A n c] 32)) L (fun j => fq (fs j))
  rw [World.size_alloc] at h
  exact ⟨0, [], rfl, Nat.zero_le _, Lib.hid h, Lib.hid (hb0.alloc (by simp) _)⟩)
 clear hx hv hL hb0
 go_enter Tryz.func39, Tryz.ntmps39
 go_wp2
 go_loopw [10, 3] (fun iv ov wr => RrRel n L fs w iv ov wr) (fun iv _ _ => n - (intOf iv).toNat)
 case atStart => exact H0.out
 case round =>
  obtain ⟨i, us, rfl, hi, HO, HB⟩ := hrel
  clear H0
  by_cases hlt : i < n
  ·obtain ⟨b, off, A', c', rfl, hbl, g1, hr⟩ := (HX.out.below HB.out (Nat.le_refl _)).at hlt
   have HC := Lib.hid (ratiosL_any (c := c') wr hr HB.out.size (HV.out.1 i hlt) (HV.out.2 i hlt))
   have HNX := Lib.hid (fun (w1 w2 : World) v' cs A c ca t h1 ho hl hown hg he => RrRel.next (w1 := w1) (w2 := w2) (v' := v') (cs := cs) (A := A) (c := c) (ca := ca) (t := t) hlt HO.out HB.out h1 ho hl hown hg he)
   have hsz := HB.out.size
   clear hr
   generalize L i = l at *
   generalize fq (fs i) = ff at *
   go_wp2_with fail
   refine HC.out.mono ?_
   rintro e w1 ⟨v, cs, rfl, ho, hlc, hb1⟩
   obtain ⟨A2, c2, rfl, _⟩ := ho.form
   have hs1 := hb1.size
   have HN := Lib.hid (fun w2 v' ca t hown hg he => HNX.out w1 w2 v' cs A2 c2 ca t hb1 ho hlc hown hg he)
   have HOA := Lib.hid (World.ownsRow.alloc (ownsRow_below HO.out.row hb1) (.cells #[.slice A2 l c2] 76))
   clear ho hlc hb1 HO HB HNX HC g1
   go_wp2_with (at_builtin; refine wpList_append_own_at _ rfl (.tmp 14) (.tmp 17) 74 rfl (w.heap.size + 1) 76 ir (.slice none 0 0) 1 24 Tryz.underlying74 ri rz0 rz1 rz2 rfl (by decide) _ _ _ rfl HOA.out ⟨w1.heap.size, 0, none⟩ 1 1 [.slice A2 l c2] rfl rfl ?p1a ?p2a ?p3a ?p4a ?p5a ?_)
   try case p1a => exact news_one _ _ _ (by simp)
   try case p2a => first | exact one_slice | (intro u hu; simp at hu; subst hu; rfl)
   try case p3a => first | (simp only [maxLen]; omega) | omega
   try case p4a => omega
   try case p5a => first | (simp only [World.size_alloc]; omega) | omega
   intro v' w2 hown' hg' _ he
   have HN3 := Lib.hid (HN.out w2 v' _ _ hown' hg' (by rw [World.size_alloc]; exact he))
   clear hown' hg' he HN HOA
   go_wp2
   go_roundw
   case rel => exact HN3.out
   case measure => simp [intOf]; omega
  ·obtain rfl : i = n := by omega
   obtain ⟨A', c', rfl, _⟩ := ownsRow_form HO.out.row
   have HR : Hid (RrRet i L (fun j => fq (fs j)) w (.returned (.slice A' i c')) wr) := Lib.hid ⟨A', c', rfl, HO.out.rd, HB.out⟩
   clear HO HB
   go_wp2
   go_ret
   exact HR.out
end Go.Proofs.YthagenodiofgnaaGreat.Ratio
namespace Go.Proofs.YthagenodiofgnaaGreat.Ratio
open Go.RowKit Go.Proofs.YthagenodiofgnaaGreat Go.Proofs.YthagenodiofgnaaGreat.Base Go.Proofs.YthagenodiofgnaaGreat.Mem Go.Proofs.YthagenodiofgnaaGreat.NatM Go.Proofs.YthagenodiofgnaaGreat.Nat32 Go.Proofs.YthagenodiofgnaaGreat.RatM Go.Proofs.YthagenodiofgnaaGreat.Blk
open Go.Proofs.YthagenodiofgnaaGreat.Inv (natOf natOf_eq len_pos Rat3 not_slice not_bool frz)
set_option linter.unusedVariables false
def notU (u : Value) : Prop := ∀ x : Int, u ≠ .int .u32 x
def NoU (w : World) (v : Value) : Prop := ∀ g, v.ownBlock = some g → g < w.heap.size ∧ ∀ o u, w.cell? ⟨g, o, none⟩ = some u → notU u
theorem NoU.nil (w : World) : NoU w (.slice none 0 0) := fun g h => by cases h
theorem NoU.apart {w : World} {v : Value} {A : Option Addr} {xs : List Nat} {B : Nat} (h : NoU w v) (hr : RdU w B A xs) (h0 : 0 < xs.length) : Apart v.ownBlock A := by
 intro a ha hb
 obtain ⟨b, off, e, _, hc⟩ := hr h0
 have hx := hc 0 h0
 rw [ha] at e
 injection e with e
 subst e
 exact (h b hb).2 _ _ hx _ rfl
theorem NoU.below {w w' : World} {v : Value} (h : NoU w v) (hb : Below w.heap.size w w') : NoU w' v := fun g e => by
 obtain ⟨h1, h2⟩ := h g e
 exact ⟨Nat.lt_of_lt_of_le h1 hb.size, fun o u hu => h2 o u ((hb.cell (p := ⟨g, o, none⟩) h1).symm.trans hu)⟩
theorem NoU.of_block {w : World} {g n c : Nat} {t : TypeId} {cs : Array Value} (K : Blk w g t cs) (h : ∀ u ∈ cs.toList, notU u) : NoU w (.slice (some ⟨g, 0, none⟩) n c) := fun g' e => by
 injection e with e
 subst e
 exact ⟨K.lt, fun o u hu => by
  rw [K.cell o] at hu
  exact h u (Array.mem_toList_iff.2 (Array.mem_of_getElem? hu))⟩
theorem NoU.lit0 (w : World) (t : TypeId) : NoU (w.alloc (.cells #[] t)) (.slice (some ⟨w.heap.size, 0, none⟩) 0 0) := NoU.of_block (Blk.new w t #[]) (fun u h => by cases h)
theorem append_noU {P : Program} (w : World) (base : Nat) (t ty e : TypeId) (i : TypeInfo) (z : Value) (size bytes : Nat) (ht : P.underlying t = some (.slice e)) (hi : P.info? e = some i) (hz : i.zero = some z)
  (hsize : i.size = size) (hby : i.bytes = bytes) (hzs : z.cells.size = size) (hsz : 0 < size)
  (v : Value) (n : Nat) (xs : List Value) (hown : w.ownsRow base e size v n xs) (a : Addr) (m c : Nat) (news : List Value) (hl : news.length = m * size) (hnews : ∀ j u, news[j]? = some u → w.cell? (a.add j) = some u) (h1 : ∀ u ∈ news, u.oneCell' = true)
  (h63 : n + m ≤ maxLen) (hbytes : (n + m) * bytes ≤ 140737488355328) (hp : NoU w v) (hn : ∀ u ∈ news, notU u) (hzz : ∀ u ∈ z.cells.toList, notU u)
  {v' : Value} {w' : World} (hr : (Builtin.append_ #[t, t] ty #[v, .slice (some a) m c]).run P w = .ok v' w') : NoU w' v' := by
 subst hsize
 subst hby
 have hsmall : n + m ≤ 9223372036854775807 := by simp only [maxLen] at h63; omega
 have hzc : ∀ k, ∀ u ∈ (Builtin.zeroCells z.cells k).toList, notU u := fun k u hu => by
  simp only [Builtin.zeroCells] at hu
  simp at hu
  obtain ⟨j, hj, hu⟩ := hu
  have hs : 0 < z.cells.size := by rw [hzs]; exact hsz
  have hlt := Nat.mod_lt j hs
  rw [getElem!_pos z.cells _ hlt] at hu
  subst hu
  exact hzz _ (by simp)
 have fresh : ∀ (ws : List Value) (k n' c' : Nat), (∀ u ∈ ws, notU u) → NoU (w.drew.alloc (.cells (ws.toArray ++ Builtin.zeroCells z.cells k) e)) (.slice (some ⟨w.heap.size, 0, none⟩) n' c') := fun ws k n' c' hw => by
  refine NoU.of_block (Blk.new w.drew e _) (fun u hu => ?_)
  simp only [Array.toList_append, List.mem_append] at hu
  rcases hu with hu | hu
  ·exact hw u hu
  ·exact hzc k u hu
 rcases hown.2 with ⟨rfl, rfl⟩ | ⟨g, cap, cur, rfl, hbg, hg, hnc, hcm, hcs, htake⟩
 ·by_cases hm : m = 0
  ·subst hm
   have hn0 : news = [] := List.eq_nil_of_length_eq_zero (by simpa using hl)
   subst hn0
   have hr' : (Builtin.append_ #[t, t] ty #[.slice none 0 0, .slice (some a) 0 c]).run P w = .ok (.slice none 0 0) w := by
    simp [Builtin.append_, run_underlying ht, sizeOf, typeInfo, hi, Builtin.lenOf, Builtin.firstCells, loadCells, loadCellsFrom]
   rw [hr'] at hr
   injection hr with e1 e2
   subst e1 e2
   exact NoU.nil w
  ·have hr' := run_append_nil (P := P) w t ty e i z ht hi hz a m c news hl hnews (by omega) (by omega) (by have hb := hbytes; simp only [Nat.zero_add] at hb; omega)
   rw [hr'] at hr
   injection hr with e1 e2
   subst e1 e2
   exact fresh news _ _ _ hn
 ·have hcur : ∀ u ∈ cur.toList, notU u := fun u hu => by
   obtain ⟨j, hj⟩ := List.getElem?_of_mem hu
   exact (hp g rfl).2 j u ((cell_of_row w g j cur e (0, 0) hg).trans (by rw [← hj]; simp))
  by_cases hroom : n + m ≤ cap
  ·have hfit : n * i.size + news.length ≤ cur.size := by rw [hl, hcs, ← Nat.add_mul]; exact Nat.mul_le_mul_right _ hroom
   have hr' := run_append_room (P := P) w t ty e i ht hi g n cap cur hg a m c news hl hnews h1 hroom hfit
   rw [hr'] at hr
   injection hr with e1 e2
   subst e1 e2
   refine NoU.of_block (setRow_heap w g cur _ e _ hg) (fun u hu => ?_)
   simp only [List.mem_append] at hu
   rcases hu with (hu | hu) | hu
   ·exact hcur u (List.mem_of_mem_take hu)
   ·exact hn u hu
   ·exact hcur u (List.mem_of_mem_drop hu)
  ·have holds : ∀ j u, xs[j]? = some u → w.cell? ((⟨g, 0, none⟩ : Addr).add j) = some u := hown.cells (g := g) rfl
   have hr' := run_append_grow (P := P) w t ty e i z ht hi hz ⟨g, 0, none⟩ n cap xs hown.1 holds a m c news hl hnews (by omega) (by omega) (growslice_fits (by omega) hbytes)
   rw [hr'] at hr
   injection hr with e1 e2
   subst e1 e2
   have := fresh (xs ++ news) (grownCap w (n + m) cap e - (n + m)) (n + m) (grownCap w (n + m) cap e) (fun u hu => by
    rcases List.mem_append.1 hu with hu | hu
    ·exact hcur u (by rw [← htake] at hu; exact List.mem_of_mem_take hu)
    ·exact hn u hu)
   simpa using this
theorem wpList_append_noU {P : Program} (w : World) {ops : Array Oper} {rest : List Oper} {o : Oper} {a : Act} {Q : Exit → Act → World → Prop} (hgd : o.guard = none) (s x : Operand) (t : TypeId)
  (ho : o.op = .call { callee := .builtin .append, args := #[s, x], argTypes := #[t, t] })
  (base : Nat) (e : TypeId) (i : TypeInfo) (z : Value) (size bytes : Nat) (ht : P.underlying t = some (.slice e)) (hi : P.info? e = some i) (hz : i.zero = some z)
  (hsize : i.size = size) (hby : i.bytes = bytes) (hzs : z.cells.size = size) (hsz : 0 < size)
  (v : Value) (n : Nat) (xs : List Value) (hs : a.eval s = v) (hown : w.ownsRow base e size v n xs)
  (ad : Addr) (m c : Nat) (news : List Value) (hx : a.eval x = .slice (some ad) m c) (hl : news.length = m * size) (hnews : ∀ j u, news[j]? = some u → w.cell? (ad.add j) = some u) (h1 : ∀ u ∈ news, u.oneCell' = true)
  (h63 : n + m ≤ maxLen) (hbytes : (n + m) * bytes ≤ 140737488355328) (hbase : base ≤ w.heap.size) (hp : NoU w v) (hn : ∀ u ∈ news, notU u) (hzz : ∀ u ∈ z.cells.toList, notU u)
  (h : ∀ v' w', w'.ownsRow base e size v' (n + m) (xs ++ news) → w.grownBy w' v.ownBlock → NoU w' v' → (v'.ownBlock = v.ownBlock ∨ v'.ownBlock = some w.heap.size) → wpList P ops Q rest (a.put o.dst v') w') :
  wpList P ops Q (o :: rest) a w := by
 refine wpList_plain hgd fun K hK => ?_
 obtain ⟨v', w', hr, h2, h3, h4, h5⟩ := run_append_own_at (P := P) w base t o.type e i z size bytes ht hi hz hsize hby hzs hsz v n xs hown ad m c news hl hnews h1 h63 hbytes hbase
 have h6 := append_noU w base t o.type e i z size bytes ht hi hz hsize hby hzs hsz v n xs hown ad m c news hl hnews h1 h63 hbytes hp hn hzz hr
 unfold Oper.wp execOp
 simp only [ho, resolve, invoke, builtin, Sem.run_bind, Sem.run_pure, Result.andThen_ok, List.map_toArray, List.map_cons, List.map_nil, hs, hx, hr]
 exact hK _ _ (h v' w' h2 h3 h6 h5)
theorem notU_three {s : Bool} {A1 A2 : Option Addr} {k1 c1 k2 c2 : Nat} : ∀ u ∈ [Value.bool s, .slice A1 k1 c1, .slice A2 k2 c2], notU u := by
 intro u hu
 simp only [List.mem_cons, List.not_mem_nil, or_false] at hu
 rcases hu with rfl | rfl | rfl <;> exact fun x h => by cases h
theorem notU_one {A : Option Addr} {k c : Nat} : ∀ u ∈ [Value.slice A k c], notU u := by
 intro u hu
 simp only [List.mem_cons, List.not_mem_nil, or_false] at hu
 subst hu
 exact fun x h => by cases h
theorem notU_zero3 : ∀ u ∈ (Value.agg #[.bool false, .slice none 0 0, .slice none 0 0]).cells.toList, notU u := notU_three
theorem notU_zero1 : ∀ u ∈ (Value.slice none 0 0).cells.toList, notU u := notU_one
end Go.Proofs.YthagenodiofgnaaGreat.Ratio
set_option linter.unusedVariables false
namespace Go.Proofs.YthagenodiofgnaaGreat.RatM
def Dg (P : Nat) (q : Rat) : Prop := q.num.natAbs < P ∧ q.den < P
theorem Dg.of {s : Bool} {n d P : Nat} (hd : d ≠ 0) (h1 : n < P) (h2 : d < P) : Dg P (qv s n d) := by
 obtain ⟨e1, e2⟩ := qv_num s (n := n) hd
 unfold Dg
 rw [e1, e2]
 exact ⟨Nat.lt_of_le_of_lt (Nat.div_le_self _ _) h1, Nat.lt_of_le_of_lt (Nat.div_le_self _ _) h2⟩
theorem Dg.more {P Q : Nat} {q : Rat} (h : Dg P q) (hPQ : P ≤ Q) : Dg Q q := ⟨Nat.lt_of_lt_of_le h.1 hPQ, Nat.lt_of_lt_of_le h.2 hPQ⟩
theorem Dg.neg {P : Nat} {q : Rat} (h : Dg P q) : Dg P (-q) := by
 unfold Dg at h ⊢
 rw [Rat.neg_num, Int.natAbs_neg, Rat.neg_den]; exact h
theorem Dg.pos {P : Nat} {q : Rat} (h : Dg P q) : 0 < P := by have := h.2; omega
theorem lt_mul {a b P Q : Nat} (h1 : a < P) (h2 : b < Q) : a * b < P * Q := by
 rcases Nat.eq_zero_or_pos b with rfl | hb
 ·rw [Nat.mul_zero]; exact Nat.mul_pos (by omega) h2
 ·exact Nat.lt_of_lt_of_le ((Nat.mul_lt_mul_right hb).2 h1) (Nat.mul_le_mul_left P (by omega))
theorem Dg.mul {P Q : Nat} {q r : Rat} (h : Dg P q) (g : Dg Q r) : Dg (P * Q) (q * r) := by
 rw [← qv_self q, ← qv_self r, ← qv_mul _ _ q.den_nz r.den_nz]
 exact Dg.of (Nat.mul_ne_zero q.den_nz r.den_nz) (lt_mul h.1 g.1) (lt_mul h.2 g.2)
theorem Dg.add {P Q : Nat} {q r : Rat} (h : Dg P q) (g : Dg Q r) : Dg (2 * (P * Q)) (q + r) := by
 have e := qv_add (s := decide (q < 0)) (s' := decide (r < 0)) (n := q.num.natAbs) (n' := r.num.natAbs) q.den_nz r.den_nz
 rw [qv_self, qv_self] at e
 have k1 := lt_mul h.1 g.2
 have k2 := lt_mul g.1 h.2
 have k3 := lt_mul h.2 g.2
 rw [Nat.mul_comm Q P] at k2
 have hd := Nat.mul_ne_zero q.den_nz r.den_nz
 rw [e]
 split
 ·exact Dg.of hd (by omega) (by omega)
 ·split
  ·exact Dg.of hd (by omega) (by omega)
  ·exact Dg.of hd (by omega) (by omega)
theorem Dg.sub {P Q : Nat} {q r : Rat} (h : Dg P q) (g : Dg Q r) : Dg (2 * (P * Q)) (q - r) := by
 rw [Rat.sub_eq_add_neg]; exact h.add g.neg
theorem Dg.inv {P : Nat} {q : Rat} (h : Dg P q) (hq : q ≠ 0) : Dg P q⁻¹ := by
 have hn : q.num.natAbs ≠ 0 := fun e => hq ((zero_iff q).2 e)
 rw [← qv_self q, ← qv_inv _ hn q.den_nz]
 exact Dg.of hn h.2 h.1
theorem Dg.zero {P : Nat} (h : 1 < P) : Dg P 0 := ⟨by show 0 < P; omega, h⟩
theorem Dg.abs {P : Nat} {q : Rat} (h : Dg P q) : Dg P (if q < 0 then -q else q) := by
 split
 ·exact h.neg
 ·exact h
end Go.Proofs.YthagenodiofgnaaGreat.RatM
namespace Go.Proofs.YthagenodiofgnaaGreat.Ratio
open Go.RowKit Go.Proofs.YthagenodiofgnaaGreat Go.Proofs.YthagenodiofgnaaGreat.Base Go.Proofs.YthagenodiofgnaaGreat.Mem Go.Proofs.YthagenodiofgnaaGreat.NatM Go.Proofs.YthagenodiofgnaaGreat.Nat32 Go.Proofs.YthagenodiofgnaaGreat.RatM Go.Proofs.YthagenodiofgnaaGreat.GaussM Go.Proofs.YthagenodiofgnaaGreat.ChM
set_option linter.unusedVariables false
theorem B32_pos : 0 < B32 := by decide
theorem dgb_more {m k : Nat} {q : Rat} (h : Dg (B32 ^ m) q) (hk : m ≤ k) : Dg (B32 ^ k) q := h.more (Nat.pow_le_pow_right B32_pos hk)
theorem dgb_mul {m k : Nat} {q r : Rat} (h : Dg (B32 ^ m) q) (g : Dg (B32 ^ k) r) : Dg (B32 ^ (m + k)) (q * r) := by
 rw [Nat.pow_add]; exact h.mul g
theorem two_le (m k : Nat) : 2 * (B32 ^ m * B32 ^ k) ≤ B32 ^ (m + k + 1) := by
 rw [Nat.pow_succ, Nat.pow_add, Nat.mul_comm 2]
 exact Nat.mul_le_mul_left _ (by decide)
theorem dgb_add {m k : Nat} {q r : Rat} (h : Dg (B32 ^ m) q) (g : Dg (B32 ^ k) r) : Dg (B32 ^ (m + k + 1)) (q + r) := (h.add g).more (two_le m k)
theorem dgb_sub {m k : Nat} {q r : Rat} (h : Dg (B32 ^ m) q) (g : Dg (B32 ^ k) r) : Dg (B32 ^ (m + k + 1)) (q - r) := (h.sub g).more (two_le m k)
theorem dgb_zero {m : Nat} (h : 0 < m) : Dg (B32 ^ m) 0 := Dg.zero (Nat.one_lt_pow (by omega) (by decide))
theorem dgb_vf {n d : Int} (h : VF n d) : Dg (B32 ^ 2) (qf n d) := by
 obtain ⟨g1, g2, _⟩ := h.num
 have h2 := h.2.1
 have h3 := h.2.2.1
 have h4 := h.2.2.2.1
 have e : B32 ^ 2 = 18446744073709551616 := by decide
 rw [e]
 exact ⟨by rw [g1]; omega, by omega⟩
theorem dgb_sz {m : Nat} {q : Rat} (h : Dg (B32 ^ m) q) : szR q ≤ 2 * m := by
 have h1 := natL_len_le h.1
 have h2 := natL_len_le h.2
 unfold szR
 omega
theorem dgb_sum {n m : Nat} {f : Nat → Rat} (h : ∀ i, i < n → Dg (B32 ^ m) (f i)) : Dg (B32 ^ (n * (m + 1) + 1)) (sumR n f) := by
 induction n with
 | zero => exact dgb_zero (by omega)
 | succ n ih =>
  have h1 := ih (fun i hi => h i (by omega))
  have h2 := dgb_add h1 (h n (by omega))
  rw [sumR]
  exact dgb_more h2 (by rw [Nat.add_mul]; omega)
end Go.Proofs.YthagenodiofgnaaGreat.Ratio
namespace Go.Proofs.YthagenodiofgnaaGreat.Ratio
open Go.RowKit Go.Proofs.YthagenodiofgnaaGreat Go.Proofs.YthagenodiofgnaaGreat.Base Go.Proofs.YthagenodiofgnaaGreat.Mem Go.Proofs.YthagenodiofgnaaGreat.NatM Go.Proofs.YthagenodiofgnaaGreat.Nat32 Go.Proofs.YthagenodiofgnaaGreat.RatM Go.Proofs.YthagenodiofgnaaGreat.GaussM Go.Proofs.YthagenodiofgnaaGreat.ChM
set_option linter.unusedVariables false
noncomputable def solB (M : Nat → Nat → Rat) (R n : Nat) : Bool := @decide (∃ x, Only M R n x) (Classical.propDecidable _)
noncomputable def solX (M : Nat → Nat → Rat) (R n : Nat) : Nat → Rat := @dite _ (∃ x, Only M R n x) (Classical.propDecidable _) (fun h => Classical.choose h) (fun _ _ => 0)
theorem sol_yes {M : Nat → Nat → Rat} {R n : Nat} {x : Nat → Rat} (h : Only M R n x) : solB M R n = true ∧ ∀ j, j < n → solX M R n j = x j := by
 have hx : ∃ x, Only M R n x := ⟨x, h⟩
 refine ⟨by unfold solB; exact @decide_eq_true _ (Classical.propDecidable _) hx, fun j hj => ?_⟩
 unfold solX
 rw [dif_pos hx]
 exact Only.same (Classical.choose_spec hx) h j hj
theorem sol_no {M : Nat → Nat → Rat} {R n : Nat} (h : ∀ x, ¬ Only M R n x) : solB M R n = false := by
 unfold solB
 exact @decide_eq_false _ (Classical.propDecidable _) (fun ⟨x, hx⟩ => h x hx)
theorem sol_only {M : Nat → Nat → Rat} {R n : Nat} (h : solB M R n = true) : Only M R n (solX M R n) := by
 unfold solB at h
 have hx := @of_decide_eq_true _ (Classical.propDecidable _) h
 unfold solX
 rw [dif_pos hx]
 exact Classical.choose_spec hx
theorem sol_congr {M M' : Nat → Nat → Rat} {R R' n : Nat} (h : ∀ y, Sol M R n y ↔ Sol M' R' n y) : solB M R n = solB M' R' n ∧ ∀ j, j < n → solX M R n j = solX M' R' n j := by
 by_cases hx : ∃ x, Only M R n x
 ·obtain ⟨x, hx⟩ := hx
  obtain ⟨a1, a2⟩ := sol_yes hx
  obtain ⟨b1, b2⟩ := sol_yes ((Only.iff h).1 hx)
  exact ⟨a1.trans b1.symm, fun j hj => (a2 j hj).trans (b2 j hj).symm⟩
 ·have hn : ∀ x, ¬ Only M R n x := fun x h => hx ⟨x, h⟩
  have hn' : ∀ x, ¬ Only M' R' n x := fun x h' => hx ⟨x, (Only.iff h).2 h'⟩
  refine ⟨(sol_no hn).trans (sol_no hn').symm, fun j hj => ?_⟩
  unfold solX
  rw [dif_neg hx, dif_neg (fun ⟨x, h'⟩ => hn' x h')]
def scP (S : Nat → Nat → Rat) (k lo c' : Nat) (t : Rat) : Nat → Nat → Rat := fun r c => if r = k ∧ lo ≤ c ∧ c < c' then S r c * t else S r c
theorem sc_start (S : Nat → Nat → Rat) (k lo : Nat) (t : Rat) (r c : Nat) : scP S k lo lo t r c = S r c := by
 unfold scP
 rw [if_neg (by omega)]
theorem sc_at (S : Nat → Nat → Rat) (k lo c' : Nat) (t : Rat) (r : Nat) : scP S k lo c' t r c' = S r c' := by
 unfold scP
 rw [if_neg (by omega)]
theorem sc_step (S : Nat → Nat → Rat) {k lo c' : Nat} (t : Rat) (h : lo ≤ c') (r c : Nat) : (if r = k ∧ c = c' then S k c' * t else scP S k lo c' t r c) = scP S k lo (c' + 1) t r c := by
 unfold scP
 by_cases e : r = k ∧ c = c'
 ·obtain ⟨rfl, rfl⟩ := e
  rw [if_pos ⟨rfl, rfl⟩, if_pos ⟨rfl, h, by omega⟩]
 ·rw [if_neg e]
  by_cases g : r = k ∧ lo ≤ c ∧ c < c'
  ·rw [if_pos g, if_pos ⟨g.1, g.2.1, by omega⟩]
  ·rw [if_neg g, if_neg (by omega)]
theorem sc_end {S : Nat → Nat → Rat} {k lo n : Nat} {t : Rat} (h0 : ∀ c, c < lo → S k c = 0) {r c : Nat} (hc : c < n) : scP S k lo n t r c = scaleM S k t r c := by
 unfold scP scaleM
 by_cases e : r = k
 ·subst e
  rw [if_pos rfl]
  by_cases g : lo ≤ c
  ·rw [if_pos ⟨rfl, g, hc⟩]
  ·rw [if_neg (by omega), h0 c (by omega)]; grind
 ·rw [if_neg (by omega), if_neg e]
def clP (T : Nat → Nat → Rat) (k lo r0 c' : Nat) : Nat → Nat → Rat := fun r c => if r ≠ k ∧ lo ≤ c ∧ (r < r0 ∨ r = r0 ∧ c < c') then T r c - T r k * T k c else T r c
theorem cl_start (T : Nat → Nat → Rat) (k lo r c : Nat) : clP T k lo 0 lo r c = T r c := by
 unfold clP
 rw [if_neg (by omega)]
theorem cl_row (T : Nat → Nat → Rat) (k lo r0 c' c : Nat) : clP T k lo r0 c' k c = T k c := by
 unfold clP
 rw [if_neg (by omega)]
theorem cl_at (T : Nat → Nat → Rat) (k lo r0 c' : Nat) {c : Nat} (h : c' ≤ c) : clP T k lo r0 c' r0 c = T r0 c := by
 unfold clP
 rw [if_neg (by omega)]
theorem cl_step (T : Nat → Nat → Rat) {k lo r0 c' : Nat} (hk : r0 ≠ k) (h : lo ≤ c') (r c : Nat) : (if r = r0 ∧ c = c' then T r0 c' - T r0 k * T k c' else clP T k lo r0 c' r c) = clP T k lo r0 (c' + 1) r c := by
 unfold clP
 by_cases e : r = r0 ∧ c = c'
 ·obtain ⟨rfl, rfl⟩ := e
  rw [if_pos ⟨rfl, rfl⟩, if_pos ⟨hk, h, by omega⟩]
 ·rw [if_neg e]
  by_cases g : r ≠ k ∧ lo ≤ c ∧ (r < r0 ∨ r = r0 ∧ c < c')
  ·rw [if_pos g, if_pos (by omega)]
  ·rw [if_neg g, if_neg (by omega)]
theorem cl_next (T : Nat → Nat → Rat) {k lo r0 n : Nat} {r c : Nat} (hc : c < n) : clP T k lo r0 n r c = clP T k lo (r0 + 1) lo r c := by
 unfold clP
 by_cases g : r ≠ k ∧ lo ≤ c ∧ (r < r0 ∨ r = r0 ∧ c < n)
 ·rw [if_pos g, if_pos (by omega)]
 ·rw [if_neg g, if_neg (by omega)]
theorem cl_skip (T : Nat → Nat → Rat) {k lo r0 : Nat} (h : r0 = k ∨ T r0 k = 0) (r c : Nat) : clP T k lo r0 lo r c = clP T k lo (r0 + 1) lo r c := by
 unfold clP
 by_cases g : r ≠ k ∧ lo ≤ c ∧ (r < r0 ∨ r = r0 ∧ c < lo)
 ·rw [if_pos g, if_pos (by omega)]
 ·rw [if_neg g]
  by_cases g' : r ≠ k ∧ lo ≤ c ∧ (r < r0 + 1 ∨ r = r0 + 1 ∧ c < lo)
  ·rw [if_pos g']
   obtain rfl : r = r0 := by omega
   rcases h with h | h
   ·exact absurd h g'.1
   ·rw [h]; grind
  ·rw [if_neg g']
theorem cl_end {T : Nat → Nat → Rat} {k lo R : Nat} (h0 : ∀ c, c < lo → T k c = 0) {r c : Nat} (hr : r < R) : clP T k lo R lo r c = clearM T k r c := by
 unfold clP clearM
 by_cases e : r = k
 ·subst e
  rw [if_neg (by omega), if_pos rfl]
 ·rw [if_neg e]
  by_cases g : lo ≤ c
  ·rw [if_pos ⟨e, g, .inl hr⟩]
  ·rw [if_neg (by omega), h0 c (by omega)]; grind
structure Stg (M0 M : Nat → Nat → Rat) (R n k : Nat) (P : Nat) : Prop where
 sol : ∀ y, Sol M R n y ↔ Sol M0 R n y
 unit : Unit M R k
 dg : ∀ r c, r < R → c ≤ n → Dg P (M r c)
theorem Stg.start {M0 : Nat → Nat → Rat} {R n P : Nat} (h : ∀ r c, r < R → c ≤ n → Dg P (M0 r c)) : Stg M0 M0 R n 0 P := ⟨fun _ => Iff.rfl, fun j hj => absurd hj (Nat.not_lt_zero j), h⟩
theorem swap_dg {M : Nat → Nat → Rat} {R n i k P : Nat} (hi : i < R) (hk : k < R) (h : ∀ r c, r < R → c ≤ n → Dg P (M r c)) (r c : Nat) (hr : r < R) (hc : c ≤ n) : Dg P (swapM M i k r c) := by
 unfold swapM
 split
 ·exact h i c hi hc
 ·split
  ·exact h k c hk hc
  ·exact h r c hr hc
theorem Stg.next {M0 M : Nat → Nat → Rat} {R n i k P : Nat} (h : Stg M0 M R n k P) (hki : k ≤ i) (hi : i < R) (hk : k < R) (hkn : k ≤ n) (hne : M i k ≠ 0) : Stg M0 (stageM M i k) R n (k + 1) (2 * (P * (P * (P * P)))) := by
 refine ⟨fun y => (stage_sol hi hk hne).trans (h.sol y), stage_unit h.unit hki hi hk hne, fun r c hr hc => ?_⟩
 have h1 := swap_dg hi hk h.dg
 have hP := (h.dg k k hk hkn).pos
 have hs : ∀ c, c ≤ n → Dg (P * P) (scaleM (swapM M i k) k (M i k)⁻¹ k c) := fun c hc => by
  unfold scaleM
  rw [if_pos rfl]
  exact (h1 k c hk hc).mul ((h.dg i k hi hkn).inv hne)
 have ho : ∀ r c, r < R → c ≤ n → r ≠ k → Dg P (scaleM (swapM M i k) k (M i k)⁻¹ r c) := fun r c hr hc e => by
  unfold scaleM
  rw [if_neg e]
  exact h1 r c hr hc
 unfold stageM clearM
 split
 ·refine (hs c hc).more ?_
  have h2 : P * P * 1 ≤ P * P * (2 * (P * P)) := Nat.mul_le_mul_left _ (by have := Nat.mul_le_mul hP hP; omega)
  have h3 : P * P * (2 * (P * P)) = 2 * (P * (P * (P * P))) := by simp [Nat.mul_assoc, Nat.mul_left_comm]
  omega
 ·rename_i e
  exact (ho r c hr hc e).sub ((ho r k hr hkn e).mul (hs c hc))
end Go.Proofs.YthagenodiofgnaaGreat.Ratio
namespace Go.Proofs.YthagenodiofgnaaGreat.Rel
open Go.RowKit Go.Proofs.YthagenodiofgnaaGreat Go.Proofs.YthagenodiofgnaaGreat.Base
set_option linter.unusedVariables false
section
variable {P : Program} {ops : Array Oper} {md : Region.Mode}
def upon (P : Program) (R : Value → World → Prop) : Result Next → Prop
 | .ok (.value u) w' => R u w'
 | .ok .skip w' => R undef w'
 | .ok (.enter f args) w' => Calls P f args w' fun e w'' => ∃ v, e = .returned v ∧ R v w''
 | _ => False
def stepAt (P : Program) (o : Oper) (a : Act) (w : World) (R : Value → World → Prop) : Prop := upon P R ((execOp a.eval o).run P w)
theorem wp_of_step {o : Oper} {a : Act} {w : World} {R : Value → World → Prop} {K : Act → World → Prop} {Q : Exit → Act → World → Prop} (h : stepAt P o a w R) (hK : ∀ v w', R v w' → K (a.put o.dst v) w') : o.wp P a w K Q := by
 unfold stepAt at h
 unfold Oper.wp
 generalize (execOp a.eval o).run P w = r at *
 cases r with
 | ok n w' =>
  cases n <;> simp only [upon] at h <;> simp only [Oper.upon]
  case value u => exact hK _ _ h
  case skip => exact hK _ _ h
  case enter f args => exact h.mono fun e w'' ⟨v, he, hv⟩ => by subst he; exact hK _ _ hv
 | halt x w' => simp only [upon] at h
abbrev Fam := Nat → Value → World → Prop
def putL : List Oper → Nat → (Nat → Value) → Act → Act
 | [], _, _, a => a
 | o :: r, k, vs, a => putL r (k + 1) vs (a.put o.dst (vs k))
def deps (md : Region.Mode) (G : Fam) (vs : Nat → Value) (w : World) (o : Oper) : Prop := ∀ e ∈ o.after, Region.binds md e = true → G e.on (vs e.on) w
def setG (G : Fam) (k : Nat) (S : Value → World → Prop) : Fam := fun j => if j = k then S else G j
def Mono (S : Value → World → Prop) : Prop := ∀ v w w', S v w → Below w.heap.size w w' → S v w'
def allG (G : Fam) (vs : Nat → Value) (w : World) : Nat → Prop
 | 0 => True
 | k + 1 => allG G vs w k ∧ G k (vs k) w
def wpRel (P : Program) (md : Region.Mode) (F : (Nat → Value) → Act) (W : World) (K : Act → World → Prop) : List Oper → Nat → Fam → Prop
 | [], k, G => ∀ vs w, Below W.heap.size W w → allG G vs w k → K (F vs) w
 | o :: r, k, G => ∃ S, Mono S ∧ (∀ vs w, Below W.heap.size W w → deps md G vs w o → stepAt P o (F vs) w (fun v w' => S v w' ∧ Below w.heap.size w w')) ∧ wpRel P md F W K r (k + 1) (setG G k S)
def edgesB (md : Region.Mode) (ops : Array Oper) (n : Nat) : Bool :=
 (List.range n).all fun i => ((ops[i]?).map fun o => o.after.all (fun e => !Region.binds md e || decide (e.on < i)) && o.guard.isNone).getD false
def dstsB (ops : Array Oper) (n : Nat) : Bool :=
 (List.range n).all fun i => (List.range i).all fun j => match (ops[i]?).bind (·.dst), (ops[j]?).bind (·.dst) with
  | some d, some d' => d != d'
  | _, _ => true
def headL (n m : Nat) : Array Bool := (Array.range m).map fun i => decide (i < n)
def relB (md : Region.Mode) (ops : Array Oper) (n : Nat) : Bool :=
 decide (n ≤ ops.size) && edgesB md ops n && dstsB ops n && (decide (n = ops.size) || (decide (n < ops.size) && Region.sinkB md ops n && Region.chainB md ops n)) && Region.seqB md ops (ops.size - n) n (headL n ops.size)
theorem edges_spec {n i : Nat} {o : Oper} (h : edgesB md ops n = true) (hi : i < n) (ho : ops[i]? = some o) : (∀ e ∈ o.after, Region.binds md e = true → e.on < i) ∧ o.guard = none := by
 have h1 := List.all_eq_true.1 h i (List.mem_range.2 hi)
 rw [ho] at h1
 simp only [Option.map_some, Option.getD_some, Bool.and_eq_true, Array.all_eq_true_iff_forall_mem, Bool.or_eq_true, Bool.not_eq_true', decide_eq_true_eq, Option.isNone_iff_eq_none] at h1
 exact ⟨fun e he hb => (h1.1 e he).resolve_left (by simp [hb]), h1.2⟩
theorem dsts_spec {n i j : Nat} {d d' : Tmp} (h : dstsB ops n = true) (hi : i < n) (hj : j < n) (hij : i ≠ j) (hd : (ops[i]?).bind (·.dst) = some d) (hd' : (ops[j]?).bind (·.dst) = some d') : d ≠ d' := by
 have key : ∀ {i j : Nat} {d d' : Tmp}, i < n → j < i → (ops[i]?).bind (·.dst) = some d → (ops[j]?).bind (·.dst) = some d' → d ≠ d' := by
  intro i j d d' hi hj hd hd'
  have h1 := List.all_eq_true.1 h i (List.mem_range.2 hi)
  have h2 := List.all_eq_true.1 h1 j (List.mem_range.2 hj)
  rw [hd, hd'] at h2
  simpa using h2
 rcases Nat.lt_or_gt_of_ne hij with h1 | h1
 ·exact (key hj h1 hd' hd).symm
 ·exact key hi h1 hd hd'
theorem put_self (a : Act) (d : Tmp) : a.put (some d) (a.tmps.getD d undef) = a := by
 unfold Act.put
 have : a.tmps.setIfInBounds d (a.tmps.getD d undef) = a.tmps := by
  apply Array.ext
  ·simp
  ·intro i h1 h2
   rw [Array.getElem_setIfInBounds]
   split
   ·rename_i e; subst e; simp [h2]
   ·rfl
 show ({ a with tmps := a.tmps.setIfInBounds d (a.tmps.getD d undef) } : Act) = a
 rw [this]
theorem put_put (a : Act) (d : Option Tmp) (u v : Value) : (a.put d u).put d v = a.put d v := by
 cases d with
 | none => rfl
 | some d => simp [Act.put]
theorem put_swap (a : Act) {d d' : Option Tmp} (u v : Value) (h : d = none ∨ d' = none ∨ d ≠ d') : (a.put d u).put d' v = (a.put d' v).put d u := by
 cases d with
 | none => rfl
 | some d =>
  cases d' with
  | none => rfl
  | some d' =>
   have hne : d ≠ d' := by
    rcases h with h | h | h
    ·cases h
    ·cases h
    ·exact fun e => h (by rw [e])
   simp only [Act.put]
   rw [Array.setIfInBounds_comm _ _ hne]
theorem putL_out : ∀ (l : List Oper) (k : Nat) (vs : Nat → Value) (a : Act) (d : Option Tmp) (v : Value), (∀ o ∈ l, d = none ∨ o.dst = none ∨ d ≠ o.dst) → (putL l k vs a).put d v = putL l k vs (a.put d v)
 | [], _, _, _, _, _, _ => rfl
 | o :: r, k, vs, a, d, v, h => by
  rw [putL, putL, putL_out r (k + 1) vs _ d v fun o' ho' => h o' (by simp [ho'])]
  congr 1
  refine (put_swap a _ _ ?_)
  rcases h o (by simp) with h | h | h
  ·exact .inr (.inl h)
  ·exact .inl h
  ·exact .inr (.inr h.symm)
theorem putL_congr : ∀ (l : List Oper) (k : Nat) (vs vs' : Nat → Value) (a : Act), (∀ j, k ≤ j → vs j = vs' j) → putL l k vs a = putL l k vs' a
 | [], _, _, _, _, _ => rfl
 | o :: r, k, vs, vs', a, h => by
  rw [putL, putL, h k (Nat.le_refl _)]
  exact putL_congr r (k + 1) vs vs' _ fun j hj => h j (by omega)
theorem putL_put : ∀ (l : List Oper) (k i : Nat) (vs : Nat → Value) (a : Act) (o : Oper) (v : Value), l[i]? = some o → (∀ j oj, l[j]? = some oj → j ≠ i → o.dst = none ∨ oj.dst = none ∨ o.dst ≠ oj.dst) →
  (putL l k vs a).put o.dst v = putL l k (fun j => if j = k + i then v else vs j) a
 | [], _, _, _, _, _, _, h, _ => by cases h
 | o' :: r, k, 0, vs, a, o, v, h, hd => by
  obtain rfl : o' = o := by simpa using h
  rw [putL, putL, putL_out r (k + 1) vs _ o'.dst v fun oj hoj => by
   obtain ⟨j, hj⟩ := List.getElem?_of_mem hoj
   exact hd (j + 1) oj (by simpa using hj) (by omega), put_put]
  simp only [Nat.add_zero, if_true]
  exact putL_congr r (k + 1) _ _ _ fun j hj => by rw [if_neg (by omega)]
 | o' :: r, k, i + 1, vs, a, o, v, h, hd => by
  rw [putL, putL, putL_put r (k + 1) i vs _ o v (by simpa using h) fun j oj hj hne => hd (j + 1) oj (by simpa using hj) (by omega)]
  rw [if_neg (by omega)]
  congr 1
  funext j
  rw [show k + 1 + i = k + (i + 1) by omega]
theorem putL_same : ∀ (l : List Oper) (k : Nat) (vs : Nat → Value) (a : Act), (∀ i o d, l[i]? = some o → o.dst = some d → vs (k + i) = a.tmps.getD d undef) → putL l k vs a = a
 | [], _, _, _, _ => rfl
 | o :: r, k, vs, a, h => by
  have e : a.put o.dst (vs k) = a := by
   cases hd : o.dst with
   | none => rfl
   | some d =>
    have := h 0 o d (by simp) hd
    rw [Nat.add_zero] at this
    rw [this]; exact put_self a d
  rw [putL, e]
  exact putL_same r (k + 1) vs a fun i o' d hi hd => by
   have := h (i + 1) o' d (by simpa using hi) hd
   rw [show k + 1 + i = k + (i + 1) by omega]; exact this
theorem wpRel_spec {F : (Nat → Value) → Act} {W : World} {K : Act → World → Prop} : ∀ (l : List Oper) (k : Nat) (G : Fam), (∀ i o, l[i]? = some o → ∀ e ∈ o.after, Region.binds md e = true → e.on < k + i) → wpRel P md F W K l k G →
  ∃ G' : Fam, (∀ j, j < k → G' j = G j) ∧ (∀ i o, l[i]? = some o → Mono (G' (k + i)) ∧ ∀ vs w, Below W.heap.size W w → deps md G' vs w o → stepAt P o (F vs) w (fun v w' => G' (k + i) v w' ∧ Below w.heap.size w w')) ∧
   (∀ vs w, Below W.heap.size W w → allG G' vs w (k + l.length) → K (F vs) w)
 | [], k, G, _, h => ⟨G, fun _ _ => rfl, fun i o hi => (by cases hi), h⟩
 | o :: r, k, G, hed, h => by
  obtain ⟨S, hM, hst, hr⟩ := h
  obtain ⟨G', h1, h2, h3⟩ := wpRel_spec r (k + 1) (setG G k S) (fun i o' hi e he hb => by have := hed (i + 1) o' (by simpa using hi) e he hb; omega) hr
  have hk : G' k = S := by rw [h1 k (by omega)]; unfold setG; rw [if_pos rfl]
  refine ⟨G', fun j hj => ?_, fun i o' hi => ?_, fun vs w hw ha => h3 vs w hw (by rw [show k + 1 + r.length = k + (o :: r).length by simp; omega]; exact ha)⟩
  ·rw [h1 j (by omega)]; unfold setG; rw [if_neg (by omega)]
  ·cases i with
   | zero =>
    obtain rfl : o = o' := by simpa using hi
    rw [Nat.add_zero, hk]
    refine ⟨hM, fun vs w hw hdp => hst vs w hw fun e he hb => ?_⟩
    have := hdp e he hb
    have hlt := hed 0 o (by simp) e he hb
    rw [h1 e.on (by omega)] at this
    unfold setG at this
    rwa [if_neg (by omega)] at this
   | succ i =>
    have := h2 i o' (by simpa using hi)
    rw [show k + 1 + i = k + (i + 1) by omega] at this
    exact this
theorem allG_of {G : Fam} {vs : Nat → Value} {w : World} : ∀ (k : Nat), (∀ i, i < k → G i (vs i) w) → allG G vs w k
 | 0, _ => trivial
 | k + 1, h => ⟨allG_of k fun i hi => h i (by omega), h k (by omega)⟩
theorem count_zero {n : Nat} {listed : Array Bool} (h : (List.range n).countP (fun i => !listed.getD i false) = 0) : ∀ i, i < n → listed.getD i false = true := fun i hi => by
 have := List.countP_eq_zero.1 h i (List.mem_range.2 hi)
 simpa using this
theorem count_pos {n f : Nat} {listed : Array Bool} (h : (List.range n).countP (fun i => !listed.getD i false) = f + 1) : ∃ i, i < n ∧ listed.getD i false = false ∧ ∀ j, j < i → listed.getD j false = true := by
 have hex : ∃ i, i < n ∧ listed.getD i false = false := by
  refine Classical.byContradiction fun hc => ?_
  have : (List.range n).countP (fun i => !listed.getD i false) = 0 := List.countP_eq_zero.2 fun i hi => by
   have hi := List.mem_range.1 hi
   cases hb : listed.getD i false
   ·exact absurd ⟨i, hi, hb⟩ hc
   ·simp
  omega
 obtain ⟨i, hi, hb⟩ := hex
 induction i using Nat.strongRecOn with
 | _ i ih =>
  by_cases hall : ∀ j, j < i → listed.getD j false = true
  ·exact ⟨i, hi, hb, hall⟩
  ·obtain ⟨j, hj⟩ := Classical.not_forall.1 hall
   obtain ⟨hj1, hj2⟩ := Classical.not_imp.1 hj
   exact ih j hj1 (by omega) (by simpa using hj2)
theorem count_set {n f i : Nat} {listed : Array Bool} (hi : i < n) (hs : n ≤ listed.size) (hb : listed.getD i false = false) (h : (List.range n).countP (fun i => !listed.getD i false) = f + 1) : (List.range n).countP (fun j => !(listed.setIfInBounds i true).getD j false) = f := by
 have key : ∀ m, m ≤ n → (List.range m).countP (fun j => !listed.getD j false) = (List.range m).countP (fun j => !(listed.setIfInBounds i true).getD j false) + (if i < m then 1 else 0) := by
  intro m
  induction m with
  | zero => intro _; simp
  | succ m ih =>
   intro hm
   have := ih (by omega)
   rw [List.range_succ, List.countP_append, List.countP_append, this]
   by_cases him : i = m
   ·subst him
    have h1 : (listed.setIfInBounds i true).getD i false = true := by simp [show i < listed.size by omega]
    rw [List.countP_singleton, List.countP_singleton, h1, hb]
    simp
   ·have e : (if i < m + 1 then 1 else 0 : Nat) = if i < m then 1 else 0 := by
     by_cases hlt : i < m
     ·rw [if_pos hlt, if_pos (by omega)]
     ·rw [if_neg hlt, if_neg (by omega)]
    rw [List.countP_singleton, List.countP_singleton, getD_set_ne false him, e]
    omega
 have := key n (Nat.le_refl _)
 rw [if_pos hi] at this
 omega
theorem headL_get (n m i : Nat) (h : n ≤ m) : (headL n m).getD i false = decide (i < n) := by
 unfold headL
 by_cases hi : i < m
 ·simp [hi]
 ·simp [hi]; omega
theorem listed_ext {n : Nat} {listed : Array Bool} (inv : HeadInv md ops n listed) (hn : n ≤ ops.size) (h : ∀ i, i < n → listed.getD i false = true) : listed = headL n ops.size := by
 apply Array.ext
 ·simp [headL, inv.size]
 ·intro i h1 h2
  have hi : i < ops.size := by rw [inv.size] at h1; exact h1
  have e1 : listed.getD i false = listed[i] := by simp [h1]
  have e2 := headL_get n ops.size i hn
  have e3 : (headL n ops.size).getD i false = (headL n ops.size)[i] := by simp [h2]
  rw [← e1, ← e3, e2]
  by_cases hlt : i < n
  ·rw [h i hlt]; simp [hlt]
  ·have := inv.tail i (by omega) hi
   rw [getD_both this]; simp [hlt]
structure RInv (md : Region.Mode) (ops : Array Oper) (n : Nat) (G : Fam) (hd : List Oper) (a0 : Act) (W : World) (listed : Array Bool) (a : Act) (w : World) : Prop where
 inv : HeadInv md ops n listed
 cls : Below W.heap.size W w
 vals : ∃ vs, a = putL hd 0 vs a0 ∧ ∀ i, i < n → listed.getD i false = true → G i (vs i) w
theorem wpAny_rel {n : Nat} {G : Fam} {a0 : Act} {W : World} {Q : Exit → Act → World → Prop} {l : List Oper} (hB : relB md l.toArray n = true)
  (h2 : ∀ i o, (l.take n)[i]? = some o → Mono (G i) ∧ ∀ vs w, Below W.heap.size W w → deps md G vs w o → stepAt P o (putL (l.take n) 0 vs a0) w (fun v w' => G i v w' ∧ Below w.heap.size w w'))
  (h3 : ∀ vs w, Below W.heap.size W w → allG G vs w n → wpList P l.toArray Q (l.drop n) (putL (l.take n) 0 vs a0) w) :
  ∀ (f : Nat) (listed : Array Bool) (a : Act) (w : World), RInv md l.toArray n G (l.take n) a0 W listed a w → (List.range n).countP (fun i => !listed.getD i false) = f → wpAny P md l.toArray Q (f + (l.toArray.size - n)) listed a w := by
 simp only [relB, Bool.and_eq_true, Bool.or_eq_true, decide_eq_true_eq] at hB
 obtain ⟨⟨⟨⟨hn, hed⟩, hds⟩, htl⟩, hsq⟩ := hB
 have hnl : n ≤ l.length := by simpa using hn
 have hdl : (l.drop n).length = l.toArray.size - n := by simp
 intro f
 induction f with
 | zero =>
  intro listed a w hI hc
  have hall := count_zero hc
  have e := listed_ext hI.inv hn hall
  obtain ⟨vs, rfl, hv⟩ := hI.vals
  rw [Nat.zero_add, ← hdl]
  refine wpAny_of_seq (l.drop n) n listed _ w (fun j => by simp [List.getElem?_drop]) ?_ (h3 vs w hI.cls (allG_of n fun i hi => hv i hi (hall i hi)))
  rw [hdl, e]; exact hsq
 | succ f ih =>
  intro listed a w hI hc
  obtain ⟨i0, hi0, hb0, hbefore⟩ := count_pos hc
  have hsz := hI.inv.size
  have hrdy : i0 ∈ Region.ready md l.toArray listed := by
   have hlt : i0 < l.toArray.size := by omega
   refine mem_ready.2 ⟨getD_in (by omega) hb0, l.toArray[i0], by simp, fun e he hb => ?_⟩
   exact hbefore _ ((edges_spec hed hi0 (by simp)).1 e he hb)
  rw [show f + 1 + (l.toArray.size - n) = (f + (l.toArray.size - n)) + 1 by omega]
  refine ⟨fun h => (by rw [h] at hrdy; cases hrdy), fun i hi => ?_⟩
  have hin : i < n := by
   rcases Nat.lt_or_ge i n with h | h
   ·exact h
   ·rcases htl with htl | htl
    ·obtain ⟨_, o, ho, _⟩ := mem_ready.1 hi
     have := (Array.getElem?_eq_some_iff.1 ho).1
     omega
    ·exact absurd hi (tail_waits htl.1.2 htl.2 htl.1.1 hI.inv _ i0 rfl hi0 (getD_in (by omega) hb0) i h)
  obtain ⟨hun, o, ho, hall⟩ := mem_ready.1 hi
  obtain ⟨hlow, hgd⟩ := edges_spec hed hin ho
  have hli : (l.take n)[i]? = some o := by
   rw [List.getElem?_take, if_pos hin]; simpa using ho
  obtain ⟨vs, rfl, hv⟩ := hI.vals
  obtain ⟨hM, hst⟩ := h2 i o hli
  have hstep := hst vs w hI.cls fun e he hb => hv e.on (by have := hlow e he hb; omega) (hall e he hb)
  have hw : Region.wanted o (yielded l.toArray (putL (l.take n) 0 vs a0).tmps) = true := by simp [Region.wanted, hgd]
  unfold wpOp
  rw [ho]
  simp only [hw, if_true]
  refine .inl (wp_of_step hstep fun v w' ⟨hv', hbw⟩ => ?_)
  refine ih _ _ _ ⟨hI.inv.set hi hin, hI.cls.trans (hbw.mono hI.cls.size), fun j => if j = 0 + i then v else vs j, ?_, fun j hj hl => ?_⟩ (count_set hin (by omega) (getD_both hun) hc)
  ·refine putL_put (l.take n) 0 i vs a0 o v hli fun j oj hj hne => ?_
   cases hd : o.dst with
   | none => exact .inl rfl
   | some d =>
    cases hd' : oj.dst with
    | none => exact .inr (.inl rfl)
    | some d' =>
     have hjn : j < n := by
      have := (List.getElem?_eq_some_iff.1 hj).1
      simp at this; omega
     have hj' : l[j]? = some oj := by rw [List.getElem?_take, if_pos hjn] at hj; exact hj
     have ho' : l[i]? = some o := by simpa using ho
     refine .inr (.inr fun e => dsts_spec hds hin hjn (Ne.symm hne) (d := d) (d' := d') (by simp [ho', hd]) (by simp [hj', hd']) (Option.some.inj e))
  ·by_cases hji : j = i
   ·subst hji
    show G j (if j = 0 + j then v else vs j) w'
    rw [if_pos (by omega)]; exact hv'
   ·show G j (if j = 0 + i then v else vs j) w'
    rw [if_neg (by omega)]
    rw [getD_set_ne false (Ne.symm hji)] at hl
    have hjn : j < (l.take n).length := by simp; omega
    exact (h2 j _ (List.getElem?_eq_getElem hjn)).1 _ _ _ (hv j hj hl) hbw
theorem wp_region_rel {id : Nat} {Q : Exit → Act → World → Prop} {a : Act} {W : World} {l : List Oper} (n : Nat) (hm : P.follows .mixedOrders = true) (hB : relB .any l.toArray n = true)
  (h : ∀ F : (Nat → Value) → Act, (∀ vs, F vs = putL (l.take n) 0 vs a) → wpRel P .any F W (wpList P l.toArray Q (l.drop n)) (l.take n) 0 (fun _ _ _ => True)) : (Code.region id l.toArray true).wp P Q a W := by
 have hB' := hB
 simp only [relB, Bool.and_eq_true, Bool.or_eq_true, decide_eq_true_eq] at hB'
 obtain ⟨⟨⟨⟨hn, hed⟩, hds⟩, htl⟩, hsq⟩ := hB'
 have hnl : n ≤ l.length := by simpa using hn
 have hlen : (l.take n).length = n := by simp; omega
 obtain ⟨G, _, h2, h3⟩ := wpRel_spec (l.take n) 0 _ (fun i o hi e he hb => by
  have hin : i < n := by
   have := (List.getElem?_eq_some_iff.1 hi).1
   rwa [hlen] at this
  have ho : l.toArray[i]? = some o := by rw [List.getElem?_take, if_pos hin] at hi; simpa using hi
  rw [Nat.zero_add]
  exact (edges_spec hed hin ho).1 e he hb) (h (fun vs => putL (l.take n) 0 vs a) fun _ => rfl)
 simp only [Nat.zero_add, hlen] at h2 h3
 refine wp_region_any hm ?_
 have inv0 : HeadInv .any l.toArray n (Array.replicate l.toArray.size false) :=
  ⟨by simp, fun j oj _ hl => (by rw [getD_replicate_false] at hl; cases hl), fun t _ ht => getD_in (by simpa using ht) (getD_replicate_false _ _)⟩
 have hc : (List.range n).countP (fun i => !(Array.replicate l.toArray.size false).getD i false) = n := by
  rw [List.countP_eq_length.2 fun i _ => by rw [getD_replicate_false]; rfl]
  simp
 have := wpAny_rel hB h2 h3 n _ a W.drew ⟨inv0, (Below.refl _ _).drew, fun i => (((l.take n)[i]?.bind (·.dst)).map fun d => a.tmps.getD d undef).getD undef, ?_, fun i _ hl => (by rw [getD_replicate_false] at hl; cases hl)⟩ hc
 ·rw [show n + (l.toArray.size - n) = l.toArray.size by omega] at this
  exact this
 ·refine (putL_same (l.take n) 0 _ a fun i o d hi hd => ?_).symm
  simp only [Nat.zero_add, hi, Option.bind_some, hd, Option.map_some, Option.getD_some]
variable {r : List Oper} {F : (Nat → Value) → Act} {W : World} {K : Act → World → Prop} {o : Oper} {k : Nat} {G : Fam}
theorem rel_pure (h : ∃ c : Value, (∀ vs w, Below W.heap.size W w → deps md G vs w o → ∀ R : Value → World → Prop, R c w → stepAt P o (F vs) w R) ∧ wpRel P md F W K r (k + 1) (setG G k fun v _ => v = c)) : wpRel P md F W K (o :: r) k G :=
 let ⟨c, h1, h2⟩ := h
 ⟨fun v _ => v = c, fun _ _ _ h _ => h, fun vs w hw hd => h1 vs w hw hd _ ⟨rfl, Below.refl _ _⟩, h2⟩
theorem rel_law {S : Value → World → Prop} (hM : Mono S) (h : ∀ vs w, Below W.heap.size W w → deps md G vs w o → stepAt P o (F vs) w fun v w' => S v w' ∧ Below w.heap.size w w') (hr : wpRel P md F W K r (k + 1) (setG G k S)) : wpRel P md F W K (o :: r) k G :=
 ⟨S, hM, h, hr⟩
theorem rel_same (h : ∃ c : Value, (∀ vs w, Below W.heap.size W w → deps md G vs w o → stepAt P o (F vs) w fun v w' => v = c ∧ Below w.heap.size w w') ∧ wpRel P md F W K r (k + 1) (setG G k fun v _ => v = c)) : wpRel P md F W K (o :: r) k G :=
 let ⟨c, h1, h2⟩ := h
 ⟨fun v _ => v = c, fun _ _ _ h _ => h, h1, h2⟩
theorem rel_end (h : ∀ vs w, Below W.heap.size W w → allG G vs w k → K (F vs) w) : wpRel P md F W K [] k G := h
def NewB (B : Nat) (cs : Array Value) (t : TypeId) (v : Value) (w : World) : Prop := ∃ g, v = .pointer (some ⟨g, 0, none⟩) ∧ B ≤ g ∧ w.heap[g]? = some (.cells cs t (0, 0))
theorem newB_mono (B : Nat) (cs : Array Value) (t : TypeId) : Mono (NewB B cs t) := fun v w w' ⟨g, e, hB, h⟩ hb => by
 have hlt : g < w.heap.size := by
  rcases Nat.lt_or_ge g w.heap.size with hlt | hge
  ·exact hlt
  ·rw [Array.getElem?_eq_none hge] at h; cases h
 exact ⟨g, e, hB, (hb.block g hlt).trans h⟩
theorem rel_alloc {cs : Array Value} {t : TypeId} (h : ∀ vs w, Below W.heap.size W w → deps md G vs w o → ∀ R : Value → World → Prop, R (.pointer (some ⟨w.heap.size, 0, none⟩)) (w.alloc (.cells cs t)) → stepAt P o (F vs) w R) (hr : wpRel P md F W K r (k + 1) (setG G k (NewB W.heap.size cs t))) : wpRel P md F W K (o :: r) k G :=
 ⟨_, newB_mono _ _ _, fun vs w hw hd => h vs w hw hd _ ⟨⟨w.heap.size, rfl, hw.size, by show (w.heap.push _)[w.heap.size]? = _; simp⟩, (Below.refl _ _).alloc (Nat.le_refl _) _⟩, hr⟩
theorem dep {vs : Nat → Value} {w : World} (hd : deps md G vs w o) (j : Nat) (h : (o.after.any fun e => Region.binds md e && e.on == j) = true) : G j (vs j) w := by
 obtain ⟨e, he, hb⟩ := Array.any_eq_true'.1 h
 simp only [Bool.and_eq_true, beq_iff_eq] at hb
 obtain ⟨h1, rfl⟩ := hb
 exact hd e he h1
theorem fin {vs : Nat → Value} {w : World} : ∀ {n : Nat}, allG G vs w n → ∀ (i : Nat), i < n → G i (vs i) w
 | 0, _, i, h => absurd h (Nat.not_lt_zero i)
 | n + 1, ha, i, h => by
  rcases Nat.lt_succ_iff_lt_or_eq.1 h with h | h
  ·exact fin ha.1 i h
  ·subst h; exact ha.2
theorem stepAt_eq (P : Program) (o : Oper) (a : Act) (w : World) (R : Value → World → Prop) : stepAt P o a w R = upon P R ((execOp a.eval o).run P w) := rfl
theorem upon_value (P : Program) (R : Value → World → Prop) (u : Value) (w : World) : upon P R (.ok (.value u) w) = R u w := rfl
theorem upon_enter (P : Program) (R : Value → World → Prop) (f : FuncId) (args : Array Value) (w : World) : upon P R (.ok (.enter f args) w) = Calls P f args w fun e w'' => ∃ v, e = .returned v ∧ R v w'' := rfl
attribute [irreducible] stepAt upon wpRel
end
end Go.Proofs.YthagenodiofgnaaGreat.Rel

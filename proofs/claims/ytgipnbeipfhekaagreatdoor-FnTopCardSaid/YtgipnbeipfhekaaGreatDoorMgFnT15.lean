/- A region that draws its order: one look at each operation, with any law of how worlds go on. -/
import Derived.Test.YtgipnbeipfhekaaGreatDoorMgFnT08
import Derived.Test.YtgipnbeipfhekaaGreatDoorMgFnT04
import Derived.Test.YtgipnbeipfhekaaGreatDoorMgFnT13
import Derived.Test.YtgipnbeipfhekaaGreatDoorMgFnT14
import Derived.Test.YtgipnbeipfhekaaGreatDoorMgFnT06
import Derived.Test.YtgipnbeipfhekaaGreatDoorMgFnT10
namespace Go.Proofs.YtgipnbeipfhekaaGreatDoor.RelR
open Go.RowKit Go.Proofs.YtgipnbeipfhekaaGreatDoor Go.Proofs.YtgipnbeipfhekaaGreatDoor.Base
open Go.Proofs.YtgipnbeipfhekaaGreatDoor.Rel hiding Mono wpRel wpRel_spec RInv wpAny_rel wp_region_rel rel_pure rel_law rel_same rel_end
set_option linter.unusedVariables false
section
variable {P : Program} {ops : Array Oper} {md : Region.Mode} {Ev : World → World → Prop}
structure EvOk (Ev : World → World → Prop) : Prop where
 refl : ∀ w, Ev w w
 trans : ∀ w w' w'', Ev w w' → Ev w' w'' → Ev w w''
 drew : ∀ w, Ev w w.drew
def Mono (Ev : World → World → Prop) (S : Value → World → Prop) : Prop := ∀ v w w', S v w → Ev w w' → S v w'
def wpRel (Ev : World → World → Prop) (P : Program) (md : Region.Mode) (F : (Nat → Value) → Act) (W : World) (K : Act → World → Prop) : List Oper → Nat → Fam → Prop
 | [], k, G => ∀ vs w, Ev W w → allG G vs w k → K (F vs) w
 | o :: r, k, G => ∃ S, Mono Ev S ∧ (∀ vs w, Ev W w → deps md G vs w o → stepAt P o (F vs) w (fun v w' => S v w' ∧ Ev w w')) ∧ wpRel Ev P md F W K r (k + 1) (setG G k S)
theorem wpRel_spec {F : (Nat → Value) → Act} {W : World} {K : Act → World → Prop} : ∀ (l : List Oper) (k : Nat) (G : Fam), (∀ i o, l[i]? = some o → ∀ e ∈ o.after, Region.binds md e = true → e.on < k + i) → wpRel Ev P md F W K l k G →
  ∃ G' : Fam, (∀ j, j < k → G' j = G j) ∧ (∀ i o, l[i]? = some o → Mono Ev (G' (k + i)) ∧ ∀ vs w, Ev W w → deps md G' vs w o → stepAt P o (F vs) w (fun v w' => G' (k + i) v w' ∧ Ev w w')) ∧
   (∀ vs w, Ev W w → allG G' vs w (k + l.length) → K (F vs) w)
 | [], k, G, _, h => ⟨G, fun _ _ => rfl, fun i o hi => (by cases hi), h⟩
 | o :: r, k, G, hed, h => by
  obtain ⟨S, hM, hst, hr⟩ := h
  obtain ⟨G', h1, h2, h3⟩ := wpRel_spec r (k + 1) (setG G k S) (fun i o' hi e he hb => by have := hed (i + 1) o' (by simpa using hi) e he hb; omega) hr
  have hk : G' k = S := by rw [h1 k (by omega)]; unfold setG; rw [if_pos rfl]
  refine ⟨G', fun j hj => ?_, fun i o' hi => ?_, fun vs w hw ha => h3 vs w hw (by rw [show k + 1 + r.length = k + (o :: r).length by simp; omega]; exact ha)⟩
  ·rw [h1 j (by omega)]; unfold setG; rw [if_neg (by omega)]
  ·cases i with
   | zero =>
    obtain rfl : o = o' := by simpa using hi
    rw [Nat.add_zero, hk]
    refine ⟨hM, fun vs w hw hdp => hst vs w hw fun e he hb => ?_⟩
    have := hdp e he hb
    have hlt := hed 0 o (by simp) e he hb
    rw [h1 e.on (by omega)] at this
    unfold setG at this
    rwa [if_neg (by omega)] at this
   | succ i =>
    have := h2 i o' (by simpa using hi)
    rw [show k + 1 + i = k + (i + 1) by omega] at this
    exact this
structure RInv (Ev : World → World → Prop) (md : Region.Mode) (ops : Array Oper) (n : Nat) (G : Fam) (hd : List Oper) (a0 : Act) (W : World) (listed : Array Bool) (a : Act) (w : World) : Prop where
 inv : HeadInv md ops n listed
 cls : Ev W w
 vals : ∃ vs, a = putL hd 0 vs a0 ∧ ∀ i, i < n → listed.getD i false = true → G i (vs i) w
theorem wpAny_rel (hE : EvOk Ev) {n : Nat} {G : Fam} {a0 : Act} {W : World} {Q : Exit → Act → World → Prop} {l : List Oper} (hB : relB md l.toArray n = true)
  (h2 : ∀ i o, (l.take n)[i]? = some o → Mono Ev (G i) ∧ ∀ vs w, Ev W w → deps md G vs w o → stepAt P o (putL (l.take n) 0 vs a0) w (fun v w' => G i v w' ∧ Ev w w'))
  (h3 : ∀ vs w, Ev W w → allG G vs w n → wpList P l.toArray Q (l.drop n) (putL (l.take n) 0 vs a0) w) :
  ∀ (f : Nat) (listed : Array Bool) (a : Act) (w : World), RInv Ev md l.toArray n G (l.take n) a0 W listed a w → (List.range n).countP (fun i => !listed.getD i false) = f → wpAny P md l.toArray Q (f + (l.toArray.size - n)) listed a w := by
 simp only [relB, Bool.and_eq_true, Bool.or_eq_true, decide_eq_true_eq] at hB
 obtain ⟨⟨⟨⟨hn, hed⟩, hds⟩, htl⟩, hsq⟩ := hB
 have hnl : n ≤ l.length := by simpa using hn
 have hdl : (l.drop n).length = l.toArray.size - n := by simp
 intro f
 induction f with
 | zero =>
  intro listed a w hI hc
  have hall := count_zero hc
  have e := listed_ext hI.inv hn hall
  obtain ⟨vs, rfl, hv⟩ := hI.vals
  rw [Nat.zero_add, ← hdl]
  refine wpAny_of_seq (l.drop n) n listed _ w (fun j => by simp [List.getElem?_drop]) ?_ (h3 vs w hI.cls (allG_of n fun i hi => hv i hi (hall i hi)))
  rw [hdl, e]; exact hsq
 | succ f ih =>
  intro listed a w hI hc
  obtain ⟨i0, hi0, hb0, hbefore⟩ := count_pos hc
  have hsz := hI.inv.size
  have hrdy : i0 ∈ Region.ready md l.toArray listed := by
   have hlt : i0 < l.toArray.size := by omega
   refine mem_ready.2 ⟨getD_in (by omega) hb0, l.toArray[i0], by simp, fun e he hb => ?_⟩
   exact hbefore _ ((edges_spec hed hi0 (by simp)).1 e he hb)
  rw [show f + 1 + (l.toArray.size - n) = (f + (l.toArray.size - n)) + 1 by omega]
  refine ⟨fun h => (by rw [h] at hrdy; cases hrdy), fun i hi => ?_⟩
  have hin : i < n := by
   rcases Nat.lt_or_ge i n with h | h
   ·exact h
   ·rcases htl with htl | htl
    ·obtain ⟨_, o, ho, _⟩ := mem_ready.1 hi
     have := (Array.getElem?_eq_some_iff.1 ho).1
     omega
    ·exact absurd hi (tail_waits htl.1.2 htl.2 htl.1.1 hI.inv _ i0 rfl hi0 (getD_in (by omega) hb0) i h)
  obtain ⟨hun, o, ho, hall⟩ := mem_ready.1 hi
  obtain ⟨hlow, hgd⟩ := edges_spec hed hin ho
  have hli : (l.take n)[i]? = some o := by
   rw [List.getElem?_take, if_pos hin]; simpa using ho
  obtain ⟨vs, rfl, hv⟩ := hI.vals
  obtain ⟨hM, hst⟩ := h2 i o hli
  have hstep := hst vs w hI.cls fun e he hb => hv e.on (by have := hlow e he hb; omega) (hall e he hb)
  have hw : Region.wanted o (yielded l.toArray (putL (l.take n) 0 vs a0).tmps) = true := by simp [Region.wanted, hgd]
  unfold wpOp
  rw [ho]
  simp only [hw, if_true]
  refine .inl (wp_of_step hstep fun v w' ⟨hv', hbw⟩ => ?_)
  refine ih _ _ _ ⟨hI.inv.set hi hin, hE.trans _ _ _ hI.cls hbw, fun j => if j = 0 + i then v else vs j, ?_, fun j hj hl => ?_⟩ (count_set hin (by omega) (getD_both hun) hc)
  ·refine putL_put (l.take n) 0 i vs a0 o v hli fun j oj hj hne => ?_
   cases hd : o.dst with
   | none => exact .inl rfl
   | some d =>
    cases hd' : oj.dst with
    | none => exact .inr (.inl rfl)
    | some d' =>
     have hjn : j < n := by
      have := (List.getElem?_eq_some_iff.1 hj).1
      simp at this; omega
     have hj' : l[j]? = some oj := by rw [List.getElem?_take, if_pos hjn] at hj; exact hj
     have ho' : l[i]? = some o := by simpa using ho
     refine .inr (.inr fun e => dsts_spec hds hin hjn (Ne.symm hne) (d := d) (d' := d') (by simp [ho', hd]) (by simp [hj', hd']) (Option.some.inj e))
  ·by_cases hji : j = i
   ·subst hji
    show G j (if j = 0 + j then v else vs j) w'
    rw [if_pos (by omega)]; exact hv'
   ·show G j (if j = 0 + i then v else vs j) w'
    rw [if_neg (by omega)]
    rw [getD_set_ne false (Ne.symm hji)] at hl
    have hjn : j < (l.take n).length := by simp; omega
    exact (h2 j _ (List.getElem?_eq_getElem hjn)).1 _ _ _ (hv j hj hl) hbw
theorem wp_region_rel (hE : EvOk Ev) {id : Nat} {Q : Exit → Act → World → Prop} {a : Act} {W : World} {l : List Oper} (n : Nat) (hm : P.follows .mixedOrders = true) (hB : relB .any l.toArray n = true)
  (h : ∀ F : (Nat → Value) → Act, (∀ vs, F vs = putL (l.take n) 0 vs a) → wpRel Ev P .any F W (wpList P l.toArray Q (l.drop n)) (l.take n) 0 (fun _ _ _ => True)) : (Code.region id l.toArray true).wp P Q a W := by
 have hB' := hB
 simp only [relB, Bool.and_eq_true, Bool.or_eq_true, decide_eq_true_eq] at hB'
 obtain ⟨⟨⟨⟨hn, hed⟩, hds⟩, htl⟩, hsq⟩ := hB'
 have hnl : n ≤ l.length := by simpa using hn
 have hlen : (l.take n).length = n := by simp; omega
 obtain ⟨G, _, h2, h3⟩ := wpRel_spec (l.take n) 0 _ (fun i o hi e he hb => by
  have hin : i < n := by
   have := (List.getElem?_eq_some_iff.1 hi).1
   rwa [hlen] at this
  have ho : l.toArray[i]? = some o := by rw [List.getElem?_take, if_pos hin] at hi; simpa using hi
  rw [Nat.zero_add]
  exact (edges_spec hed hin ho).1 e he hb) (h (fun vs => putL (l.take n) 0 vs a) fun _ => rfl)
 simp only [Nat.zero_add, hlen] at h2 h3
 refine wp_region_any hm ?_
 have inv0 : HeadInv .any l.toArray n (Array.replicate l.toArray.size false) :=
  ⟨by simp, fun j oj _ hl => (by rw [getD_replicate_false] at hl; cases hl), fun t _ ht => getD_in (by simpa using ht) (getD_replicate_false _ _)⟩
 have hc : (List.range n).countP (fun i => !(Array.replicate l.toArray.size false).getD i false) = n := by
  rw [List.countP_eq_length.2 fun i _ => by rw [getD_replicate_false]; rfl]
  simp
 have := wpAny_rel hE hB h2 h3 n _ a W.drew ⟨inv0, hE.drew _, fun i => (((l.take n)[i]?.bind (·.dst)).map fun d => a.tmps.getD d undef).getD undef, ?_, fun i _ hl => (by rw [getD_replicate_false] at hl; cases hl)⟩ hc
 ·rw [show n + (l.toArray.size - n) = l.toArray.size by omega] at this
  exact this
 ·refine (putL_same (l.take n) 0 _ a fun i o d hi hd => ?_).symm
  simp only [Nat.zero_add, hi, Option.bind_some, hd, Option.map_some, Option.getD_some]
variable {r : List Oper} {F : (Nat → Value) → Act} {W : World} {K : Act → World → Prop} {o : Oper} {k : Nat} {G : Fam}
theorem rel_pure (hE : EvOk Ev) (h : ∃ c : Value, (∀ vs w, Ev W w → deps md G vs w o → ∀ R : Value → World → Prop, R c w → stepAt P o (F vs) w R) ∧ wpRel Ev P md F W K r (k + 1) (setG G k fun v _ => v = c)) : wpRel Ev P md F W K (o :: r) k G :=
 let ⟨c, h1, h2⟩ := h
 ⟨fun v _ => v = c, fun _ _ _ h _ => h, fun vs w hw hd => h1 vs w hw hd _ ⟨rfl, hE.refl _⟩, h2⟩
theorem rel_law {S : Value → World → Prop} (hM : Mono Ev S) (h : ∀ vs w, Ev W w → deps md G vs w o → stepAt P o (F vs) w fun v w' => S v w' ∧ Ev w w') (hr : wpRel Ev P md F W K r (k + 1) (setG G k S)) : wpRel Ev P md F W K (o :: r) k G :=
 ⟨S, hM, h, hr⟩
theorem rel_same (h : ∃ c : Value, (∀ vs w, Ev W w → deps md G vs w o → stepAt P o (F vs) w fun v w' => v = c ∧ Ev w w') ∧ wpRel Ev P md F W K r (k + 1) (setG G k fun v _ => v = c)) : wpRel Ev P md F W K (o :: r) k G :=
 let ⟨c, h1, h2⟩ := h
 ⟨fun v _ => v = c, fun _ _ _ h _ => h, h1, h2⟩
theorem rel_end (h : ∀ vs w, Ev W w → allG G vs w k → K (F vs) w) : wpRel Ev P md F W K [] k G := h
attribute [irreducible] wpRel
theorem upon_skip (P : Program) (R : Value → World → Prop) (w : World) : upon P R (.ok .skip w) = R undef w := by unfold upon; rfl
end
def EvBox (B b : Nat) (t : TypeId) (z f : Array Value) (w w' : World) : Prop := Below B w w' ∧ (Blk.Blk w b t z → Blk.Blk w' b t z ∨ Blk.Blk w' b t f) ∧ (Blk.Blk w b t f → Blk.Blk w' b t f)
theorem evBox_ok (B b : Nat) (t : TypeId) (z f : Array Value) : EvOk (EvBox B b t z f) where
 refl w := ⟨Below.refl _ _, .inl, id⟩
 trans w w' w'' h1 h2 := ⟨h1.1.trans h2.1, fun h => (h1.2.1 h).elim h2.2.1 fun h => .inr (h2.2.2 h), fun h => h2.2.2 (h1.2.2 h)⟩
 drew w := ⟨(Below.refl _ _).drew, fun h => .inl h, id⟩
theorem evBox_of {B b : Nat} {t : TypeId} {z f : Array Value} {w w' : World} (hB : B ≤ w.heap.size) (h : Below w.heap.size w w') : EvBox B b t z f w w' := ⟨h.mono hB, fun k => .inl (k.belowS h), fun k => k.belowS h⟩
theorem evBox_mono (B b : Nat) (t : TypeId) (z f : Array Value) : Mono (EvBox B b t z f) (fun _ w => Blk.Blk w b t f) := fun _ _ _ h hb => hb.2.2 h
theorem evBox_put {B b : Nat} {t : TypeId} {z0 z1 f0 f1 : Value} {W w : World} (h : EvBox B b t #[z0, z1] #[f0, f1] W w) (hK : Blk.Blk W b t #[z0, z1]) (hB : B ≤ b) :
  ∃ u0 u1, w.cell? ⟨b, 0, none⟩ = some u0 ∧ w.cell? ⟨b, 1, none⟩ = some u1 ∧ w.frozen? ⟨b, 0, none⟩ = false ∧ w.frozen? ⟨b, 1, none⟩ = false ∧
   Blk.Blk ((w.setCell ⟨b, 0, none⟩ f0).setCell ⟨b, 1, none⟩ f1) b t #[f0, f1] ∧ EvBox B b t #[z0, z1] #[f0, f1] w ((w.setCell ⟨b, 0, none⟩ f0).setCell ⟨b, 1, none⟩ f1) := by
 have key : ∀ u0 u1, Blk.Blk w b t #[u0, u1] → ∃ u0 u1, w.cell? ⟨b, 0, none⟩ = some u0 ∧ w.cell? ⟨b, 1, none⟩ = some u1 ∧ w.frozen? ⟨b, 0, none⟩ = false ∧ w.frozen? ⟨b, 1, none⟩ = false ∧
   Blk.Blk ((w.setCell ⟨b, 0, none⟩ f0).setCell ⟨b, 1, none⟩ f1) b t #[f0, f1] ∧ EvBox B b t #[z0, z1] #[f0, f1] w ((w.setCell ⟨b, 0, none⟩ f0).setCell ⟨b, 1, none⟩ f1) := fun u0 u1 k => by
  have kk := (k.setTo 0 f0 rfl).setTo 1 f1 rfl
  exact ⟨u0, u1, k.at 0 rfl, k.at 1 rfl, k.frz 0, k.frz 1, kk, ((Below.refl B w).setCell (p := ⟨b, 0, none⟩) hB f0).setCell (p := ⟨b, 1, none⟩) hB f1, fun _ => .inr kk, fun _ => kk⟩
 rcases h.2.1 hK with k | k
 ·exact key _ _ k
 ·exact key _ _ k
end Go.Proofs.YtgipnbeipfhekaaGreatDoor.RelR
namespace Go.Proofs.YtgipnbeipfhekaaGreatDoor.LcG
open Go.RowKit Go.Proofs.YtgipnbeipfhekaaGreatDoor Go.Proofs.YtgipnbeipfhekaaGreatDoor.Base Go.Proofs.YtgipnbeipfhekaaGreatDoor.Mem Go.Proofs.YtgipnbeipfhekaaGreatDoor.MemS Go.Proofs.YtgipnbeipfhekaaGreatDoor.LabM Go.Proofs.YtgipnbeipfhekaaGreatDoor.LabV Go.Proofs.YtgipnbeipfhekaaGreatDoor.StM Go.Proofs.YtgipnbeipfhekaaGreatDoor.Str Go.Proofs.YtgipnbeipfhekaaGreatDoor.StTx Go.Proofs.YtgipnbeipfhekaaGreatDoor.Dec Go.Proofs.YtgipnbeipfhekaaGreatDoor.Val Go.Proofs.YtgipnbeipfhekaaGreatDoor.Rd Go.Proofs.YtgipnbeipfhekaaGreatDoor.CarM Go.Proofs.YtgipnbeipfhekaaGreatDoor.LcA Go.Proofs.YtgipnbeipfhekaaGreatDoor.LcC
open Go.Proofs.YtgipnbeipfhekaaGreatDoor.Take (SBox set7)
set_option linter.unusedVariables false
theorem addTx (a b : List UInt8) (h : a.length + b.length ≤ 9223372036854775807) (w : World) : (Op.stringOp .add (tx a) (tx b)).run Tryz.prog w = .ok (.string (tx (a ++ b))) w := strAddS (by apply tx_ext; simp) (by rw [size_tx, size_tx]; exact h) w
theorem cyc_in {r : St} (hv : r.ok = true) : ∃ p q : Nat, preS r.K r.W r.T r.m r.f r.a r.s = (p : Int) ∧ perS r.K r.W r.T r.m r.f r.a r.s = (q : Int) ∧ p ≤ 200000 ∧ 1 ≤ q ∧ q ≤ 200000 := by
 obtain ⟨U, X, j, n, h⟩ := ApartM.way hv
 have h1 := h.cyc.1
 have h2 := h.small
 exact ⟨j, n - j, h.pre, by rw [h.per]; omega, by omega, by omega, by omega⟩
theorem dec_len {u : Nat} (h : u < 10 ^ 19) : (Lib.decDigits u).length ≤ 20 := by
 by_cases h0 : u = 0
 ·subst h0; decide +kernel
 ·rw [← rd_rev u (by omega), List.length_reverse]
  exact rd_len 20 u (by omega)
set_option maxHeartbeats 4000000 in
set_option maxRecDepth 100000 in
theorem use_cycle {L : Lb} {nm : ByteArray} {r : St} (hf : findR L nm = some r) (hv : r.ok = true) (hl : L.1.length = L.2.length) (hn : L.1.length ≤ 6) (v : Value) (w : World) (h : LabAt w v L) (ht : Tabs w) :
  Calls Tryz.prog 88 #[v, .string ⟨#[99, 121, 99, 108, 101]⟩, .string nm] w fun e w' => e = .returned (.tuple #[v, .string (tx (decI (preS r.K r.W r.T r.m r.f r.a r.s) ++ 32 :: decI (perS r.K r.W r.T r.m r.f r.a r.s))), .bool true]) ∧ Below w.heap.size w w' := by
 obtain ⟨p, q, hp1, hq1, hp2, _, hq2⟩ := cyc_in hv
 have HCy := Lib.hid (fun W => implCycle_any hv W)
 rw [hp1, hq1] at HCy ⊢
 unfold decI
 rw [Int.toNat_natCast, Int.toNat_natCast]
 have hd1 := dec_len (u := p) (by omega)
 have hd2 := dec_len (u := q) (by omega)
 have HD := Lib.hid (fun W (hb : Below w.heap.size w W) => And.intro (decimal_any p (by omega) W.heap.size W (ht.on hb).1 (Nat.le_refl _)) (decimal_any q (by omega) W.heap.size W (ht.on hb).1 (Nat.le_refl _)))
 have HA1 := Lib.hid (addTx (Lib.decDigits p) [32] (by simp; omega))
 have HA2 := Lib.hid (addTx (Lib.decDigits p ++ [32]) (Lib.decDigits q) (by simp; omega))
 rw [show Lib.decDigits p ++ [32] ++ Lib.decDigits q = Lib.decDigits p ++ 32 :: Lib.decDigits q by simp] at HA2
 have hv0 := h
 obtain ⟨A, c, A', c', rfl, hx, hy, _⟩ := h
 obtain ⟨W2, hW2⟩ : ∃ W2, W2 = (w.alloc (.cells #[.slice A L.1.length c, .slice A' L.2.length c'] 53)).alloc (.cells #[.slice none 0 0, .slice none 0 0] 53) := ⟨_, rfl⟩
 have b2 : Below w.heap.size w W2 := by rw [hW2]; exact ((Below.refl _ _).alloc (Nat.le_refl _) _).alloc (by simp) _
 have KL : Hid (Blk.Blk W2 w.heap.size 53 #[.slice A L.1.length c, .slice A' L.2.length c']) := Lib.hid (by rw [hW2]; exact (Blk.Blk.new w _ _).alloc _)
 have KR : Hid (Blk.Blk W2 (w.heap.size + 1) 53 #[.slice none 0 0, .slice none 0 0]) := Lib.hid (by rw [hW2]; exact Blk.Blk.newAt _ _ (by simp))
 have HF := Lib.hid (find_ex L (.agg #[.slice A L.1.length c, .slice A' L.2.length c']) nm W2 (hv0.below b2) hl hn)
 have HB := Lib.hid b2
 have HW := Lib.hid hW2
 rw [hf] at HF
 clear hv hv0 hx hy hW2 b2 ht hl hf hp1 hq1 hd1 hd2
 generalize tx (Lib.decDigits p ++ 32 :: Lib.decDigits q) = t3 at *
 generalize tx (Lib.decDigits p ++ [32]) = t2 at *
 generalize tx (Lib.decDigits p) = t1 at *
 generalize tx (Lib.decDigits q) = t0 at *
 obtain ⟨K, W, T, m, f, a, s⟩ := r
 dsimp only at HCy HF
 go_enter Tryz.func88, Tryz.ntmps88
 go_wp2_with fail
 rw [← HW.out]
 refine HF.out.mono ?_
 rintro e w1 ⟨r0, rfl, hr0, b1⟩
 obtain rfl := hr0 _ rfl
 have KL1 := Lib.hid (KL.out.belowS b1)
 have KR1 := Lib.hid (KR.out.belowS b1)
 have HB1 := Lib.hid (Base.Below.nextA HB.out b1)
 clear b1 KL KR HB HF HW hr0
 unfold St.val
 dsimp only
 obtain ⟨W3, hW3⟩ : ∃ W3, W3 = w1.alloc (.cells #[.int .i64 K, .int .i64 W, .int .i64 T, .int .i64 m, .int .i64 f, .int .i64 a, .int .i64 s] 29) := ⟨_, rfl⟩
 have b3 : Below w1.heap.size w1 W3 := by rw [hW3]; exact (Below.refl _ _).alloc (Nat.le_refl _) _
 have HW3 := Lib.hid hW3
 have KL3 := Lib.hid (KL1.out.belowS b3)
 have KR3 := Lib.hid (KR1.out.belowS b3)
 have HB3 := Lib.hid (Base.Below.nextA HB1.out b3)
 clear b3 hW3 KL1 KR1 HB1
 go_wp2_with fail
 rw [← HW3.out]
 refine (HCy.out W3).mono ?_
 rintro e w4 ⟨rfl, b4⟩
 have KL := Lib.hid (KL3.out.belowS b4)
 have KR := Lib.hid (KR3.out.belowS b4)
 have HB4 := Lib.hid (Base.Below.nextA HB3.out b4)
 have HSZ : Hid (w.heap.size + 1 ≤ w4.heap.size) := Lib.hid (Nat.le_of_lt KR.out.lt)
 have HEV := Lib.hid (RelR.evBox_ok (w.heap.size + 1) (w.heap.size + 1) 53 #[.slice none 0 0, .slice none 0 0] #[.slice A L.1.length c, .slice A' L.2.length c'])
 clear b4 KL3 KR3 HB3 HCy HW3
 go_wp2_with fail
 refine RelR.wp_region_rel HEV.out 8 (by kernel_rfl) (by kernel_rfl) (fun F hF => ?_)
 simp only [List.take_succ_cons, List.take_zero, List.drop_succ_cons, List.drop_zero, Rel.putL] at hF ⊢
 have HF := Lib.hid hF
 clear hF
 have uv := @Rel.upon_value Tryz.prog
 have ue := @Rel.upon_enter Tryz.prog
 have us := @RelR.upon_skip Tryz.prog
 apply RelR.rel_pure HEV.out
 apply Exists.intro
 refine ⟨fun vs wq hq hdp R hR => ?_, ?_⟩
 ·(rw [HF.out, Rel.stepAt_eq]; clear hdp; have x0 := (KL.out.below hq.1 (Nat.lt_succ_self _)).at 0 (v := .slice A L.1.length c) rfl; have x1 := (KL.out.below hq.1 (Nat.lt_succ_self _)).at 1 (v := .slice A' L.2.length c') rfl; go_simp; exact hR)
 apply RelR.rel_pure HEV.out
 apply Exists.intro
 refine ⟨fun vs wq hq hdp R hR => ?_, ?_⟩
 ·(rw [HF.out, Rel.stepAt_eq]; clear hdp; skip; go_simp; exact hR)
 apply RelR.rel_same
 apply Exists.intro
 refine ⟨fun vs wq hq hdp => ?_, ?_⟩
 ·(rw [HF.out, Rel.stepAt_eq]; have qd1 : vs 1 = _ := Rel.dep hdp 1 (by kernel_rfl); clear hdp; skip; go_simp; refine (HD.out wq (HB4.out.trans (hq.1.mono (Nat.le_succ _)))).1.mono ?_; rintro e w7 ⟨rfl, hb⟩; exact ⟨_, rfl, rfl, RelR.evBox_of (Nat.le_trans HSZ.out hq.1.size) hb⟩)
 apply RelR.rel_pure HEV.out
 apply Exists.intro
 refine ⟨fun vs wq hq hdp R hR => ?_, ?_⟩
 ·(rw [HF.out, Rel.stepAt_eq]; have qd2 : vs 2 = _ := Rel.dep hdp 2 (by kernel_rfl); clear hdp; have ha := HA1.out; go_simp; exact hR)
 apply RelR.rel_pure HEV.out
 apply Exists.intro
 refine ⟨fun vs wq hq hdp R hR => ?_, ?_⟩
 ·(rw [HF.out, Rel.stepAt_eq]; clear hdp; skip; go_simp; exact hR)
 apply RelR.rel_same
 apply Exists.intro
 refine ⟨fun vs wq hq hdp => ?_, ?_⟩
 ·(rw [HF.out, Rel.stepAt_eq]; have qd4 : vs 4 = _ := Rel.dep hdp 4 (by kernel_rfl); clear hdp; skip; go_simp; refine (HD.out wq (HB4.out.trans (hq.1.mono (Nat.le_succ _)))).2.mono ?_; rintro e w7 ⟨rfl, hb⟩; exact ⟨_, rfl, rfl, RelR.evBox_of (Nat.le_trans HSZ.out hq.1.size) hb⟩)
 apply RelR.rel_pure HEV.out
 apply Exists.intro
 refine ⟨fun vs wq hq hdp R hR => ?_, ?_⟩
 ·(rw [HF.out, Rel.stepAt_eq]; have qd3 : vs 3 = _ := Rel.dep hdp 3 (by kernel_rfl); have qd5 : vs 5 = _ := Rel.dep hdp 5 (by kernel_rfl); clear hdp; have ha := HA2.out; go_simp; exact hR)
 refine RelR.rel_law (S := fun _ w' => Blk.Blk w' (w.heap.size + 1) 53 #[.slice A L.1.length c, .slice A' L.2.length c']) (RelR.evBox_mono _ _ _ _ _) (fun vs wq hq hdp => ?_) ?_
 ·(rw [HF.out, Rel.stepAt_eq]; have qd0 : vs 0 = _ := Rel.dep hdp 0 (by kernel_rfl); clear hdp; obtain ⟨u0, u1, p0, p1, p2, p3, p4, p5⟩ := RelR.evBox_put hq KR.out (Nat.le_refl _); have HPP := Lib.hid (And.intro p4 p5); clear p4 p5; go_simp; exact HPP.out)
 refine RelR.rel_end (fun vs wq hq hall => ?_)
 rw [HF.out]
 have qe0 : vs 0 = _ := Rel.fin hall 0 (by decide)
 have qe1 : vs 1 = _ := Rel.fin hall 1 (by decide)
 have qe2 : vs 2 = _ := Rel.fin hall 2 (by decide)
 have qe3 : vs 3 = _ := Rel.fin hall 3 (by decide)
 have qe4 : vs 4 = _ := Rel.fin hall 4 (by decide)
 have qe5 : vs 5 = _ := Rel.fin hall 5 (by decide)
 have qe6 : vs 6 = _ := Rel.fin hall 6 (by decide)
 have qe7 : Blk.Blk wq _ _ _ := Rel.fin hall 7 (by decide)
 clear hall HF uv ue us
 have k0 := qe7.at 0 (v := .slice A L.1.length c) rfl
 have k1 := qe7.at 1 (v := .slice A' L.2.length c') rfl
 have HFIN := Lib.hid (HB4.out.trans (hq.1.mono (Nat.le_succ _)))
 clear hq qe0 qe1 qe2 qe3 qe4 qe5 qe7
 go_wp2
 refine bodyPost_ret (v := .tuple #[.agg #[.slice A L.1.length c, .slice A' L.2.length c'], .string t3, .bool true]) (by simp [results, Tryz.results88, go_sem, k0, k1]) rfl ?_
 exact ⟨rfl, HFIN.out⟩
end Go.Proofs.YtgipnbeipfhekaaGreatDoor.LcG
namespace Go.Proofs.YtgipnbeipfhekaaGreatDoor.Face
open Go.RowKit Go.Proofs.YtgipnbeipfhekaaGreatDoor Go.Proofs.YtgipnbeipfhekaaGreatDoor.Base Go.Proofs.YtgipnbeipfhekaaGreatDoor.Mem Go.Proofs.YtgipnbeipfhekaaGreatDoor.Reg Go.Proofs.YtgipnbeipfhekaaGreatDoor.Str Go.Proofs.YtgipnbeipfhekaaGreatDoor.Take Go.Proofs.YtgipnbeipfhekaaGreatDoor.Skip Go.Proofs.YtgipnbeipfhekaaGreatDoor.Dice
set_option linter.unusedVariables false
set_option maxHeartbeats 2000000 in
set_option maxRecDepth 100000 in
theorem implFaces_any (K W T m f a s n c : Int) (w : World) : Calls Tryz.prog 13 #[.agg #[.int .i64 K, .int .i64 W, .int .i64 T, .int .i64 m, .int .i64 f, .int .i64 a, .int .i64 s], .int .i64 n, .int .i64 c] w (FsRet K W T m f a (facesR K W T m f a s n c) w) := by
 obtain ⟨W1, hW1, S, R, B⟩ := two w K W T m f a s
 have HI := Lib.hid (validStream_any K W T m f a s W1)
 have HN := Lib.hid (fun w => inRange_any n 1 16 w)
 have HC := Lib.hid (fun w => inRange_any c 0 40 w)
 have HZ := Lib.hid (show W1.heap.size = w.heap.size + 2 by rw [hW1]; simp)
 have HW := Lib.hid hW1
 have HS := Lib.hid S
 have HR := Lib.hid R
 have HB1 := Lib.hid B
 clear hW1 S R B
 cases hB : streamB K W T m f a s with
 | false =>
  rw [hB] at HI
  have HNo := Lib.hid (facesR_no (K := K) (W := W) (T := T) (m := m) (f := f) (a := a) (s := s) (n := n) (c := c) (by rw [hB]; rfl))
  clear hB
  go_enter Tryz.func13, Tryz.ntmps13
  go_wp2_with fail
  rw [← HW.out]
  refine HI.out.mono ?_
  rintro e w1 ⟨rfl, b1⟩
  have RZ := HR.out.below b1 HR.out.lt
  have BB := Lib.hid (HB1.out.trans (b1.mono HB1.out.size))
  clear b1
  have d0 := (RZ).c0; have d1 := (RZ).c1; have d2 := (RZ).c2; have d3 := (RZ).c3; have d4 := (RZ).c4; have d5 := (RZ).c5; have d6 := (RZ).c6
  have g0 := (RZ).frz 0; have g1 := (RZ).frz 1; have g2 := (RZ).frz 2; have g3 := (RZ).frz 3; have g4 := (RZ).frz 4; have g5 := (RZ).frz 5; have g6 := (RZ).frz 6
  have S8 := RZ.set7 0 0 0 0 0 0 0
  have p0 := (S8).c0; have p1 := (S8).c1; have p2 := (S8).c2; have p3 := (S8).c3; have p4 := (S8).c4; have p5 := (S8).c5; have p6 := (S8).c6
  simp only [set7] at p0 p1 p2 p3 p4 p5 p6
  have HBN := Lib.hid (below_set7 (b := w.heap.size + 1) BB.out (Nat.le_succ _) (BB.out).size 0 0 0 0 0 0 0)
  clear S8 RZ
  go_wp2
  exact bodyPost_ret (v := .tuple #[.slice none 0 0, .agg #[.int .i64 0, .int .i64 0, .int .i64 0, .int .i64 0, .int .i64 0, .int .i64 0, .int .i64 0], .bool false]) (by simp [results, Tryz.results13, go_sem, p0, p1, p2, p3, p4, p5, p6]) rfl (FsRet.no HNo.out rfl HBN.out)
 | true =>
  rw [hB] at HI
  cases hN : inR n 1 16 with
  | false =>
   rw [hN] at HN
   have HNo := Lib.hid (facesR_no (K := K) (W := W) (T := T) (m := m) (f := f) (a := a) (s := s) (n := n) (c := c) (by rw [hB, hN]; rfl))
   clear hB hN
   go_enter Tryz.func13, Tryz.ntmps13
   go_wp2_with fail
   rw [← HW.out]
   refine HI.out.mono ?_
   rintro e w1 ⟨rfl, b1⟩
   have RZ := HR.out.below b1 HR.out.lt
   have BB := Lib.hid (HB1.out.trans (b1.mono HB1.out.size))
   clear b1
   go_wp2_with fail
   refine (HN.out _).mono ?_
   rintro e w' ⟨rfl, rfl⟩
   have d0 := (RZ).c0; have d1 := (RZ).c1; have d2 := (RZ).c2; have d3 := (RZ).c3; have d4 := (RZ).c4; have d5 := (RZ).c5; have d6 := (RZ).c6
   have g0 := (RZ).frz 0; have g1 := (RZ).frz 1; have g2 := (RZ).frz 2; have g3 := (RZ).frz 3; have g4 := (RZ).frz 4; have g5 := (RZ).frz 5; have g6 := (RZ).frz 6
   have S8 := RZ.set7 0 0 0 0 0 0 0
   have p0 := (S8).c0; have p1 := (S8).c1; have p2 := (S8).c2; have p3 := (S8).c3; have p4 := (S8).c4; have p5 := (S8).c5; have p6 := (S8).c6
   simp only [set7] at p0 p1 p2 p3 p4 p5 p6
   have HBN := Lib.hid (below_set7 (b := w.heap.size + 1) BB.out (Nat.le_succ _) (BB.out).size 0 0 0 0 0 0 0)
   clear S8 RZ
   go_wp2
   exact bodyPost_ret (v := .tuple #[.slice none 0 0, .agg #[.int .i64 0, .int .i64 0, .int .i64 0, .int .i64 0, .int .i64 0, .int .i64 0, .int .i64 0], .bool false]) (by simp [results, Tryz.results13, go_sem, p0, p1, p2, p3, p4, p5, p6]) rfl (FsRet.no HNo.out rfl HBN.out)
  | true =>
   rw [hN] at HN
   cases hC : inR c 0 40 with
   | false =>
    rw [hC] at HC
    have HNo := Lib.hid (facesR_no (K := K) (W := W) (T := T) (m := m) (f := f) (a := a) (s := s) (n := n) (c := c) (by rw [hB, hN, hC]; rfl))
    clear hB hN hC
    go_enter Tryz.func13, Tryz.ntmps13
    go_wp2_with fail
    rw [← HW.out]
    refine HI.out.mono ?_
    rintro e w1 ⟨rfl, b1⟩
    have RZ := HR.out.below b1 HR.out.lt
    have BB := Lib.hid (HB1.out.trans (b1.mono HB1.out.size))
    clear b1
    go_wp2_with fail
    refine (HN.out _).mono ?_
    rintro e w' ⟨rfl, rfl⟩
    go_wp2_with fail
    refine (HC.out _).mono ?_
    rintro e w' ⟨rfl, rfl⟩
    have d0 := (RZ).c0; have d1 := (RZ).c1; have d2 := (RZ).c2; have d3 := (RZ).c3; have d4 := (RZ).c4; have d5 := (RZ).c5; have d6 := (RZ).c6
    have g0 := (RZ).frz 0; have g1 := (RZ).frz 1; have g2 := (RZ).frz 2; have g3 := (RZ).frz 3; have g4 := (RZ).frz 4; have g5 := (RZ).frz 5; have g6 := (RZ).frz 6
    have S8 := RZ.set7 0 0 0 0 0 0 0
    have p0 := (S8).c0; have p1 := (S8).c1; have p2 := (S8).c2; have p3 := (S8).c3; have p4 := (S8).c4; have p5 := (S8).c5; have p6 := (S8).c6
    simp only [set7] at p0 p1 p2 p3 p4 p5 p6
    have HBN := Lib.hid (below_set7 (b := w.heap.size + 1) BB.out (Nat.le_succ _) (BB.out).size 0 0 0 0 0 0 0)
    clear S8 RZ
    go_wp2
    exact bodyPost_ret (v := .tuple #[.slice none 0 0, .agg #[.int .i64 0, .int .i64 0, .int .i64 0, .int .i64 0, .int .i64 0, .int .i64 0, .int .i64 0], .bool false]) (by simp [results, Tryz.results13, go_sem, p0, p1, p2, p3, p4, p5, p6]) rfl (FsRet.no HNo.out rfl HBN.out)
   | true =>
    obtain ⟨n1, n2⟩ := inR_true hN
    obtain ⟨c1, c2⟩ := inR_true hC
    obtain ⟨N, rfl⟩ := Int.eq_ofNat_of_zero_le (show 0 ≤ n by omega)
    obtain ⟨C, rfl⟩ := Int.eq_ofNat_of_zero_le c1
    rw [facesR_yes (show 0 < N by omega) (by rw [hB, hN, hC]; rfl)]
    exact implFaces_yes hB N C (by omega) (by omega) (by omega) w
end Go.Proofs.YtgipnbeipfhekaaGreatDoor.Face
namespace Go.Proofs.YtgipnbeipfhekaaGreatDoor.Ratio
open Go.RowKit Go.Proofs.YtgipnbeipfhekaaGreatDoor Go.Proofs.YtgipnbeipfhekaaGreatDoor.Base Go.Proofs.YtgipnbeipfhekaaGreatDoor.Mem Go.Proofs.YtgipnbeipfhekaaGreatDoor.NatM Go.Proofs.YtgipnbeipfhekaaGreatDoor.Nat32 Go.Proofs.YtgipnbeipfhekaaGreatDoor.RatM
open Go.Proofs.YtgipnbeipfhekaaGreatDoor.Inv (natOf natOf_eq len_pos Rat3 not_slice not_bool frz)
set_option linter.unusedVariables false
theorem rt_store {w w1 : World} {b p q : Nat} (s : Bool) {b0 : Bool} {a1 a2 : Option Addr} {n1 k1 n2 k2 : Nat} {A1 A2 : Option Addr} {c1 c2 : Nat} (hr : Rat3 w1 b (.bool b0) (.slice a1 n1 k1) (.slice a2 n2 k2)) (h1 : RdU w1 w1.heap.size A1 (natL p)) (h2 : RdU w1 w1.heap.size A2 (natL q))
  (hb : Below w.heap.size w w1) (hle : w.heap.size ≤ b) :
  Rat3 (w1.setCell ⟨b, 0, none⟩ (.bool s)) b (.bool s) (.slice a1 n1 k1) (.slice a2 n2 k2) ∧
  Rat3 ((w1.setCell ⟨b, 0, none⟩ (.bool s)).setCell ⟨b, 1, none⟩ (.slice A1 (natL p).length c1)) b (.bool s) (.slice A1 (natL p).length c1) (.slice a2 n2 k2) ∧
  Rat3 (((w1.setCell ⟨b, 0, none⟩ (.bool s)).setCell ⟨b, 1, none⟩ (.slice A1 (natL p).length c1)).setCell ⟨b, 2, none⟩ (.slice A2 (natL q).length c2)) b (.bool s) (.slice A1 (natL p).length c1) (.slice A2 (natL q).length c2) ∧
  RtRet s p q w (.returned (.agg #[.bool s, .slice A1 (natL p).length c1, .slice A2 (natL q).length c2])) (((w1.setCell ⟨b, 0, none⟩ (.bool s)).setCell ⟨b, 1, none⟩ (.slice A1 (natL p).length c1)).setCell ⟨b, 2, none⟩ (.slice A2 (natL q).length c2)) := by
 have m6 := hr.set0 (.bool s)
 have m7 := m6.set1 (.slice A1 (natL p).length c1)
 have m8 := m7.set2 (.slice A2 (natL q).length c2)
 refine ⟨m6, m7, m8, A1, c1, A2, c2, rfl, ?_, ?_, ?_⟩
 ·simp only [World.size_setCell]
  exact ((h1.non hr.c0 (not_bool _) _).non m6.c1 (not_slice _ _ _) _).non m7.c2 (not_slice _ _ _) _
 ·simp only [World.size_setCell]
  exact ((h2.non hr.c0 (not_bool _) _).non m6.c1 (not_slice _ _ _) _).non m7.c2 (not_slice _ _ _) _
 ·exact ((hb.setCell hle _).setCell hle _).setCell hle _
set_option maxHeartbeats 1000000 in
theorem whole_any (n : Int) (hn : n.natAbs ≤ 1000000000000000000) (w : World) : Calls Tryz.prog 159 #[.int .i64 n] w (RtRet (decide (n < 0)) n.natAbs 1 w) := by
 obtain ⟨W0, hW0⟩ : ∃ W0, W0 = w.alloc (.cells #[.bool false, .slice none 0 0, .slice none 0 0] 147) := ⟨_, rfl⟩
 have hB0 : Below w.heap.size w W0 := by rw [hW0]; exact (Below.refl _ _).alloc (Nat.le_refl _) _
 have r1 : Rat3 W0 w.heap.size (.bool false) (.slice none 0 0) (.slice none 0 0) := by rw [hW0]; exact Rat3.new w _ _ _ _
 have hz0 : w.heap.size < W0.heap.size := by rw [hW0]; simp
 have HC := Lib.hid (ratioOf_any n 1 hn (by decide) (by decide) W0)
 rw [show (1 : Int).toNat = 1 from rfl] at HC
 generalize n.natAbs = m at *
 go_enter Tryz.func159, Tryz.ntmps159
 go_wp2_with fail
 rw [← hW0]
 refine HC.out.mono ?_
 rintro e w1 ⟨A1, c1, A2, c2, rfl, h1, h2, hb1⟩
 clear hW0 HC
 have q1 := r1.below hb1 hz0
 have hb := hB0.trans (hb1.mono hB0.size)
 clear r1 hb1 hB0 hz0
 obtain ⟨m6, m7, m8, HR⟩ := rt_store (decide (n < 0)) (c1 := c1) (c2 := c2) q1 h1 h2 hb (Nat.le_refl _)
 have HRH := Lib.hid HR
 clear HR
 obtain ⟨d0, d1, d2, df0, df1, df2⟩ := q1
 obtain ⟨m60, m61, m62, mf60, mf61, mf62⟩ := m6
 obtain ⟨m70, m71, m72, mf70, mf71, mf72⟩ := m7
 obtain ⟨m80, m81, m82, mf80, mf81, mf82⟩ := m8
 go_wp2
 refine bodyPost_ret (v := .agg #[.bool (decide (n < 0)), .slice A1 (natL m).length c1, .slice A2 (natL 1).length c2]) (by simp [results, Tryz.results159, go_sem, m80, m81, m82]) rfl HRH.out
set_option maxHeartbeats 1000000 in
theorem lowestG_zero (s : Bool) (A A' : Option Addr) (c n' c' : Nat) (w : World) : Calls Tryz.prog 197 #[.agg #[.bool s, .slice A 0 c, .slice A' n' c']] w (RtRet false 0 1 w) := by
 obtain ⟨W0, hW0⟩ : ∃ W0, W0 = (w.alloc (.cells #[.bool s, .slice A 0 c, .slice A' n' c'] 147)).alloc (.cells #[.bool false, .slice none 0 0, .slice none 0 0] 147) := ⟨_, rfl⟩
 have hB0 : Below w.heap.size w W0 := by rw [hW0]; exact ((Below.refl _ _).alloc (Nat.le_refl _) _).alloc (by simp) _
 have r1 : Rat3 W0 (w.heap.size + 1) (.bool false) (.slice none 0 0) (.slice none 0 0) := by
  rw [hW0]
  have := Rat3.new (w.alloc (.cells #[.bool s, .slice A 0 c, .slice A' n' c'] 147)) (.bool false) (.slice none 0 0) (.slice none 0 0) 147
  simpa using this
 have hz0 : w.heap.size + 1 < W0.heap.size := by rw [hW0]; simp
 have HC := Lib.hid (whole_any 0 (by decide) W0)
 rw [show decide ((0 : Int) < 0) = false from rfl, show (0 : Int).natAbs = 0 from rfl] at HC
 go_enter Tryz.func197, Tryz.ntmps197
 go_wp2_with fail
 rw [← hW0]
 refine HC.out.mono ?_
 rintro e w1 ⟨A1, c1, A2, c2, rfl, h1, h2, hb1⟩
 clear hW0 HC
 have q1 := r1.below hb1 hz0
 have hb := hB0.trans (hb1.mono hB0.size)
 clear r1 hb1 hB0 hz0
 obtain ⟨m6, m7, m8, HR⟩ := rt_store false (c1 := c1) (c2 := c2) q1 h1 h2 hb (Nat.le_succ _)
 have HRH := Lib.hid HR
 clear HR
 obtain ⟨d0, d1, d2, df0, df1, df2⟩ := q1
 obtain ⟨m60, m61, m62, mf60, mf61, mf62⟩ := m6
 obtain ⟨m70, m71, m72, mf70, mf71, mf72⟩ := m7
 obtain ⟨m80, m81, m82, mf80, mf81, mf82⟩ := m8
 go_wp2
 refine bodyPost_ret (v := .agg #[.bool false, .slice A1 (natL 0).length c1, .slice A2 (natL 1).length c2]) (by simp [results, Tryz.results197, go_sem, m80, m81, m82]) rfl HRH.out
def RV (q : Rat) (w : World) (e : Ending) (w' : World) : Prop := RtRet (decide (q < 0)) q.num.natAbs q.den w e w'
theorem RV.of_zero {w w' : World} {e : Ending} (h : RtRet false 0 1 w e w') : RV 0 w e w' := h
theorem RV.of_pos {s : Bool} {v u : Nat} {w w' : World} {e : Ending} (hv : 0 < v) (hu : 0 < u) (h : RtRet s (v / Nat.gcd v u) (u / Nat.gcd v u) w e w') : RV (qv s v u) w e w' := by
 obtain ⟨h1, h2⟩ := qv_num s (n := v) (d := u) (by omega)
 unfold RV
 rw [qv_neg (by omega) (by omega), h1, h2]
 exact h
theorem lowestG (s : Bool) (v u : Nat) (A A' : Option Addr) (c c' : Nat) (w : World) (hx : RdU w w.heap.size A (natL v)) (hy : RdU w w.heap.size A' (natL u)) (hv : (natL v).length ≤ 1000000) (hu : (natL u).length ≤ 1000000) (hu0 : 0 < u) :
  Calls Tryz.prog 197 #[.agg #[.bool s, .slice A (natL v).length c, .slice A' (natL u).length c']] w (RV (qv s v u) w) := by
 rcases Nat.eq_zero_or_pos v with rfl | hv0
 ·rw [natL_zero, List.length_nil, qv_zero]
  exact (lowestG_zero s A A' c _ c' w).mono fun e w' h => RV.of_zero h
 ·exact (lowestG_pos s v u A A' c c' w hx hy hv hu hv0 hu0).mono fun e w' h => RV.of_pos hv0 hu0 h
def szR (q : Rat) : Nat := (natL q.num.natAbs).length + (natL q.den).length
end Go.Proofs.YtgipnbeipfhekaaGreatDoor.Ratio
namespace Go.Proofs.YtgipnbeipfhekaaGreatDoor.Ratio
open Go.RowKit Go.Proofs.YtgipnbeipfhekaaGreatDoor Go.Proofs.YtgipnbeipfhekaaGreatDoor.Base Go.Proofs.YtgipnbeipfhekaaGreatDoor.Mem Go.Proofs.YtgipnbeipfhekaaGreatDoor.NatM Go.Proofs.YtgipnbeipfhekaaGreatDoor.Nat32 Go.Proofs.YtgipnbeipfhekaaGreatDoor.RatM
open Go.Proofs.YtgipnbeipfhekaaGreatDoor.Inv (natOf natOf_eq len_pos Rat3 not_slice not_bool frz)
set_option linter.unusedVariables false
theorem natL_mul_len (x y : Nat) : (natL (x * y)).length ≤ (natL x).length + (natL y).length := by
 refine natL_len_le ?_
 rw [Nat.pow_add]
 have h1 := val_lt _ (natL_ok x)
 have h2 := val_lt _ (natL_ok y)
 rw [natL_val] at h1 h2
 exact Nat.mul_lt_mul_of_lt_of_le h1 (Nat.le_of_lt h2) (Nat.pow_pos (by decide))
theorem natTimes (x y : Nat) (A A' : Option Addr) (c c' : Nat) (w : World) (hx : RdU w w.heap.size A (natL x)) (hy : RdU w w.heap.size A' (natL y)) (hl : (natL x).length ≤ 500000) (hl' : (natL y).length ≤ 500000) :
  Calls Tryz.prog 202 #[.slice A (natL x).length c, .slice A' (natL y).length c'] w (NRet (x * y) w) := by
 have := times_any A A' c c' w.heap.size w.heap.size (natL x) (natL y) w hx (Nat.le_refl _) hy (Nat.le_refl _) (natL_ok x) (natL_ok y) (by omega) (by omega)
 rw [natL_val, natL_val] at this
 exact this
def TF (w : World) (s s' : Bool) (v1 v2 v3 v4 : Value) (W : World) : Prop := Rat3 W w.heap.size (.bool s) v1 v2 ∧ Rat3 W (w.heap.size + 1) (.bool s') v3 v4 ∧ Rat3 W (w.heap.size + 1 + 1) (.bool false) (.slice none 0 0) (.slice none 0 0) ∧ Below w.heap.size w W ∧ w.heap.size + 3 ≤ W.heap.size
theorem TF.below {w W W' : World} {s s' : Bool} {v1 v2 v3 v4 : Value} (h : TF w s s' v1 v2 v3 v4 W) (hb : Below W.heap.size W W') : TF w s s' v1 v2 v3 v4 W' := by
 obtain ⟨h1, h2, h3, h4, h5⟩ := h
 exact ⟨h1.below hb (by omega), h2.below hb (by omega), h3.below hb (by omega), h4.trans (hb.mono (by omega)), by have := hb.size; omega⟩
theorem TF.start (w : World) (s s' : Bool) (v1 v2 v3 v4 : Value) :
  TF w s s' v1 v2 v3 v4 ((((w.alloc (.cells #[.bool s, v1, v2] 147)).alloc (.cells #[.bool s', v3, v4] 147)).alloc (.cells #[.bool false, .slice none 0 0, .slice none 0 0] 147)).drew) := by
 have r1 := Rat3.new w (.bool s) v1 v2 147
 have r2 := Rat3.new (w.alloc (.cells #[.bool s, v1, v2] 147)) (.bool s') v3 v4 147
 have r3 := Rat3.new ((w.alloc (.cells #[.bool s, v1, v2] 147)).alloc (.cells #[.bool s', v3, v4] 147)) (.bool false) (.slice none 0 0) (.slice none 0 0) 147
 simp only [World.size_alloc] at r2 r3
 have b2 : Below (w.heap.size + 1) (w.alloc (.cells #[.bool s, v1, v2] 147)) ((((w.alloc (.cells #[.bool s, v1, v2] 147)).alloc (.cells #[.bool s', v3, v4] 147)).alloc (.cells #[.bool false, .slice none 0 0, .slice none 0 0] 147)).drew) := (((Below.refl _ _).alloc (by simp) _).alloc (by simp) _).drew
 have b3 : Below (w.heap.size + 1 + 1) ((w.alloc (.cells #[.bool s, v1, v2] 147)).alloc (.cells #[.bool s', v3, v4] 147)) ((((w.alloc (.cells #[.bool s, v1, v2] 147)).alloc (.cells #[.bool s', v3, v4] 147)).alloc (.cells #[.bool false, .slice none 0 0, .slice none 0 0] 147)).drew) := ((Below.refl _ _).alloc (by simp) _).drew
 refine ⟨r1.below b2 (Nat.lt_succ_self _), r2.below b3 (Nat.lt_succ_self _), r3.below ((Below.refl (w.heap.size + 1 + 1 + 1) _).drew) (Nat.lt_succ_self _), ?_, by simp⟩
 exact ((((Below.refl _ _).alloc (Nat.le_refl _) _).alloc (by simp) _).alloc (by simp; omega) _).drew
end Go.Proofs.YtgipnbeipfhekaaGreatDoor.Ratio

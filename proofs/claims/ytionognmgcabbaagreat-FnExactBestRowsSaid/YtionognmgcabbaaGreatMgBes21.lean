/- Lists of wide fractions that lie in a list of lists, each appended to. -/
import Derived.Test.YtionognmgcabbaaGreatMgBes16
import Derived.Test.YtionognmgcabbaaGreatMgBes19
import Derived.Test.YtionognmgcabbaaGreatMgBes09
import Derived.Deep.Cut
import Derived.Deep.RegionWith
import Derived.Deep.AppendLies
import Derived.Deep.RegionLaw
import Derived.Test.YtionognmgcabbaaGreatMgBes20
import Derived.Test.YtionognmgcabbaaGreatMgBes10
import Derived.Test.YtionognmgcabbaaGreatMgBes06
import Derived.Test.YtionognmgcabbaaGreatMgBes12
namespace Go.Proofs.YtionognmgcabbaaGreat.Wide
open Go.RowKit Go.Proofs.YtionognmgcabbaaGreat Go.Proofs.YtionognmgcabbaaGreat.Base Go.Proofs.YtionognmgcabbaaGreat.Mem Go.Proofs.YtionognmgcabbaaGreat.RatM Go.Proofs.YtionognmgcabbaaGreat.BigM Go.Proofs.YtionognmgcabbaaGreat.Big Go.Proofs.YtionognmgcabbaaGreat.Fine Go.Proofs.YtionognmgcabbaaGreat.Blk Go.Proofs.YtionognmgcabbaaGreat.GaussM
set_option linter.unusedVariables false
/-- the N cells of block g are slices; the list of slice y has the rationals ls y -/
structure LW (w : World) (g N B m : Nat) (ls : Nat → List Rat) (vs : Nat → Value) : Prop where
  blk : ∃ cs, Blk w g 93 cs ∧ cs.size = N ∧ ∀ y, y < N → cs[y]? = some (vs y)
  els : ∀ y, y < N → ∃ cc, OwnW w B (vs y) (ls y).length (fun i => (ls y).getD i 0) m cc
  apart : ∀ y z, y < N → z < N → y ≠ z → (vs y).ownBlock = none ∨ (vs y).ownBlock ≠ (vs z).ownBlock
theorem LW.below {w w' : World} {g N B m : Nat} {ls : Nat → List Rat} {vs : Nat → Value} (h : LW w g N B m ls vs) (hb : Below w.heap.size w w') : LW w' g N B m ls vs := by
  obtain ⟨cs, K, hz, hc⟩ := h.blk
  exact ⟨⟨cs, K.belowS hb, hz, hc⟩, fun y hy => by
    obtain ⟨cc, ho⟩ := h.els y hy
    exact ⟨cc, ho.below hb⟩, h.apart⟩
theorem LW.lt {w : World} {g N B m : Nat} {ls : Nat → List Rat} {vs : Nat → Value} (h : LW w g N B m ls vs) : g < w.heap.size := by
  obtain ⟨cs, K, _⟩ := h.blk
  exact K.lt
theorem LW.cell {w : World} {g N B m : Nat} {ls : Nat → List Rat} {vs : Nat → Value} (h : LW w g N B m ls vs) {y : Nat} (hy : y < N) : w.cell? ⟨g, y, none⟩ = some (vs y) := by
  obtain ⟨cs, K, hz, hc⟩ := h.blk
  exact K.at y (hc y hy)
theorem LW.frz {w : World} {g N B m : Nat} {ls : Nat → List Rat} {vs : Nat → Value} (h : LW w g N B m ls vs) (y : Nat) : w.frozen? ⟨g, y, none⟩ = false := by
  obtain ⟨cs, K, _⟩ := h.blk
  exact K.frz y
/-- a row of wides is as it was behind the growth of another row of wides -/
theorem OwnW.kept {w w' : World} {B B' n n' m : Nat} {v v' : Value} {f : Nat → Rat} {cs cs' : List Value} (h : OwnW w B v n f m cs) (h' : w.ownsRow B' 81 6 v' n' cs') (hne : v.ownBlock = none ∨ v.ownBlock ≠ v'.ownBlock) (hg : w.grownBy w' v'.ownBlock) : OwnW w' B v n f m cs :=
  ⟨h.row.kept hg hne, fun i hi => by
    obtain ⟨s, A1, k1, c1, A2, k2, c2, fine, fn, fd, n, d, e, hp⟩ := h.els i hi
    exact ⟨s, A1, k1, c1, A2, k2, c2, fine, fn, fd, n, d, e, hp.kept h' (by decide) hg⟩⟩
/-- a row of wides is as it was behind a store into a block of another type -/
theorem OwnW.store {w : World} {B n m b i : Nat} {v u : Value} {f : Nat → Rat} {cs : List Value} {t : TypeId} {ca : Array Value} (h : OwnW w B v n f m cs) (K : Blk w b t ca) (ht : t ≠ 2) (ht2 : t ≠ 81) : OwnW (w.setCell ⟨b, i, none⟩ u) B v n f m cs := by
  refine ⟨?_, fun i hi => ?_⟩
  · refine World.ownsRow.kept h.row (Src.grown_setCell w ⟨b, i, none⟩ u) ?_
    cases hb : v.ownBlock with
    | none => exact .inl rfl
    | some g =>
      refine .inr fun e => ?_
      have e : g = b := Option.some.inj e
      subst e
      obtain ⟨cur, h1, _⟩ := ownsRow_block h.row hb
      unfold Blk at K
      rw [K] at h1
      injection h1 with h1
      injection h1 with _ h3
      exact ht2 h3
  · obtain ⟨s, A1, k1, c1, A2, k2, c2, fine, fn, fd, n, d, e, hp⟩ := h.els i hi
    exact ⟨s, A1, k1, c1, A2, k2, c2, fine, fn, fd, n, d, e, hp.store K ht⟩
/-- an element is pushed to list k -/
theorem LW.push {wr w1 w2 : World} {g N B m k : Nat} {ls : Nat → List Rat} {vs : Nat → Value} {v' : Value} {q : Rat} {s fine : Bool} {A1 A2 : Option Addr} {k1 c1 k2 c2 nn dd : Nat} {fn fd : Int} {ca : Array Value} {t : TypeId} (h : LW wr g N B m ls vs) (hk : k < N) (h1 : Below wr.heap.size wr w1)
    (hp : Parts w1 q m s (.slice A1 k1 c1) (.slice A2 k2 c2) fine fn fd nn dd) {cc : List Value} (hc : OwnW wr B (vs k) (ls k).length (fun i => (ls k).getD i 0) m cc) (hown : w2.ownsRow B 81 6 v' ((ls k).length + 1) (cc ++ six s (.slice A1 k1 c1) (.slice A2 k2 c2) fine fn fd)) (hg : (w1.alloc (.cells ca t)).grownBy w2 (vs k).ownBlock) (he : v'.ownBlock = (vs k).ownBlock ∨ v'.ownBlock = some (w1.alloc (.cells ca t)).heap.size) :
    LW (w2.setCell ⟨g, k, none⟩ v') g N B m (fun y => if y = k then ls k ++ [q] else ls y) (fun y => if y = k then v' else vs y) := by
  obtain ⟨cs, K, hz, hcs⟩ := h.blk
  have hb2 : Below wr.heap.size wr (w1.alloc (.cells ca t)) := h1.alloc h1.size _
  have K1 := K.belowS hb2
  have hck := (hc.below h1).below ((Below.refl w1.heap.size w1).alloc (Nat.le_refl _) (.cells ca t))
  have hgne : (vs k).ownBlock ≠ some g := fun e => by
    obtain ⟨cur, e1, _⟩ := ownsRow_block hck.row e
    unfold Blk at K1
    rw [K1] at e1
    injection e1 with e1
    injection e1 with _ e3
    exact absurd e3 (by decide)
  have K2 : Blk w2 g 93 cs := K1.kept hg hgne
  have hpush := OwnW.push (f := fun i => (ls k ++ [q]).getD i 0) (n := (ls k).length) (hc.congr (fun i hi => by simp only [List.getD_eq_getElem?_getD]; rw [List.getElem?_append_left hi])) h1 (by
    have : (ls k ++ [q]).getD (ls k).length 0 = q := by simp [List.getD_eq_getElem?_getD]
    show Parts w1 ((ls k ++ [q]).getD (ls k).length 0) m _ _ _ _ _ _ _ _
    rw [this]; exact hp) hown hg
  refine ⟨⟨_, K2.set k v', by simp [hz], fun y hy => ?_⟩, fun y hy => ?_, fun y z hy hzz hne => ?_⟩
  · by_cases e : y = k
    · subst e; rw [Array.getElem?_setIfInBounds_self_of_lt (by omega), if_pos rfl]
    · rw [Array.getElem?_setIfInBounds_ne (fun h => e h.symm), if_neg e]; exact hcs y hy
  · by_cases e : y = k
    · subst e
      refine ⟨cc ++ six s (.slice A1 k1 c1) (.slice A2 k2 c2) fine fn fd, ?_⟩
      simp only [if_true]
      rw [List.length_append, List.length_singleton]
      exact hpush.store K2 (by decide) (by decide)
    · obtain ⟨cy, hy'⟩ := h.els y hy
      refine ⟨cy, ?_⟩
      simp only [e, if_false]
      exact (OwnW.kept (hy'.below hb2) hck.row (h.apart y k hy hk e) hg).store K2 (by decide) (by decide)
  · have hsz : ∀ y, y < N → (vs y).ownBlock ≠ some (w1.alloc (.cells ca t)).heap.size := fun y hy e => by
      obtain ⟨cy, hy'⟩ := h.els y hy
      obtain ⟨_, _, _, hlt⟩ := ownsRow_block hy'.row e
      have := hb2.size
      omega
    by_cases e : y = k
    · have ez : z ≠ k := fun h => hne (e.trans h.symm)
      simp only [e, ez, if_true, if_false]
      subst e
      rcases he with he | he
      · rw [he]; exact h.apart _ z hy hzz (fun h => ez h.symm)
      · rw [he]; exact .inr fun h => hsz z hzz h.symm
    · by_cases ez : z = k
      · simp only [e, ez, if_true, if_false]
        subst ez
        rcases he with he | he
        · rw [he]; exact h.apart y _ hy hzz e
        · rw [he]; exact .inr fun h => hsz y hy h
      · simp only [e, ez, if_false]; exact h.apart y z hy hzz hne
/-- the list as it is made -/
theorem LW.made (w : World) (N B m : Nat) : LW (w.alloc (.cells (madeCells (Value.slice none 0 0).cells (N * 1)) 93)) w.heap.size N B m (fun _ => []) (fun _ => .slice none 0 0) := by
  refine ⟨⟨_, Blk.new w _ _, ?_, fun y hy => ?_⟩, fun y hy => ⟨[], OwnW.nil _ _ _ _⟩, fun y z _ _ _ => .inl rfl⟩
  · simp [madeCells]
  · simp [madeCells, hy]
    show (#[Value.slice none 0 0])[y % 1]! = Value.slice none 0 0
    rw [Nat.mod_one]
    rfl
end Go.Proofs.YtionognmgcabbaaGreat.Wide
/- The reference: what rows make of a source. -/
namespace Go.Proofs.YtionognmgcabbaaGreat.Wide
open Go.RowKit Go.Proofs.YtionognmgcabbaaGreat Go.Proofs.YtionognmgcabbaaGreat.Base Go.Proofs.YtionognmgcabbaaGreat.Mem Go.Proofs.YtionognmgcabbaaGreat.RatM Go.Proofs.YtionognmgcabbaaGreat.BigM Go.Proofs.YtionognmgcabbaaGreat.Big Go.Proofs.YtionognmgcabbaaGreat.Fine Go.Proofs.YtionognmgcabbaaGreat.Blk Go.Proofs.YtionognmgcabbaaGreat.GaussM Go.Proofs.YtionognmgcabbaaGreat.MemF Go.Proofs.YtionognmgcabbaaGreat.ChM Go.Proofs.YtionognmgcabbaaGreat.ExtM Go.Proofs.YtionognmgcabbaaGreat.RowN
set_option linter.unusedVariables false
theorem infoWs : (Tryz.prog.info? 93).map (fun i => (i.zero, i.size, i.bytes)) = some (some (.slice none 0 0), 1, 24) := by kernel_rfl
theorem run_makeWs (n : Nat) (hn : n ≤ 1048576) (w : World) : (Instr.makeSlice 117 (.int .i64 (n : Int)) (.int .i64 (n : Int))).run Tryz.prog w = .ok (.slice (some ⟨w.heap.size, 0, none⟩) n n) (w.alloc (.cells (madeCells (Value.slice none 0 0).cells (n * 1)) 93)) := by
  obtain ⟨i, hi, hzz⟩ := Option.map_eq_some_iff.1 infoWs
  simp only [Prod.mk.injEq] at hzz
  obtain ⟨hz, hs, hb⟩ := hzz
  have hr := run_make (P := Tryz.prog) w 117 93 i _ Tryz.underlying117 hi hz .i64 .i64 n n (by omega) (Int.le_refl _) (by rw [hb]; omega) (by omega)
  simp only [Int.toNat_natCast, hs] at hr
  exact hr
def LsRel (xs fs : List Int) (n N g : Nat) (w : World) (xv : Value) (wr : World) : Prop :=
  ∃ (i : Nat) (vs : Nat → Value), xv = .int .i64 (i : Int) ∧ i ≤ n ∧ Hid (LW wr g N w.heap.size 2 (fun y => sel xs fs y i) vs) ∧ Hid (Below w.heap.size w wr)
theorem sel_step {xs fs : List Int} {i k : Nat} (hk : rowK xs i xs.length = k) : (fun y => if y = k then sel xs fs k i ++ [fq fs i] else sel xs fs y i) = fun y => sel xs fs y (i + 1) := by
  funext y
  by_cases e : y = k
  · subst e; rw [if_pos rfl, sel_hit hk]
  · rw [if_neg e, sel_miss (fun h => e (h.symm.trans hk))]
/-- the sums of the lists -/
def XtRel (xs fs : List Int) (n N : Nat) (w : World) (ov jv : Value) (wr : World) : Prop :=
  ∃ (j : Nat) (cs : List Value), jv = .int .i64 (j : Int) ∧ j ≤ N ∧ Hid (OwnW wr w.heap.size ov j (exQ xs fs n) 50 cs) ∧ Hid (Below w.heap.size w wr)
theorem XtRel.next {xs fs : List Int} {n N j : Nat} {w wr w1 w2 : World} {v v' : Value} {cs : List Value} {s fine : Bool} {A1 A2 : Option Addr} {k1 c1 k2 c2 nn dd : Nat} {fn fd : Int} {ca : Array Value} {t : TypeId} (hj : j < N) (h : OwnW wr w.heap.size v j (exQ xs fs n) 50 cs) (hb : Below w.heap.size w wr) (h1 : Below wr.heap.size wr w1)
    (hp : Parts w1 (exQ xs fs n j) 50 s (.slice A1 k1 c1) (.slice A2 k2 c2) fine fn fd nn dd) (hown : w2.ownsRow w.heap.size 81 6 v' (j + 1) (cs ++ six s (.slice A1 k1 c1) (.slice A2 k2 c2) fine fn fd)) (hg : (w1.alloc (.cells ca t)).grownBy w2 v.ownBlock) : XtRel xs fs n N w v' (.int .i64 ((j : Int) + 1)) w2 := by
  have hb1 : Below wr.heap.size wr (w1.alloc (.cells ca t)) := h1.alloc h1.size _
  refine ⟨j + 1, _, by simp, hj, Lib.hid (h.push h1 hp hown hg), Lib.hid ?_⟩
  exact (hb.trans (hb1.mono hb.size)).trans (grown_below hg (fun g e => (ownsRow_block h.row e).choose_spec.2.1) (Nat.le_trans hb.size hb1.size))
/-- what is behind the append -/
theorem LW.after {wr w1 w2 : World} {g N B m k : Nat} {ls : Nat → List Rat} {vs : Nat → Value} {ca : Array Value} {t : TypeId} (h : LW wr g N B m ls vs) (hk : k < N) (h1 : Below wr.heap.size wr w1) (hg : (w1.alloc (.cells ca t)).grownBy w2 (vs k).ownBlock) : w2.cell? ⟨g, k, none⟩ = some (vs k) ∧ w2.frozen? ⟨g, k, none⟩ = false := by
  obtain ⟨cs, K, hz, hcs⟩ := h.blk
  have hb2 : Below wr.heap.size wr (w1.alloc (.cells ca t)) := h1.alloc h1.size _
  have K1 := K.belowS hb2
  obtain ⟨cc, hc⟩ := h.els k hk
  have hck := (hc.below h1).below ((Below.refl w1.heap.size w1).alloc (Nat.le_refl _) (.cells ca t))
  have hgne : (vs k).ownBlock ≠ some g := fun e => by
    obtain ⟨cur, e1, _⟩ := ownsRow_block hck.row e
    unfold Blk at K1
    rw [K1] at e1
    injection e1 with e1
    injection e1 with _ e3
    exact absurd e3 (by decide)
  have K2 : Blk w2 g 93 cs := K1.kept hg hgne
  exact ⟨K2.at k (hcs k hk), K2.frz k⟩
theorem LsRel.next {xs fs : List Int} {n N g i k : Nat} {w wr w1 w2 : World} {vs : Nat → Value} {s fine : Bool} {A1 A2 : Option Addr} {k1 c1 k2 c2 nn dd gg cap : Nat} {fn fd : Int} {ca : Array Value} {t : TypeId} {cc : List Value} (hi : i < n) (hg : w.heap.size ≤ g) (hb : Below w.heap.size w wr) (h : LW wr g N w.heap.size 2 (fun y => sel xs fs y i) vs) (hk : k < N) (hr : rowK xs i xs.length = k) (h1 : Below wr.heap.size wr w1)
    (hp : Parts w1 (fq fs i) 2 s (.slice A1 k1 c1) (.slice A2 k2 c2) fine fn fd nn dd) (hc : OwnW wr w.heap.size (vs k) (sel xs fs k i).length (fun j => (sel xs fs k i).getD j 0) 2 cc)
    (hown : w2.ownsRow w.heap.size 81 6 (.slice (some ⟨gg, 0, none⟩) ((sel xs fs k i).length + 1) cap) ((sel xs fs k i).length + 1) (cc ++ six s (.slice A1 k1 c1) (.slice A2 k2 c2) fine fn fd)) (hg2 : (w1.alloc (.cells ca t)).grownBy w2 (vs k).ownBlock) (he : (vs k).ownBlock = some gg ∨ gg = (w1.alloc (.cells ca t)).heap.size) :
    LsRel xs fs n N g w (.int .i64 ((i : Int) + 1)) (w2.setCell ⟨g, k, none⟩ (.slice (some ⟨gg, 0, none⟩) ((sel xs fs k i).length + 1) cap)) := by
  have hb1 : Below wr.heap.size wr (w1.alloc (.cells ca t)) := h1.alloc h1.size _
  have hpu := LW.push h hk h1 hp hc hown hg2 (he.imp (fun e => e.symm) (fun e => by rw [← e]; rfl))
  refine ⟨i + 1, _, by simp, hi, Lib.hid (by rw [← sel_step hr]; exact hpu), Lib.hid ?_⟩
  exact ((hb.trans (hb1.mono hb.size)).trans (grown_below hg2 (fun g e => (ownsRow_block hc.row e).choose_spec.2.1) (Nat.le_trans hb.size hb1.size))).setCell (p := ⟨g, k, none⟩) hg _
set_option maxHeartbeats 2000000 in
set_option maxRecDepth 100000 in
theorem extS_any {A A' : Option Addr} {c c' B B' n : Nat} {fs xs : List Int} (w : World) (hx : RdF w B A n fs) (hB : B ≤ w.heap.size) (hv : AllVF fs n) (hn : n ≤ 16) (hy : RdI w B' A' xs) (hB' : B' ≤ w.heap.size) (h1 : 1 ≤ xs.length) (h3 : xs.length ≤ 3) (hr : ∀ i, i < xs.length → 0 ≤ xs.getD i 0 ∧ xs.getD i 0 ≤ 15) :
    Calls Tryz.prog 122 #[.slice A' xs.length c', .slice A n c] w (WsRet (2 ^ xs.length) (exQ xs fs n) 50 w) := by
  have hN : 2 ^ xs.length ≤ 8 := Nat.pow_le_pow_right (n := 2) (by decide) h3
  have hN1 : 1 ≤ 2 ^ xs.length := Nat.pow_pos (by decide)
  have HK := Lib.hid (fun x => rowK_lt xs x xs.length h3)
  have hp : (2 : Int) ^ xs.length = ((2 ^ xs.length : Nat) : Int) := by simp
  have HX := Lib.hid (hx.more hB)
  have HY := Lib.hid (hy.more hB')
  have HV := Lib.hid hv
  have HR := Lib.hid hr
  clear hx hv hy hr
  generalize 2 ^ xs.length = N at *
  have hws : IntKind.i64.wrap ((2 : Int) ^ xs.length) = (N : Int) := by rw [hp, IntKind.wrap_i64]; omega
  have hw64 : wrap64 ((2 : Int) ^ xs.length) = (N : Int) := by rw [← hws, hp]; unfold wrap64; rw [IntKind.wrap_i64]
  have hmk := fun w => run_makeWs N (by omega) w
  obtain ⟨g, hg⟩ : ∃ g, g = w.heap.size := ⟨_, rfl⟩
  obtain ⟨iw, wi, wz0, wz1, wz2⟩ := info_parts infoW
  have H0 : Hid (LsRel xs fs n N g w (.int .i64 0) (w.alloc (.cells (madeCells #[.slice none 0 0] (N * 1)) 93))) := Lib.hid ⟨0, _, rfl, Nat.zero_le _, Lib.hid (by rw [hg]; exact LW.made w N w.heap.size 2), Lib.hid ((Below.refl _ _).alloc (Nat.le_refl _) _)⟩
  have HG := Lib.hid hg
  clear hp hg
  go_enter Tryz.func122, Tryz.ntmps122
  go_wp2
  rw [← HG.out]
  clear hmk hws hw64
  have hN1' : N * 1 = N := Nat.mul_one N
  rw [hN1'] at H0
  clear hN1'
  go_loopw [6] (fun xv wr => LsRel xs fs n N g w xv wr) (fun xv _ => n - (intOf xv).toNat)
  case atStart => exact H0.out
  case round =>
    obtain ⟨i, vs, rfl, hi, HL, HB⟩ := hrel
    clear H0
    by_cases hlt : i < n
    · go_wp2
      go_loopw [7, 8] (fun yv jv w2 => ∃ j : Nat, jv = .int .i64 (j : Int) ∧ j ≤ xs.length ∧ yv = .int .i64 ((rowK xs i j : Nat) : Int) ∧ w2 = wr) (fun _ jv _ => xs.length - (intOf jv).toNat)
      case atStart => exact ⟨0, rfl, Nat.zero_le _, rfl, rfl⟩
      case round =>
        obtain ⟨j, rfl, hj, rfl, rfl⟩ := hrel
        by_cases hjl : j < xs.length
        · obtain ⟨b, off, rfl, _, hc⟩ := (HY.out.below HB.out (Nat.le_refl _)) (by omega)
          have g1 := hc j hjl
          obtain ⟨r1, r2⟩ := HR.out j hjl
          have HK1 : Hid (rowK xs i (j + 1) = rowK xs i j ||| (PopM.par ((xs.getD j 0).toNat &&& i) <<< j)) := Lib.hid rfl
          have hk := rowK_lt xs i j (by omega)
          have hp8 : 2 ^ j ≤ 2 ^ 3 := Nat.pow_le_pow_right (by decide) (by omega)
          clear hc
          obtain ⟨k', hk'⟩ : ∃ k', k' = rowK xs i (j + 1) := ⟨_, rfl⟩
          rw [← hk'] at HK1
          have HK2 := Lib.hid hk'
          clear hk'
          generalize rowK xs i j = k at *
          generalize xs.getD j 0 = y at *
          obtain ⟨Y, rfl⟩ : ∃ Y : Nat, y = (Y : Int) := ⟨y.toNat, by omega⟩
          rw [Int.toNat_natCast, Nat.and_comm] at HK1
          have hpl := PopM.par_lt (i &&& Y)
          have hor := or_fin ⟨k, by omega⟩ ⟨PopM.par (i &&& Y), hpl⟩ ⟨j, by omega⟩
          replace hor : bits .or .i64 (k : Int) (wrap64 ((PopM.par (i &&& Y) : Int) * (2 : Int) ^ j)) = ((k ||| (PopM.par (i &&& Y) <<< j) : Nat) : Int) := hor
          rw [← HK1.out] at hor
          have HPA := Lib.hid (fun W => parS_any i Y (by omega) (by omega) W)
          go_wp2_with fail
          refine (HPA.out _).mono ?_
          rintro e w1 ⟨rfl, rfl⟩
          go_wp2
          go_roundw
          case rel => exact ⟨j + 1, by simp, hjl, by rw [← HK2.out], by first | trivial | rfl⟩
          case measure => simp [intOf]; omega
        · obtain rfl : j = xs.length := by omega
          obtain ⟨k, hk⟩ : ∃ k, k = rowK xs i xs.length := ⟨_, rfl⟩
          have hkN : k < N := by rw [hk]; exact HK.out i
          rw [← hk]
          have HKE := Lib.hid hk
          clear hk
          obtain ⟨b, off, rfl, hbl, g1, g2⟩ := (HX.out.below HB.out (Nat.le_refl _)).at hlt
          obtain ⟨cc, hcc⟩ := HL.out.els k hkN
          obtain ⟨A3, c3, hv3, _⟩ := hcc.form
          have hcell := HL.out.cell hkN
          rw [hv3] at hcell
          have HW := Lib.hid (fun W => wideOf_any (HV.out i hlt) W)
          have hfq : qf (fs.getD (2 * i) 0) (fs.getD (2 * i + 1) 0) = fq fs i := rfl
          rw [hfq] at HW
          have hsz := HB.out.size
          have hgw := HL.out.lt
          have hll := sel_len xs fs k i
          have HNX := Lib.hid (fun (w1 w2 : World) s fine A1 A2 k1 c1 k2 c2 nn dd gg cap fn fd ca t h1 hp hown hg2 he => LsRel.next (w1 := w1) (w2 := w2) (s := s) (fine := fine) (A1 := A1) (A2 := A2) (k1 := k1) (c1 := c1) (k2 := k2) (c2 := c2) (nn := nn) (dd := dd) (gg := gg) (cap := cap) (fn := fn) (fd := fd) (ca := ca) (t := t) hlt (Nat.le_of_eq HG.out.symm) HB.out HL.out hkN HKE.out.symm h1 hp hcc hown hg2 he)
          have HAF := Lib.hid (fun (w1 w2 : World) ca t h1 hg2 => LW.after (w1 := w1) (w2 := w2) (ca := ca) (t := t) HL.out hkN h1 hg2)
          have HOW := Lib.hid (fun (w1 : World) (h1 : Below wr.heap.size wr w1) => hv3 ▸ ownsRow_below hcc.row h1)
          rw [hv3] at HNX HAF
          clear hfq hcc hv3 HL HB hi
          generalize fs.getD (2 * i) 0 = x0 at *
          generalize fs.getD (2 * i + 1) 0 = x1 at *
          generalize fq fs i = q at *
          generalize hLL : (sel xs fs k i).length = L at *
          have HLL := Lib.hid hLL
          clear hLL
          have HSM := Lib.hid hll
          have hi16 : L ≤ 16 := by omega
          go_wp2
          go_region_law (first
            | (go_simp; go_at_call 67; refine (HW.out _).mono ?_; rintro e w2 ⟨v, rfl, hv, hb2⟩; obtain ⟨s, A1, k1, c1, A2, k2, c2, fine, fn, fd, nn, dd, rfl, hp⟩ := hv; have hb3 : Below wr.heap.size wr w2 := (by first | exact hb2 | exact Base.Below.nextA ((Below.refl wr.heap.size wr).drew) hb2); have hcell2 := (hb3.cell (p := ⟨g, k, none⟩) hgw).trans hcell; have HNN := Lib.hid (fun w3 gg cap ca t hown hg2 he => HNX.out w2 w3 s fine A1 A2 k1 c1 k2 c2 nn dd gg cap fn fd ca t hb3 hp hown hg2 he); have HAA := Lib.hid (fun w3 ca t hg2 => HAF.out w2 w3 ca t hb3 hg2); have HOO := Lib.hid (World.ownsRow.alloc (HOW.out w2 hb3) (.cells #[.bool s, .slice A1 k1 c1, .slice A2 k2 c2, .bool fine, .int .i64 fn, .int .i64 fd] 81)); have hs2 := hb3.size; have hgw2 : g < w2.heap.size := Nat.lt_of_lt_of_le hgw hs2; clear hb2 hb3 hp)
            | (refine step_append_lies _ (by rfl) _ _ _ (by rfl) w.heap.size 81 iw _ 6 80 Tryz.underlying93 wi wz0 wz1 wz2 rfl (by omega) (.slice A3 L c3) L _ (by rfl) HOO.out ⟨w2.heap.size, 0, none⟩ 1 1 [.bool s, .slice A1 k1 c1, .slice A2 k2 c2, .bool fine, .int .i64 fn, .int .i64 fd] (by rfl) (by rfl) (World.news_of_block (cs := #[.bool s, .slice A1 k1 c1, .slice A2 k2 c2, .bool fine, .int .i64 fn, .int .i64 fd]) (t := 81) (fr := (0, 0)) (heap_alloc_new w2 _)) ones_six (by omega) (by simp only [maxLen]; omega) (by omega) (by first | omega | (simp only [World.size_alloc]; omega)) (w2.heap.size + 1) (by simp) ?_; intro gg cap w3 hown' hg' hat hlt2; have HN3 := Lib.hid (HNN.out w3 gg cap _ _ hown' hg' (by rw [World.size_alloc]; exact hat)); have yy := HAA.out w3 _ _ hg'; have y1 := yy.1; have y2 := yy.2; clear hown' hg' hat yy hcell hcell2))
          all_goals
            go_wp2
            go_roundw
            case rel => exact HN3.out
            case measure => simp [intOf]; omega
    · obtain rfl : i = n := by omega
      obtain ⟨w1, rfl⟩ : ∃ x, x = wr := ⟨_, rfl⟩
      have H1 : Hid (XtRel xs fs i N w1 (.slice (some ⟨w1.heap.size, 0, none⟩) 0 0) (.int .i64 0) (w1.alloc (.cells #[] 81))) := Lib.hid ⟨0, [], rfl, Nat.zero_le _, Lib.hid (OwnW.lit0 w1 _ _), Lib.hid ((Below.refl _ _).alloc (Nat.le_refl _) _)⟩
      clear HX HY HR HK
      go_wp2
      go_loopw [9, 10] (fun ov jv w2 => XtRel xs fs i N w1 ov jv w2) (fun _ jv _ => N - (intOf jv).toNat)
      case atStart => exact H1.out
      case round =>
        obtain ⟨j, cs, rfl, hj, HO, HB2⟩ := hrel
        clear H1
        by_cases hlt : j < N
        · have HLw := HL.out.below HB2.out
          have hcell := HLw.cell hlt
          obtain ⟨cc, hcc⟩ := HLw.els j hlt
          obtain ⟨A3, c3, hv3, _⟩ := hcc.form
          rw [hv3] at hcell hcc
          have hll := sel_len xs fs j i
          have HS : Hid (Calls Tryz.prog 66 #[.slice A3 (sel xs fs j i).length c3] wr (WRet (exQ xs fs i j) 50 wr)) := Lib.hid (by
            have hm3 : 2 + (sel xs fs j i).length * (2 + 1) ≤ 50 := by omega
            refine (sum_any wr (hcc.base (Nat.zero_le _)) (Nat.le_refl 2) (by omega) (by omega)).mono fun e w' h => ?_
            obtain ⟨v, e1, h1, h2⟩ := h
            have hsum := sel_sum xs fs j i
            unfold lsum at hsum
            rw [hsum] at h1
            exact ⟨v, e1, h1.more hm3, h2⟩)
          have hsz := HB2.out.size
          clear HLw hcc hv3
          generalize (sel xs fs j i).length = L at *
          go_wp2_with fail
          refine HS.out.mono ?_
          rintro e w2 ⟨v, rfl, hv, hb1⟩
          obtain ⟨s, A1, k1, c1, A2, k2, c2, fine, fn, fd, nn, dd, rfl, hp⟩ := hv
          have hsz1 := hb1.size
          have HN := Lib.hid (fun w3 v' ca t hown hg => XtRel.next (w2 := w3) (v' := v') (ca := ca) (t := t) hlt HO.out HB2.out hb1 hp hown hg)
          have HOA := Lib.hid (World.ownsRow.alloc (ownsRow_below HO.out.row hb1) (.cells #[.bool s, .slice A1 k1 c1, .slice A2 k2 c2, .bool fine, .int .i64 fn, .int .i64 fd] 81))
          clear hp hb1 HO HB2 HS
          go_wp2_with (at_builtin; refine wpList_append_own_at _ rfl (.tmp 60) (.tmp 66) 93 rfl w1.heap.size 81 iw (.agg #[.bool false, .slice none 0 0, .slice none 0 0, .bool false, .int .i64 0, .int .i64 0]) 6 80 Tryz.underlying93 wi wz0 wz1 wz2 rfl (by decide) _ _ _ rfl HOA.out ⟨w2.heap.size, 0, none⟩ 1 1 [.bool s, .slice A1 k1 c1, .slice A2 k2 c2, .bool fine, .int .i64 fn, .int .i64 fd] rfl rfl ?p1a ?p2a ?p3a ?p4a ?p5a ?_)
          try case p1a => exact news_six _ _ (by simp)
          try case p2a => exact ones_six
          try case p3a => first | (simp only [maxLen]; omega) | omega
          try case p4a => omega
          try case p5a => first | (simp only [World.size_alloc]; omega) | omega
          intro v' w3 hown' hg' _ he
          have HN3 := Lib.hid (HN.out w3 v' _ _ hown' hg')
          clear hown' hg' he HN HOA
          go_wp2
          go_roundw
          case rel => exact HN3.out
          case measure => simp [intOf]; omega
        · obtain rfl : j = N := by omega
          obtain ⟨A9, c9, rfl, _⟩ := HO.out.form
          have HF : Hid (WsRet j (exQ xs fs i) 50 w (.returned (.slice A9 j c9)) wr) := Lib.hid ⟨_, cs, rfl, HO.out.base HB.out.size, HB.out.trans (HB2.out.mono HB.out.size)⟩
          clear HO HB2 HL HB
          go_wp2
          go_ret
          exact HF.out
end Go.Proofs.YtionognmgcabbaaGreat.Wide
/- The reference: how far what rows make of a source is from equal chances. -/
namespace Go.Proofs.YtionognmgcabbaaGreat.Wide
open Go.RowKit Go.Proofs.YtionognmgcabbaaGreat Go.Proofs.YtionognmgcabbaaGreat.Base Go.Proofs.YtionognmgcabbaaGreat.Mem Go.Proofs.YtionognmgcabbaaGreat.RatM Go.Proofs.YtionognmgcabbaaGreat.BigM Go.Proofs.YtionognmgcabbaaGreat.Big Go.Proofs.YtionognmgcabbaaGreat.Fine Go.Proofs.YtionognmgcabbaaGreat.Blk Go.Proofs.YtionognmgcabbaaGreat.GaussM Go.Proofs.YtionognmgcabbaaGreat.MemF Go.Proofs.YtionognmgcabbaaGreat.ChM Go.Proofs.YtionognmgcabbaaGreat.ExtM
open Go.Proofs.YtionognmgcabbaaGreat.Ratio (absR disR farQ vf_even)
set_option linter.unusedVariables false
theorem lowV_even {N : Nat} (h : 1 ≤ N) : lowV 1 N = .agg #[.int .i64 1, .int .i64 (N : Int)] := by
  unfold lowV
  rw [show (1 : Int).natAbs = 1 from rfl, Nat.gcd_one_left, Nat.div_one]
  rfl
def EvRel (N : Nat) (w : World) (ov jv : Value) (wr : World) : Prop :=
  ∃ (j : Nat) (cs : List Value), jv = .int .i64 (j : Int) ∧ j ≤ N ∧ Hid (OwnW wr w.heap.size ov j (fun _ => qf 1 (N : Int)) 2 cs) ∧ Hid (Below w.heap.size w wr)
theorem EvRel.next {N j : Nat} {w wr w1 w2 : World} {v v' : Value} {cs : List Value} {s fine : Bool} {A1 A2 : Option Addr} {k1 c1 k2 c2 nn dd : Nat} {fn fd : Int} {ca : Array Value} {t : TypeId} (hj : j < N) (h : OwnW wr w.heap.size v j (fun _ => qf 1 (N : Int)) 2 cs) (hb : Below w.heap.size w wr) (h1 : Below wr.heap.size wr w1)
    (hp : Parts w1 (qf 1 (N : Int)) 2 s (.slice A1 k1 c1) (.slice A2 k2 c2) fine fn fd nn dd) (hown : w2.ownsRow w.heap.size 81 6 v' (j + 1) (cs ++ six s (.slice A1 k1 c1) (.slice A2 k2 c2) fine fn fd)) (hg : (w1.alloc (.cells ca t)).grownBy w2 v.ownBlock) : EvRel N w v' (.int .i64 ((j : Int) + 1)) w2 := by
  have hb1 : Below wr.heap.size wr (w1.alloc (.cells ca t)) := h1.alloc h1.size _
  refine ⟨j + 1, _, by simp, hj, Lib.hid (h.push h1 hp hown hg), Lib.hid ?_⟩
  exact (hb.trans (hb1.mono hb.size)).trans (grown_below hg (fun g e => (ownsRow_block h.row e).choose_spec.2.1) (Nat.le_trans hb.size hb1.size))
set_option maxHeartbeats 2000000 in
set_option maxRecDepth 100000 in
theorem evenS_any {N : Nat} (h1 : 1 ≤ N) (h2 : N ≤ 1000) (w : World) : Calls Tryz.prog 123 #[.int .i64 (N : Int)] w (WsRet N (fun _ => qf 1 (N : Int)) 2 w) := by
  obtain ⟨iw, wi, wz0, wz1, wz2⟩ := info_parts infoW
  have HM : Hid (∀ W, Calls Tryz.prog 68 #[.int .i64 1, .int .i64 (N : Int)] W fun e w' => e = .returned (.agg #[.int .i64 1, .int .i64 (N : Int)]) ∧ Below W.heap.size W w') := Lib.hid fun W => by
    have := fMakeG 1 N (by decide) (by decide) h1 (by omega) W
    rwa [lowV_even h1] at this
  have HW := Lib.hid (fun W => wideOf_any (vf_even h1 h2) W)
  have H0 : Hid (EvRel N w (.slice (some ⟨w.heap.size, 0, none⟩) 0 0) (.int .i64 0) (w.alloc (.cells #[] 81))) := Lib.hid ⟨0, [], rfl, Nat.zero_le _, Lib.hid (OwnW.lit0 w _ _), Lib.hid ((Below.refl _ _).alloc (Nat.le_refl _) _)⟩
  go_enter Tryz.func123, Tryz.ntmps123
  go_wp2
  go_loopw [3, 4] (fun ov jv wr => EvRel N w ov jv wr) (fun _ jv _ => N - (intOf jv).toNat)
  case atStart => exact H0.out
  case round =>
    obtain ⟨j, cs, rfl, hj, HO, HB⟩ := hrel
    clear H0
    by_cases hlt : j < N
    · have hsz := HB.out.size
      go_wp2_with fail
      refine (HM.out _).mono ?_
      rintro e w1 ⟨rfl, hb1⟩
      have HB1 := Lib.hid hb1
      clear hb1
      go_wp2_with fail
      refine (HW.out _).mono ?_
      rintro e w2 ⟨v, rfl, hv, hb2⟩
      obtain ⟨s, A1, k1, c1, A2, k2, c2, fine, fn, fd, nn, dd, rfl, hp⟩ := hv
      have hb3 := Base.Below.nextA HB1.out hb2
      have hsz1 := hb3.size
      have HN := Lib.hid (fun w3 v' ca t hown hg => EvRel.next (w2 := w3) (v' := v') (ca := ca) (t := t) hlt HO.out HB.out hb3 hp hown hg)
      have HOA := Lib.hid (World.ownsRow.alloc (ownsRow_below HO.out.row hb3) (.cells #[.bool s, .slice A1 k1 c1, .slice A2 k2 c2, .bool fine, .int .i64 fn, .int .i64 fd] 81))
      clear hp hb2 hb3 HO HB HB1
      go_wp2_with (at_builtin; refine wpList_append_own_at _ rfl (.tmp 11) (.tmp 15) 93 rfl w.heap.size 81 iw (.agg #[.bool false, .slice none 0 0, .slice none 0 0, .bool false, .int .i64 0, .int .i64 0]) 6 80 Tryz.underlying93 wi wz0 wz1 wz2 rfl (by decide) _ _ _ rfl HOA.out ⟨w2.heap.size, 0, none⟩ 1 1 [.bool s, .slice A1 k1 c1, .slice A2 k2 c2, .bool fine, .int .i64 fn, .int .i64 fd] rfl rfl ?p1a ?p2a ?p3a ?p4a ?p5a ?_)
      try case p1a => exact news_six _ _ (by simp)
      try case p2a => exact ones_six
      try case p3a => first | (simp only [maxLen]; omega) | omega
      try case p4a => omega
      try case p5a => first | (simp only [World.size_alloc]; omega) | omega
      intro v' w3 hown' hg' _ he
      have HN3 := Lib.hid (HN.out w3 v' _ _ hown' hg')
      clear hown' hg' he HN HOA
      go_wp2
      go_roundw
      case rel => exact HN3.out
      case measure => simp [intOf]; omega
    · obtain rfl : j = N := by omega
      obtain ⟨A9, c9, rfl, _⟩ := HO.out.form
      have HF : Hid (WsRet j (fun _ => qf 1 (j : Int)) 2 w (.returned (.slice A9 j c9)) wr) := Lib.hid ⟨_, cs, rfl, HO.out, HB.out⟩
      clear HO HB
      go_wp2
      go_ret
      exact HF.out
set_option maxHeartbeats 2000000 in
set_option maxRecDepth 100000 in
theorem farS_any {A A' : Option Addr} {c c' B B' n : Nat} {fs xs : List Int} (w : World) (hx : RdF w B A n fs) (hB : B ≤ w.heap.size) (hv : AllVF fs n) (hn : n ≤ 16) (hy : RdI w B' A' xs) (hB' : B' ≤ w.heap.size) (h1 : 1 ≤ xs.length) (h3 : xs.length ≤ 3) (hr : ∀ i, i < xs.length → 0 ≤ xs.getD i 0 ∧ xs.getD i 0 ≤ 15) :
    Calls Tryz.prog 58 #[.slice A' xs.length c', .slice A n c] w (WRet (farQ xs fs n) 468 w) := by
  have hN : 2 ^ xs.length ≤ 8 := pow_len h3
  have hN1 : 1 ≤ 2 ^ xs.length := Nat.pow_pos (by decide)
  have hb0 : Below w.heap.size w (w.alloc (.cells #[.bool false, .slice none 0 0, .slice none 0 0, .bool false, .int .i64 0, .int .i64 0] 81)) := (Below.refl _ _).alloc (Nat.le_refl _) _
  have KR0 : Hid (Blk (w.alloc (.cells #[.bool false, .slice none 0 0, .slice none 0 0, .bool false, .int .i64 0, .int .i64 0] 81)) w.heap.size 81 #[.bool false, .slice none 0 0, .slice none 0 0, .bool false, .int .i64 0, .int .i64 0]) := Lib.hid (Blk.new w _ _)
  have HE := Lib.hid (extS_any (c := c) (c' := c') _ (hx.below hb0 hB) (Nat.le_trans hB hb0.size) hv hn (hy.below hb0 hB') (Nat.le_trans hB' hb0.size) h1 h3 hr)
  have HQ : Hid (farQ xs fs n = disR (2 ^ xs.length) (exQ xs fs n) (fun _ => qf 1 ((2 ^ xs.length : Nat) : Int))) := Lib.hid rfl
  have HB0 := Lib.hid hb0
  clear hx hv hy hr hb0
  generalize exQ xs fs n = f at *
  generalize 2 ^ xs.length = N at *
  have HEV := Lib.hid (fun W => evenS_any (N := N) hN1 (by omega) W)
  go_enter Tryz.func58, Tryz.ntmps58
  go_wp2_with fail
  refine HE.out.mono ?_
  rintro e w1 ⟨v, cs, rfl, ho, hb1⟩
  obtain ⟨A1, c1, rfl, _⟩ := ho.form
  have HB1 := Lib.hid (Base.Below.nextA HB0.out hb1)
  have KR1 := Lib.hid (KR0.out.belowS hb1)
  have HO1 := Lib.hid ho
  clear ho hb1 KR0 HB0 HE
  go_wp2_with fail
  refine (HEV.out _).mono ?_
  rintro e w2 ⟨v, cs2, rfl, ho, hb2⟩
  obtain ⟨A2, c2, rfl, _⟩ := ho.form
  have HB2 := Lib.hid (Base.Below.nextA HB1.out hb2)
  have KR2 := Lib.hid (KR1.out.belowS hb2)
  have hN58 : 4 + N * (50 + 2 + 6) ≤ 468 := by omega
  have HD := Lib.hid (disS_any w2 ((HO1.out.below hb2).base (Nat.zero_le _)) (ho.base (Nat.zero_le _)) (by decide) (by decide) (by omega) (by omega) (by decide))
  rw [← HQ.out] at HD
  clear ho hb2 HO1 KR1 HB1 HEV
  go_wp2_with fail
  refine HD.out.mono ?_
  rintro e w3 ⟨v, rfl, hv, hb3⟩
  obtain ⟨s, A1, k1, c1', A2, k2, c2', fine, fn, fd, nn, dd, rfl, hpz⟩ := hv
  have KRq := KR2.out.belowS hb3
  have HBq := Base.Below.nextA HB2.out hb3
  have HP2 := Lib.hid (hpz.more hN58)
  clear hb3 hpz HD KR2 HB2 HQ
  have z0 := (KRq).frz 0
  have z1 := (KRq).frz 1
  have z2 := (KRq).frz 2
  have z3 := (KRq).frz 3
  have z4 := (KRq).frz 4
  have z5 := (KRq).frz 5
  have c0 := (KRq).at 0 (v := .bool false) rfl
  have c1 := (KRq).at 1 (v := .slice none 0 0) rfl
  have c2 := (KRq).at 2 (v := .slice none 0 0) rfl
  have c3 := (KRq).at 3 (v := .bool false) rfl
  have c4 := (KRq).at 4 (v := .int .i64 0) rfl
  have c5 := (KRq).at 5 (v := .int .i64 0) rfl
  have SS := put6_blk (KRq) (.bool s) (.slice A1 k1 c1') (.slice A2 k2 c2') (.bool fine) (.int .i64 fn) (.int .i64 fd)
  unfold put6 at SS
  have s0 := SS.at 0 rfl
  have s1 := SS.at 1 rfl
  have s2 := SS.at 2 rfl
  have s3 := SS.at 3 rfl
  have s4 := SS.at 4 rfl
  have s5 := SS.at 5 rfl
  have HFIN := Lib.hid (WRet.put (HP2.out) (KRq) (HBq) (Nat.le_refl _))
  clear SS
  go_wp2
  refine bodyPost_ret (v := .agg #[.bool s, .slice A1 k1 c1', .slice A2 k2 c2', .bool fine, .int .i64 fn, .int .i64 fd]) (by simp [results, Tryz.results58, go_sem, s0, s1, s2, s3, s4, s5]) rfl ?_
  exact HFIN.out
end Go.Proofs.YtionognmgcabbaaGreat.Wide
/- The reference: a list of fractions of any size is given, if all are small. -/
namespace Go.Proofs.YtionognmgcabbaaGreat.Wide
open Go.RowKit Go.Proofs.YtionognmgcabbaaGreat Go.Proofs.YtionognmgcabbaaGreat.Base Go.Proofs.YtionognmgcabbaaGreat.Mem Go.Proofs.YtionognmgcabbaaGreat.RatM Go.Proofs.YtionognmgcabbaaGreat.BigM Go.Proofs.YtionognmgcabbaaGreat.Big Go.Proofs.YtionognmgcabbaaGreat.Fine Go.Proofs.YtionognmgcabbaaGreat.Blk Go.Proofs.YtionognmgcabbaaGreat.MemF Go.Proofs.YtionognmgcabbaaGreat.GiveM
set_option linter.unusedVariables false
set_option maxHeartbeats 2000000 in
set_option maxRecDepth 100000 in
theorem giveS_any {v : Value} {n m : Nat} {f : Nat → Rat} {cs : List Value} (w : World) (hx : OwnW w 0 v n f m cs) (hm : m ≤ 400000) (hn : n ≤ 1000) : Calls Tryz.prog 79 #[v] w (FsRet (gN f n) (gR f n) (smallAll f n) w) := by
  obtain ⟨A, c, rfl, _⟩ := hx.form
  have HX := Lib.hid hx
  obtain ⟨i2, ki, kz0, kz1, kz2⟩ := info_parts infoFr
  have H0 := Lib.hid (GRel.start f n w)
  clear hx
  go_enter Tryz.func79, Tryz.ntmps79
  go_wp2
  go_loopw [5, 4] (fun iv sv wr => GRel f n w iv sv wr) (fun iv _ _ => n - (intOf iv).toNat)
  case atStart => exact H0.out
  case round =>
    obtain ⟨i, rfl, hi, HO, HA, HB⟩ := hrel
    clear H0
    by_cases hlt : i < n
    · obtain ⟨g, s', B1, j1, e1, B2, j2, e2, fb, gn, gd, n', d', rfl, hgl, y0, y1, y2, y3, y4, y5, hp'⟩ := (HX.out.below HB.out).at hlt
      have HE : IsW wr (f i) m (.agg #[.bool s', .slice B1 j1 e1, .slice B2 j2 e2, .bool fb, .int .i64 gn, .int .i64 gd]) := ⟨_, _, _, _, _, _, _, _, _, _, _, _, rfl, hp'⟩
      have HG := Lib.hid (give_any wr HE hm)
      have HF : Hid (∀ w1 w2 v' cs t, smallQ (f i) = true → Below wr.heap.size wr w1 → _ → _ → _) := Lib.hid (fun w1 w2 v' cs t hv h1 hown hg => GRel.next (w1 := w1) (w2 := w2) (v' := v') (cs := cs) (t := t) hlt HO.out HA.out hv HB.out h1 hown hg)
      have HNO := Lib.hid (fun h => GiveM.small_no hlt (show smallQ (f i) = false from h))
      clear HE hp' hgl
      generalize f i = q at *
      unfold FRet at HG
      generalize numQ q = P at *
      generalize denQ q = Q at *
      go_wp2_with fail
      refine HG.out.mono ?_
      rintro e w1 ⟨rfl, hb1⟩
      have HB1 := Lib.hid hb1
      clear hb1 y0 y1 y2 y3 y4 y5 HG
      go_upto_region 6 with (fail)
      obtain ⟨W2, hW2⟩ : ∃ W2, W2 = w1.alloc (.cells #[.int .i64 P, .int .i64 Q] 43) := ⟨_, rfl⟩
      rw [← hW2]
      have K2 : Hid (Blk W2 w1.heap.size 43 #[.int .i64 P, .int .i64 Q]) := Lib.hid (by rw [hW2]; exact Blk.new w1 _ _)
      have HB2 : Hid (Below wr.heap.size wr W2) := Lib.hid (by rw [hW2]; exact HB1.out.alloc HB1.out.size _)
      have hsz := HB.out.size
      have hsz2 := HB2.out.size
      cases hs : smallQ q with
      | false =>
        have HN := Lib.hid (HNO.out hs)
        have HBB := Lib.hid (Base.Below.nextA HB.out HB2.out)
        clear hW2 hs HNO HF
        go_wp2
        go_ret2
        rw [HN.out.1, HN.out.2.1, HN.out.2.2]
        exact FsRet.no HBB.out
      | true =>
        have HNN := Lib.hid (fun w3 v' cs t hown hg => HF.out W2 w3 v' cs t hs HB2.out hown hg)
        have HW2 := Lib.hid (World.ownsRow.alloc (ownsRow_below HO.out HB2.out) (.cells #[.int .i64 P, .int .i64 Q] 43))
        have x0 := K2.out.at 0 (v := .int .i64 P) rfl
        have x1 := K2.out.at 1 (v := .int .i64 Q) rfl
        clear hW2 hs HNO HF HO HA HB HB1 HB2
        go_wp2_with (at_builtin; refine wpList_append_own_at _ rfl (.tmp 25) (.tmp 27) 28 rfl w.heap.size 43 i2 (.agg #[.int .i64 0, .int .i64 0]) 2 16 Tryz.underlying28 ki kz0 kz1 kz2 rfl (by decide) _ _ _ rfl HW2.out ⟨W2.heap.size, 0, none⟩ 1 1 [.int .i64 P, .int .i64 Q] rfl rfl ?p1a ?p2a ?p3a ?p4a ?p5a ?_)
        try case p1a => exact MemF.news_two _ _ (by simp)
        try case p2a => exact MemF.ones_two
        try case p3a => first | (simp only [maxLen]; omega) | omega
        try case p4a => omega
        try case p5a => first | (simp only [World.size_alloc]; omega) | omega
        intro v' w3 hown' hg' _ he
        have HN3 := Lib.hid (HNN.out w3 v' _ _ hown' hg')
        clear hown' hg' he HNN HW2
        go_wp2
        go_roundw
        case rel => exact HN3.out
        case measure => simp [intOf]; omega
    · obtain rfl : i = n := by omega
      obtain ⟨A', cp, rfl, _⟩ := HO.out.form
      have HY := Lib.hid (GiveM.small_yes' HA.out)
      clear HA
      go_wp2
      go_ret2
      rw [HY.out.1, HY.out.2.1, HY.out.2.2]
      exact ⟨A', cp, rfl, HO.out, HB.out⟩
end Go.Proofs.YtionognmgcabbaaGreat.Wide
/- The reference: the average distance. -/
namespace Go.Proofs.YtionognmgcabbaaGreat.Wide
open Go.RowKit Go.Proofs.YtionognmgcabbaaGreat Go.Proofs.YtionognmgcabbaaGreat.Base Go.Proofs.YtionognmgcabbaaGreat.Mem Go.Proofs.YtionognmgcabbaaGreat.MemF Go.Proofs.YtionognmgcabbaaGreat.ChM Go.Proofs.YtionognmgcabbaaGreat.GaussM Go.Proofs.YtionognmgcabbaaGreat.GiveM Go.Proofs.YtionognmgcabbaaGreat.Ratio Go.Proofs.YtionognmgcabbaaGreat.NextM Go.Proofs.YtionognmgcabbaaGreat.NextS Go.Proofs.YtionognmgcabbaaGreat.Blk Go.Proofs.YtionognmgcabbaaGreat.RatM Go.Proofs.YtionognmgcabbaaGreat.Fine
set_option linter.unusedVariables false
theorem nextS_any {A : Option Addr} {c B n N : Nat} {xs : List Int} (w : World) (hx : RdI w B A xs) (hB : B ≤ w.heap.size) (hl : xs.length = n) (h1 : 1 ≤ n) (h3 : n ≤ 3) (hr : ∀ i, i < n → 0 ≤ xs.getD i 0 ∧ xs.getD i 0 ≤ 15) (hN1 : 1 ≤ N) (hN4 : N ≤ 4) :
    Calls Tryz.prog 64 #[.slice A n c, .int .i64 (N : Int)] w (ListMade (nextL N xs) w) := by
  have h4 : N = 1 ∨ N = 2 ∨ N = 3 ∨ N = 4 := by omega
  rcases h4 with rfl | rfl | rfl | rfl
  · exact nextS_n1 A c B n xs w hx hB hl h1 h3 hr
  · exact nextS_n2 A c B n xs w hx hB hl h1 h3 hr
  · exact nextS_n3 A c B n xs w hx hB hl h1 h3 hr
  · exact nextS_n4 A c B n xs w hx hB hl h1 h3 hr
theorem rdI_kept {w w' : World} {A : Option Addr} {xs : List Int} {own : Option Nat} (h : RdI w w.heap.size A xs) (hg : w.grownBy w' own) (hne : ∀ a, A = some a → own ≠ some a.block) : RdI w' w'.heap.size A xs := fun h0 => by
  obtain ⟨b, off, e, hlt, hc⟩ := h h0
  have hn := hne _ e
  exact ⟨b, off, e, Nat.lt_of_lt_of_le hlt hg.size, fun j hj => (hg.cell_far ⟨b, off + j, none⟩ hlt (fun e2 => hn e2.symm)).trans (hc j hj)⟩
theorem inv_qf {T : Nat} (h : 1 ≤ T) : qf 1 (T : Int) = ((T : Nat) : Rat)⁻¹ := by
  unfold qf qv
  simp [Rat.div_def]
def rowsAt (C N T k : Nat) : List Int := if k < T then rowsOf C N k else []
structure AsI (C N T n : Nat) (fs : List Int) (w : World) (k : Nat) (cs : List Value) (L : List Int) (A' : Option Addr) (lv : Value) (wr : World) : Prop where
  list : OwnW wr w.heap.size lv k (farC C N fs n) 468 cs
  rows : RdI wr wr.heap.size A' L
  apart : 0 < L.length → ∀ a, A' = some a → lv.ownBlock ≠ some a.block
  below : Below w.heap.size w wr
def AsRel (C N T n : Nat) (fs : List Int) (w : World) (lv rv : Value) (wr : World) : Prop :=
  ∃ (k : Nat) (cs : List Value) (A' : Option Addr) (c' : Nat), k ≤ T ∧ rv = .slice A' (rowsAt C N T k).length c' ∧ Hid (AsI C N T n fs w k cs (rowsAt C N T k) A' lv wr)
theorem rdI_start (w : World) (C : Nat) (hC : C ≤ 3) : OwnI (w.alloc (.cells (madeCells #[.int .i64 0] C) 2)) w.heap.size (.slice (some ⟨w.heap.size, 0, none⟩) C C) (List.replicate C 0) := by
  have := World.ownsRow_lit (e := 2) (size := 1) (base := w.heap.size) w (madeCells #[.int .i64 0] C) C (Nat.le_refl _) (by simp [maxLen]; omega) (by simp [size_madeCells])
  rw [toList_madeCells_one] at this
  unfold OwnI
  rw [List.length_replicate, show ints (List.replicate C 0) = List.replicate C (.int .i64 0) by simp [ints]]
  exact this
set_option maxHeartbeats 4000000 in
set_option maxRecDepth 100000 in
theorem specAvg_any {A : Option Addr} {c B n : Nat} {fs : List Int} (t : Int) (w : World) (hy : RdF w B A n fs) (hB : B ≤ w.heap.size) (hn : n ≤ 1048576) :
    Calls Tryz.prog 27 #[.int .i64 t, .slice A n c] w (FrRet (avP t fs n) (avD t fs n) (avB t fs n) w) := by
  obtain ⟨iw, wi, wz0, wz1, wz2⟩ := info_parts infoW
  have hb0 : Below w.heap.size w (w.alloc (.cells #[.int .i64 0, .int .i64 0] 43)) := (Below.refl _ _).alloc (Nat.le_refl _) _
  have KR0 : Hid (Blk (w.alloc (.cells #[.int .i64 0, .int .i64 0] 43)) w.heap.size 43 #[.int .i64 0, .int .i64 0]) := Lib.hid (Blk.new w _ _)
  have HB0 := Lib.hid hb0
  have HY := Lib.hid ((hy.below hb0 hB).more (Nat.le_trans hB hb0.size))
  clear hy hb0
  have HCN := Lib.hid (CntS.count_any (c := c) t (w.alloc (.cells #[.int .i64 0, .int .i64 0] 43)) HY.out (Nat.le_refl _) (by omega))
  cases h : AllI.okA t fs n with
  | false =>
    obtain ⟨e1, e2, e3⟩ := av_no h
    rw [e1, e2, e3]
    rw [h] at HCN
    clear e1 e2 e3 h
    go_enter Tryz.func27, Tryz.ntmps27
    go_wp2_with fail
    refine HCN.out.mono ?_
    rintro e w1 ⟨rfl, hb1⟩
    have KRq := KR0.out.belowS hb1
    have HBq := Base.Below.nextA HB0.out hb1
    clear hb1 HCN HB0 KR0
    have z0 := (KRq).frz 0
    have z1 := (KRq).frz 1
    have c0 := (KRq).at 0 (v := .int .i64 0) rfl
    have c1 := (KRq).at 1 (v := .int .i64 0) rfl
    have HFIN := Lib.hid (fr_put (P := 0) (Q := 0) (ok := false) (HBq) (Nat.le_refl _))
    have SS := ((KRq).setTo 0 (.int .i64 0) rfl).setTo 1 (.int .i64 0) rfl
    have s0 := SS.at 0 rfl
    have s1 := SS.at 1 rfl
    clear SS
    go_wp2
    refine bodyPost_ret (v := .tuple #[.agg #[.int .i64 0, .int .i64 0], .bool false]) (by simp [results, Tryz.results27, go_sem, s0, s1]) rfl ?_
    exact HFIN.out
  | true =>
    obtain ⟨e1, e2, e3⟩ := av_yes h
    rw [e1, e2, e3]
    rw [h] at HCN
    clear e1 e2 e3
    obtain ⟨C, rfl, hC1, hC3, hN1, hCN⟩ := AllI.okA_yes h
    have hch := bits_ch hN1
    obtain ⟨_, h16⟩ := chB_range hch
    have hv : AllVF fs n := vfAll_true.1 (by
      cases hvf : vfAll fs n with
      | true => rfl
      | false => rw [chB_vf hvf] at hch; cases hch)
    have hT : 2 ^ (C * bitsQ fs n) ≤ 256 := pow_le hCN
    have hN4 := AllI.bits_le fs n
    have hQ : avQ (C : Int) fs n = sumR (2 ^ (C * bitsQ fs n)) (farC C (bitsQ fs n) fs n) * ((2 ^ (C * bitsQ fs n) : Nat) : Rat)⁻¹ := by unfold avQ avT; rw [Int.toNat_natCast]
    have hT1 : 1 ≤ 2 ^ (C * bitsQ fs n) := Nat.pow_pos (by decide)
    have hinv : ((2 ^ (C * bitsQ fs n) : Nat) : Rat)⁻¹ = qf 1 ((2 ^ (C * bitsQ fs n) : Nat) : Int) := (inv_qf hT1).symm
    rw [hQ, hinv]
    obtain ⟨P, hP⟩ : ∃ P, P = numQ (sumR (2 ^ (C * bitsQ fs n)) (farC C (bitsQ fs n) fs n) * qf 1 ((2 ^ (C * bitsQ fs n) : Nat) : Int)) := ⟨_, rfl⟩
    obtain ⟨Q, hQ2⟩ : ∃ Q, Q = denQ (sumR (2 ^ (C * bitsQ fs n)) (farC C (bitsQ fs n) fs n) * qf 1 ((2 ^ (C * bitsQ fs n) : Nat) : Int)) := ⟨_, rfl⟩
    obtain ⟨ok, hK2⟩ : ∃ ok, ok = smallQ (sumR (2 ^ (C * bitsQ fs n)) (farC C (bitsQ fs n) fs n) * qf 1 ((2 ^ (C * bitsQ fs n) : Nat) : Int)) := ⟨_, rfl⟩
    rw [← hP, ← hQ2, ← hK2]
    have HP0 := Lib.hid hP
    have HQQ := Lib.hid hQ2
    have HKK := Lib.hid hK2
    clear h hch hQ hinv hP hQ2 hK2
    have HFA := Lib.hid (fun k W A' c' (hb : Below (w.alloc (.cells #[.int .i64 0, .int .i64 0] 43)).heap.size (w.alloc (.cells #[.int .i64 0, .int .i64 0] 43)) W) (hr : RdI W W.heap.size A' (rowsOf C (bitsQ fs n) k)) => farS_any (c := c) (c' := c') (xs := rowsOf C (bitsQ fs n) k) W (HY.out.below hb (Nat.le_refl _)) hb.size hv h16 hr (Nat.le_refl _) (by rw [rowsOf_len]; exact hC1) (by rw [rowsOf_len]; exact hC3) (fun i hi => by
      rw [rowsOf_len] at hi
      have h1 := rowsOf_lt (n := bitsQ fs n) (code := k) hi
      have h2 : 2 ^ bitsQ fs n ≤ 2 ^ 4 := Nat.pow_le_pow_right (by decide) hN4
      omega))
    have HNE := Lib.hid (fun k (hk : k < 2 ^ (C * bitsQ fs n)) W A' c' (hr : RdI W W.heap.size A' (rowsOf C (bitsQ fs n) k)) => nextS_any (c := c') (n := C) W hr (Nat.le_refl _) (rowsOf_len _ _ _) hC1 hC3 (fun i hi => by
      have h1 := rowsOf_lt (n := bitsQ fs n) (code := k) hi
      have h2 : 2 ^ bitsQ fs n ≤ 2 ^ 4 := Nat.pow_le_pow_right (by decide) hN4
      omega) hN1 hN4)
    have HNX := Lib.hid (fun k (hk : k < 2 ^ (C * bitsQ fs n)) => next_of hC1 hC3 hN1 hN4 hCN hk)
    have HFC : Hid (∀ k, farQ (rowsOf C (bitsQ fs n) k) fs n = farC C (bitsQ fs n) fs n k) := Lib.hid (fun k => rfl)
    have HR0 : Hid (rowsAt C (bitsQ fs n) (2 ^ (C * bitsQ fs n)) 0 = List.replicate C 0) := Lib.hid (by unfold rowsAt; rw [if_pos (by omega), rowsOf_zero])
    have hmk := run_make_row' (P := Tryz.prog) 41 2 (.int .i64 0) 8 Tryz.underlying41 infoI rfl .i64 .i64 C (by omega) (by omega)
    generalize bitsQ fs n = N at *
    generalize 2 ^ (C * N) = T at *
    go_enter Tryz.func27, Tryz.ntmps27
    go_wp2_with fail
    refine HCN.out.mono ?_
    rintro e w1 ⟨rfl, hb1⟩
    have HG1 := Lib.hid hb1
    clear hb1 HCN
    go_wp2_with fail
    clear hmk
    have H0 : Hid (AsRel C N T n fs w1 (.slice (some ⟨w1.heap.size, 0, none⟩) 0 0) (.slice (some ⟨w1.heap.size + 1, 0, none⟩) C C) ((w1.alloc (.cells #[] 81)).alloc (.cells (madeCells #[.int .i64 0] C) 2))) := Lib.hid (by
      have h2 := rdI_start (w1.alloc (.cells #[] 81)) C hC3
      rw [World.size_alloc] at h2
      refine ⟨0, [], some ⟨w1.heap.size + 1, 0, none⟩, C, Nat.zero_le _, by rw [HR0.out, List.length_replicate], Lib.hid ⟨?_, ?_, ?_, ?_⟩⟩
      · exact (OwnW.lit0 w1 _ _).below ((Below.refl _ _).alloc (Nat.le_refl _) _)
      · rw [HR0.out]; exact h2.rd
      · intro _ a e e2
        injection e with e
        subst e
        simp [Value.ownBlock] at e2
      · exact ((Below.refl _ _).alloc (Nat.le_refl _) _).alloc (by simp) _)
    clear HR0
    have hs1 := HG1.out.size
    go_loopw [8, 9] (fun lv rv wr => AsRel C N T n fs w1 lv rv wr) (fun lv rv _ => (match lv with | .slice _ k _ => T - k | _ => 0))
    case atStart => exact H0.out
    case round =>
      obtain ⟨k, cs, A', c', hk, rfl, HI⟩ := hrel
      clear H0
      have hsz := HI.out.below.size
      by_cases hlt : k < T
      · have hra : rowsAt C N T k = rowsOf C N k := by unfold rowsAt; rw [if_pos hlt]
        rw [hra] at HI ⊢
        rw [rowsOf_len]
        have HF := Lib.hid (HFA.out k wr A' c' (Base.Below.nextA HG1.out HI.out.below) HI.out.rows)
        rw [HFC.out k, rowsOf_len] at HF
        obtain ⟨Al, cl, rfl, _⟩ := HI.out.list.form
        have hnn : nextL N (rowsOf C N k) = rowsAt C N T (k + 1) := HNX.out k hlt
        have HNEk := Lib.hid (HNE.out k hlt)
        rw [hnn] at HNEk
        clear hra hnn
        go_wp2_with fail
        refine HF.out.mono ?_
        rintro e w2 ⟨v, rfl, hv, hb2⟩
        obtain ⟨s, A1, k1, c1, A2, k2, c2, fine, fn, fd, nn, dd, rfl, hp⟩ := hv
        have HPU := Lib.hid (fun w3 v' ca t hown hg => HI.out.list.push (w2 := w3) (v' := v') (ca := ca) (t := t) hb2 hp hown hg)
        have HOA := Lib.hid (World.ownsRow.alloc (ownsRow_below HI.out.list.row hb2) (.cells #[.bool s, .slice A1 k1 c1, .slice A2 k2 c2, .bool fine, .int .i64 fn, .int .i64 fd] 81))
        have hb2a : Below wr.heap.size wr (w2.alloc (.cells #[.bool s, .slice A1 k1 c1, .slice A2 k2 c2, .bool fine, .int .i64 fn, .int .i64 fd] 81)) := hb2.alloc hb2.size _
        have HRO := Lib.hid ((HI.out.rows.below hb2a (Nat.le_refl _)).more hb2a.size)
        have HBW := Lib.hid (Base.Below.nextA HI.out.below hb2a)
        have HOR := Lib.hid HI.out.list.row
        have HAP := Lib.hid (HI.out.apart (by rw [rowsOf_len]; exact hC1))
        have hs2 := hb2.size
        have hT256 := hT
        clear hb2 hp HI HF hb2a
        unfold six at HPU
        go_wp2_with (at_builtin; refine wpList_append_own_at _ rfl (.tmp 28) (.tmp 32) 93 rfl w1.heap.size 81 iw (.agg #[.bool false, .slice none 0 0, .slice none 0 0, .bool false, .int .i64 0, .int .i64 0]) 6 80 Tryz.underlying93 wi wz0 wz1 wz2 rfl (by decide) _ _ _ rfl HOA.out ⟨w2.heap.size, 0, none⟩ 1 1 [.bool s, .slice A1 k1 c1, .slice A2 k2 c2, .bool fine, .int .i64 fn, .int .i64 fd] rfl rfl ?p1a ?p2a ?p3a ?p4a ?p5a ?_)
        try case p1a => exact news_six _ _ (by simp)
        try case p2a => exact ones_six
        try case p3a => first | (simp only [maxLen]; omega) | omega
        try case p4a => omega
        try case p5a => first | (simp only [World.size_alloc]; omega) | omega
        intro v' w3 hown' hg' _ he
        have HO3 := Lib.hid (HPU.out w3 v' _ _ hown' hg')
        have hr3 := rdI_kept HRO.out hg' HAP.out
        have HB3 := Lib.hid (HBW.out.trans (grown_below hg' (fun g e => (ownsRow_block HOR.out e).choose_spec.2.1) (HBW.out.size)))
        have HN3 := Lib.hid (HNEk.out w3 A' c' hr3)
        clear hown' hg' he HPU HOA HRO HBW HOR HAP hr3 HNEk
        obtain ⟨Av, cv, rfl, _⟩ := HO3.out.form
        have hs3 := HB3.out.size
        go_wp2_with fail
        refine HN3.out.mono ?_
        rintro e w4 ⟨A5, c5, rfl, ho5, hb5⟩
        have HN4 : Hid (AsI C N T n fs w1 (k + 1) _ (rowsAt C N T (k + 1)) A5 (.slice Av (k + 1) cv) w4) := Lib.hid ⟨HO3.out.below hb5, ho5.rd, fun h0 a e2 e3 => by
          obtain ⟨_, _, _, hlt2⟩ := ownsRow_block HO3.out.row e3
          obtain ⟨A6, c6, e6, hh⟩ := ho5.form
          injection e6 with e7 _ _
          obtain ⟨g6, e8, h8, _⟩ := hh h0
          rw [e7, e8] at e2
          injection e2 with e2
          subst e2
          simp only at hlt2
          omega, Base.Below.nextA HB3.out hb5⟩
        clear ho5 hb5 HN3 HO3 HB3
        go_wp2
        go_roundw
        case rel => exact ⟨k + 1, _, A5, c5, hlt, rfl, HN4⟩
        case measure =>
          show T - (k + 1) < T - k
          omega
      · obtain rfl : k = T := by omega
        have hra : rowsAt C N k k = [] := by unfold rowsAt; rw [if_neg (Nat.lt_irrefl _)]
        rw [hra] at HI ⊢
        obtain ⟨Al, cl, rfl, _⟩ := HI.out.list.form
        have HSU := Lib.hid (sum_any wr (HI.out.list.base (Nat.zero_le _)) (by decide) (by omega) (by omega))
        have HFM : Hid (∀ W, Calls Tryz.prog 68 #[.int .i64 1, .int .i64 (k : Int)] W fun e w' => e = .returned (.agg #[.int .i64 1, .int .i64 (k : Int)]) ∧ Below W.heap.size W w') := Lib.hid fun W => by
          have := fMakeG 1 k (by decide) (by decide) hT1 (by omega) W
          rwa [lowV_even hT1] at this
        have HWO := Lib.hid (fun W => wideOf_any (vf_even hT1 (by omega)) W)
        have HBW := Lib.hid HI.out.below
        clear HI hra HFA HNE HNX HFC HY
        generalize sumR k (farC C N fs n) = S at *
        generalize qf 1 (k : Int) = r at *
        go_wp2_with fail
        refine HSU.out.mono ?_
        rintro e w2 ⟨v, rfl, hv, hb2⟩
        obtain ⟨s, A1, k1, c1, A2, k2, c2, fine, fn, fd, nn, dd, rfl, hp⟩ := hv
        have HP := Lib.hid hp
        have HB2 := Lib.hid (Base.Below.nextA HBW.out hb2)
        clear hp hb2 HSU HBW
        go_wp2_with fail
        refine (HFM.out _).mono ?_
        rintro e w3 ⟨rfl, hb3⟩
        have HP3 := Lib.hid (HP.out.below hb3)
        have HB3 := Lib.hid (Base.Below.nextA HB2.out hb3)
        clear hb3 HFM HP HB2
        go_wp2_with fail
        refine (HWO.out _).mono ?_
        rintro e w4 ⟨v, rfl, hv4, hb4⟩
        have HP4 := HP3.out.below hb4
        have HB4 := Lib.hid (Base.Below.nextA HB3.out hb4)
        have HMU := Lib.hid (wideMul_any w4 ⟨_, _, _, _, _, _, _, _, _, _, _, _, rfl, HP4⟩ hv4 (by omega) (by omega) (by omega) (by omega))
        obtain ⟨s2, B1, j1, d1, B2, j2, d2, fine2, fn2, fd2, nn2, dd2, rfl, _⟩ := hv4
        clear hb4 HP3 HB3 HWO HP4
        go_wp2_with fail
        refine HMU.out.mono ?_
        rintro e w5 ⟨v, rfl, hv5, hb5⟩
        have HB5 := Lib.hid (Base.Below.nextA HB4.out hb5)
        have HGV := Lib.hid (give_any w5 hv5 (by omega))
        unfold Fine.FRet at HGV
        rw [← HP0.out, ← HQQ.out, ← HKK.out] at HGV
        obtain ⟨s3, E1, i1, f1, E2, i2, f2, fine3, fn3, fd3, nn3, dd3, rfl, _⟩ := hv5
        clear hb5 HMU HB4 HP0 HQQ HKK
        go_wp2_with fail
        refine HGV.out.mono ?_
        rintro e w6 ⟨rfl, hb6⟩
        have HW6 := Base.Below.nextA HG1.out (Base.Below.nextA HB5.out hb6)
        have KRq := KR0.out.belowS HW6
        have HBq := Base.Below.nextA HB0.out HW6
        clear hb6 HGV HW6 HB5 HB0 KR0 HG1
        have z0 := (KRq).frz 0
        have z1 := (KRq).frz 1
        have c0 := (KRq).at 0 (v := .int .i64 0) rfl
        have c1 := (KRq).at 1 (v := .int .i64 0) rfl
        have HFIN := Lib.hid (fr_put (P := P) (Q := Q) (ok := ok) (HBq) (Nat.le_refl _))
        have SS := ((KRq).setTo 0 (.int .i64 P) rfl).setTo 1 (.int .i64 Q) rfl
        have s0 := SS.at 0 rfl
        have s1 := SS.at 1 rfl
        clear SS
        go_wp2
        refine bodyPost_ret (v := .tuple #[.agg #[.int .i64 P, .int .i64 Q], .bool ok]) (by simp [results, Tryz.results27, go_sem, s0, s1]) rfl ?_
        exact HFIN.out
end Go.Proofs.YtionognmgcabbaaGreat.Wide

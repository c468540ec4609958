/- The reference: what rows make of a source. -/
import Derived.Test.YtionognmgcabbaaGreatMgExt20
import Derived.Test.YtionognmgcabbaaGreatMgExt19
import Derived.Test.YtionognmgcabbaaGreatMgExt11
import Derived.Deep.Cut
import Derived.Deep.RegionWith
import Derived.Deep.AppendLies
import Derived.Deep.RegionLaw
import Derived.Test.YtionognmgcabbaaGreatMgExt12
import Derived.Test.YtionognmgcabbaaGreatMgExt08
import Derived.Test.YtionognmgcabbaaGreatMgExt16
import Derived.Test.YtionognmgcabbaaGreatMgExt00
import Derived.Test.YtionognmgcabbaaGreatMgExt09
namespace Go.Proofs.YtionognmgcabbaaGreat.Wide
open Go.RowKit Go.Proofs.YtionognmgcabbaaGreat Go.Proofs.YtionognmgcabbaaGreat.Base Go.Proofs.YtionognmgcabbaaGreat.Mem Go.Proofs.YtionognmgcabbaaGreat.RatM Go.Proofs.YtionognmgcabbaaGreat.BigM Go.Proofs.YtionognmgcabbaaGreat.Big Go.Proofs.YtionognmgcabbaaGreat.Fine Go.Proofs.YtionognmgcabbaaGreat.Blk Go.Proofs.YtionognmgcabbaaGreat.GaussM Go.Proofs.YtionognmgcabbaaGreat.MemF Go.Proofs.YtionognmgcabbaaGreat.ChM Go.Proofs.YtionognmgcabbaaGreat.ExtM Go.Proofs.YtionognmgcabbaaGreat.RowN
set_option linter.unusedVariables false
theorem infoWs : (Tryz.prog.info? 93).map (fun i => (i.zero, i.size, i.bytes)) = some (some (.slice none 0 0), 1, 24) := by kernel_rfl
theorem run_makeWs (n : Nat) (hn : n ≤ 1048576) (w : World) : (Instr.makeSlice 117 (.int .i64 (n : Int)) (.int .i64 (n : Int))).run Tryz.prog w = .ok (.slice (some ⟨w.heap.size, 0, none⟩) n n) (w.alloc (.cells (madeCells (Value.slice none 0 0).cells (n * 1)) 93)) := by
  obtain ⟨i, hi, hzz⟩ := Option.map_eq_some_iff.1 infoWs
  simp only [Prod.mk.injEq] at hzz
  obtain ⟨hz, hs, hb⟩ := hzz
  have hr := run_make (P := Tryz.prog) w 117 93 i _ Tryz.underlying117 hi hz .i64 .i64 n n (by omega) (Int.le_refl _) (by rw [hb]; omega) (by omega)
  simp only [Int.toNat_natCast, hs] at hr
  exact hr
def LsRel (xs fs : List Int) (n N g : Nat) (w : World) (xv : Value) (wr : World) : Prop :=
  ∃ (i : Nat) (vs : Nat → Value), xv = .int .i64 (i : Int) ∧ i ≤ n ∧ Hid (LW wr g N w.heap.size 2 (fun y => sel xs fs y i) vs) ∧ Hid (Below w.heap.size w wr)
theorem sel_step {xs fs : List Int} {i k : Nat} (hk : rowK xs i xs.length = k) : (fun y => if y = k then sel xs fs k i ++ [fq fs i] else sel xs fs y i) = fun y => sel xs fs y (i + 1) := by
  funext y
  by_cases e : y = k
  · subst e; rw [if_pos rfl, sel_hit hk]
  · rw [if_neg e, sel_miss (fun h => e (h.symm.trans hk))]
/-- the sums of the lists -/
def XtRel (xs fs : List Int) (n N : Nat) (w : World) (ov jv : Value) (wr : World) : Prop :=
  ∃ (j : Nat) (cs : List Value), jv = .int .i64 (j : Int) ∧ j ≤ N ∧ Hid (OwnW wr w.heap.size ov j (exQ xs fs n) 50 cs) ∧ Hid (Below w.heap.size w wr)
theorem XtRel.next {xs fs : List Int} {n N j : Nat} {w wr w1 w2 : World} {v v' : Value} {cs : List Value} {s fine : Bool} {A1 A2 : Option Addr} {k1 c1 k2 c2 nn dd : Nat} {fn fd : Int} {ca : Array Value} {t : TypeId} (hj : j < N) (h : OwnW wr w.heap.size v j (exQ xs fs n) 50 cs) (hb : Below w.heap.size w wr) (h1 : Below wr.heap.size wr w1)
    (hp : Parts w1 (exQ xs fs n j) 50 s (.slice A1 k1 c1) (.slice A2 k2 c2) fine fn fd nn dd) (hown : w2.ownsRow w.heap.size 81 6 v' (j + 1) (cs ++ six s (.slice A1 k1 c1) (.slice A2 k2 c2) fine fn fd)) (hg : (w1.alloc (.cells ca t)).grownBy w2 v.ownBlock) : XtRel xs fs n N w v' (.int .i64 ((j : Int) + 1)) w2 := by
  have hb1 : Below wr.heap.size wr (w1.alloc (.cells ca t)) := h1.alloc h1.size _
  refine ⟨j + 1, _, by simp, hj, Lib.hid (h.push h1 hp hown hg), Lib.hid ?_⟩
  exact (hb.trans (hb1.mono hb.size)).trans (grown_below hg (fun g e => (ownsRow_block h.row e).choose_spec.2.1) (Nat.le_trans hb.size hb1.size))
/-- what is behind the append -/
theorem LW.after {wr w1 w2 : World} {g N B m k : Nat} {ls : Nat → List Rat} {vs : Nat → Value} {ca : Array Value} {t : TypeId} (h : LW wr g N B m ls vs) (hk : k < N) (h1 : Below wr.heap.size wr w1) (hg : (w1.alloc (.cells ca t)).grownBy w2 (vs k).ownBlock) : w2.cell? ⟨g, k, none⟩ = some (vs k) ∧ w2.frozen? ⟨g, k, none⟩ = false := by
  obtain ⟨cs, K, hz, hcs⟩ := h.blk
  have hb2 : Below wr.heap.size wr (w1.alloc (.cells ca t)) := h1.alloc h1.size _
  have K1 := K.belowS hb2
  obtain ⟨cc, hc⟩ := h.els k hk
  have hck := (hc.below h1).below ((Below.refl w1.heap.size w1).alloc (Nat.le_refl _) (.cells ca t))
  have hgne : (vs k).ownBlock ≠ some g := fun e => by
    obtain ⟨cur, e1, _⟩ := ownsRow_block hck.row e
    unfold Blk at K1
    rw [K1] at e1
    injection e1 with e1
    injection e1 with _ e3
    exact absurd e3 (by decide)
  have K2 : Blk w2 g 93 cs := K1.kept hg hgne
  exact ⟨K2.at k (hcs k hk), K2.frz k⟩
theorem LsRel.next {xs fs : List Int} {n N g i k : Nat} {w wr w1 w2 : World} {vs : Nat → Value} {s fine : Bool} {A1 A2 : Option Addr} {k1 c1 k2 c2 nn dd gg cap : Nat} {fn fd : Int} {ca : Array Value} {t : TypeId} {cc : List Value} (hi : i < n) (hg : w.heap.size ≤ g) (hb : Below w.heap.size w wr) (h : LW wr g N w.heap.size 2 (fun y => sel xs fs y i) vs) (hk : k < N) (hr : rowK xs i xs.length = k) (h1 : Below wr.heap.size wr w1)
    (hp : Parts w1 (fq fs i) 2 s (.slice A1 k1 c1) (.slice A2 k2 c2) fine fn fd nn dd) (hc : OwnW wr w.heap.size (vs k) (sel xs fs k i).length (fun j => (sel xs fs k i).getD j 0) 2 cc)
    (hown : w2.ownsRow w.heap.size 81 6 (.slice (some ⟨gg, 0, none⟩) ((sel xs fs k i).length + 1) cap) ((sel xs fs k i).length + 1) (cc ++ six s (.slice A1 k1 c1) (.slice A2 k2 c2) fine fn fd)) (hg2 : (w1.alloc (.cells ca t)).grownBy w2 (vs k).ownBlock) (he : (vs k).ownBlock = some gg ∨ gg = (w1.alloc (.cells ca t)).heap.size) :
    LsRel xs fs n N g w (.int .i64 ((i : Int) + 1)) (w2.setCell ⟨g, k, none⟩ (.slice (some ⟨gg, 0, none⟩) ((sel xs fs k i).length + 1) cap)) := by
  have hb1 : Below wr.heap.size wr (w1.alloc (.cells ca t)) := h1.alloc h1.size _
  have hpu := LW.push h hk h1 hp hc hown hg2 (he.imp (fun e => e.symm) (fun e => by rw [← e]; rfl))
  refine ⟨i + 1, _, by simp, hi, Lib.hid (by rw [← sel_step hr]; exact hpu), Lib.hid ?_⟩
  exact ((hb.trans (hb1.mono hb.size)).trans (grown_below hg2 (fun g e => (ownsRow_block hc.row e).choose_spec.2.1) (Nat.le_trans hb.size hb1.size))).setCell (p := ⟨g, k, none⟩) hg _
set_option maxHeartbeats 2000000 in
set_option maxRecDepth 100000 in
theorem extS_any {A A' : Option Addr} {c c' B B' n : Nat} {fs xs : List Int} (w : World) (hx : RdF w B A n fs) (hB : B ≤ w.heap.size) (hv : AllVF fs n) (hn : n ≤ 16) (hy : RdI w B' A' xs) (hB' : B' ≤ w.heap.size) (h1 : 1 ≤ xs.length) (h3 : xs.length ≤ 3) (hr : ∀ i, i < xs.length → 0 ≤ xs.getD i 0 ∧ xs.getD i 0 ≤ 15) :
    Calls Tryz.prog 122 #[.slice A' xs.length c', .slice A n c] w (WsRet (2 ^ xs.length) (exQ xs fs n) 50 w) := by
  have hN : 2 ^ xs.length ≤ 8 := Nat.pow_le_pow_right (n := 2) (by decide) h3
  have hN1 : 1 ≤ 2 ^ xs.length := Nat.pow_pos (by decide)
  have HK := Lib.hid (fun x => rowK_lt xs x xs.length h3)
  have hp : (2 : Int) ^ xs.length = ((2 ^ xs.length : Nat) : Int) := by simp
  have HX := Lib.hid (hx.more hB)
  have HY := Lib.hid (hy.more hB')
  have HV := Lib.hid hv
  have HR := Lib.hid hr
  clear hx hv hy hr
  generalize 2 ^ xs.length = N at *
  have hws : IntKind.i64.wrap ((2 : Int) ^ xs.length) = (N : Int) := by rw [hp, IntKind.wrap_i64]; omega
  have hw64 : wrap64 ((2 : Int) ^ xs.length) = (N : Int) := by rw [← hws, hp]; unfold wrap64; rw [IntKind.wrap_i64]
  have hmk := fun w => run_makeWs N (by omega) w
  obtain ⟨g, hg⟩ : ∃ g, g = w.heap.size := ⟨_, rfl⟩
  obtain ⟨iw, wi, wz0, wz1, wz2⟩ := info_parts infoW
  have H0 : Hid (LsRel xs fs n N g w (.int .i64 0) (w.alloc (.cells (madeCells #[.slice none 0 0] (N * 1)) 93))) := Lib.hid ⟨0, _, rfl, Nat.zero_le _, Lib.hid (by rw [hg]; exact LW.made w N w.heap.size 2), Lib.hid ((Below.refl _ _).alloc (Nat.le_refl _) _)⟩
  have HG := Lib.hid hg
  clear hp hg
  go_enter Tryz.func122, Tryz.ntmps122
  go_wp2
  rw [← HG.out]
  clear hmk hws hw64
  have hN1' : N * 1 = N := Nat.mul_one N
  rw [hN1'] at H0
  clear hN1'
  go_loopw [6] (fun xv wr => LsRel xs fs n N g w xv wr) (fun xv _ => n - (intOf xv).toNat)
  case atStart => exact H0.out
  case round =>
    obtain ⟨i, vs, rfl, hi, HL, HB⟩ := hrel
    clear H0
    by_cases hlt : i < n
    · go_wp2
      go_loopw [7, 8] (fun yv jv w2 => ∃ j : Nat, jv = .int .i64 (j : Int) ∧ j ≤ xs.length ∧ yv = .int .i64 ((rowK xs i j : Nat) : Int) ∧ w2 = wr) (fun _ jv _ => xs.length - (intOf jv).toNat)
      case atStart => exact ⟨0, rfl, Nat.zero_le _, rfl, rfl⟩
      case round =>
        obtain ⟨j, rfl, hj, rfl, rfl⟩ := hrel
        by_cases hjl : j < xs.length
        · obtain ⟨b, off, rfl, _, hc⟩ := (HY.out.below HB.out (Nat.le_refl _)) (by omega)
          have g1 := hc j hjl
          obtain ⟨r1, r2⟩ := HR.out j hjl
          have HK1 : Hid (rowK xs i (j + 1) = rowK xs i j ||| (PopM.par ((xs.getD j 0).toNat &&& i) <<< j)) := Lib.hid rfl
          have hk := rowK_lt xs i j (by omega)
          have hp8 : 2 ^ j ≤ 2 ^ 3 := Nat.pow_le_pow_right (by decide) (by omega)
          clear hc
          obtain ⟨k', hk'⟩ : ∃ k', k' = rowK xs i (j + 1) := ⟨_, rfl⟩
          rw [← hk'] at HK1
          have HK2 := Lib.hid hk'
          clear hk'
          generalize rowK xs i j = k at *
          generalize xs.getD j 0 = y at *
          obtain ⟨Y, rfl⟩ : ∃ Y : Nat, y = (Y : Int) := ⟨y.toNat, by omega⟩
          rw [Int.toNat_natCast, Nat.and_comm] at HK1
          have hpl := PopM.par_lt (i &&& Y)
          have hor := or_fin ⟨k, by omega⟩ ⟨PopM.par (i &&& Y), hpl⟩ ⟨j, by omega⟩
          replace hor : bits .or .i64 (k : Int) (wrap64 ((PopM.par (i &&& Y) : Int) * (2 : Int) ^ j)) = ((k ||| (PopM.par (i &&& Y) <<< j) : Nat) : Int) := hor
          rw [← HK1.out] at hor
          have HPA := Lib.hid (fun W => parS_any i Y (by omega) (by omega) W)
          go_wp2_with fail
          refine (HPA.out _).mono ?_
          rintro e w1 ⟨rfl, rfl⟩
          go_wp2
          go_roundw
          case rel => exact ⟨j + 1, by simp, hjl, by rw [← HK2.out], by first | trivial | rfl⟩
          case measure => simp [intOf]; omega
        · obtain rfl : j = xs.length := by omega
          obtain ⟨k, hk⟩ : ∃ k, k = rowK xs i xs.length := ⟨_, rfl⟩
          have hkN : k < N := by rw [hk]; exact HK.out i
          rw [← hk]
          have HKE := Lib.hid hk
          clear hk
          obtain ⟨b, off, rfl, hbl, g1, g2⟩ := (HX.out.below HB.out (Nat.le_refl _)).at hlt
          obtain ⟨cc, hcc⟩ := HL.out.els k hkN
          obtain ⟨A3, c3, hv3, _⟩ := hcc.form
          have hcell := HL.out.cell hkN
          rw [hv3] at hcell
          have HW := Lib.hid (fun W => wideOf_any (HV.out i hlt) W)
          have hfq : qf (fs.getD (2 * i) 0) (fs.getD (2 * i + 1) 0) = fq fs i := rfl
          rw [hfq] at HW
          have hsz := HB.out.size
          have hgw := HL.out.lt
          have hll := sel_len xs fs k i
          have HNX := Lib.hid (fun (w1 w2 : World) s fine A1 A2 k1 c1 k2 c2 nn dd gg cap fn fd ca t h1 hp hown hg2 he => LsRel.next (w1 := w1) (w2 := w2) (s := s) (fine := fine) (A1 := A1) (A2 := A2) (k1 := k1) (c1 := c1) (k2 := k2) (c2 := c2) (nn := nn) (dd := dd) (gg := gg) (cap := cap) (fn := fn) (fd := fd) (ca := ca) (t := t) hlt (Nat.le_of_eq HG.out.symm) HB.out HL.out hkN HKE.out.symm h1 hp hcc hown hg2 he)
          have HAF := Lib.hid (fun (w1 w2 : World) ca t h1 hg2 => LW.after (w1 := w1) (w2 := w2) (ca := ca) (t := t) HL.out hkN h1 hg2)
          have HOW := Lib.hid (fun (w1 : World) (h1 : Below wr.heap.size wr w1) => hv3 ▸ ownsRow_below hcc.row h1)
          rw [hv3] at HNX HAF
          clear hfq hcc hv3 HL HB hi
          generalize fs.getD (2 * i) 0 = x0 at *
          generalize fs.getD (2 * i + 1) 0 = x1 at *
          generalize fq fs i = q at *
          generalize hLL : (sel xs fs k i).length = L at *
          have HLL := Lib.hid hLL
          clear hLL
          have HSM := Lib.hid hll
          have hi16 : L ≤ 16 := by omega
          go_wp2
          go_region_law (first
            | (go_simp; go_at_call 67; refine (HW.out _).mono ?_; rintro e w2 ⟨v, rfl, hv, hb2⟩; obtain ⟨s, A1, k1, c1, A2, k2, c2, fine, fn, fd, nn, dd, rfl, hp⟩ := hv; have hb3 : Below wr.heap.size wr w2 := (by first | exact hb2 | exact Base.Below.nextA ((Below.refl wr.heap.size wr).drew) hb2); have hcell2 := (hb3.cell (p := ⟨g, k, none⟩) hgw).trans hcell; have HNN := Lib.hid (fun w3 gg cap ca t hown hg2 he => HNX.out w2 w3 s fine A1 A2 k1 c1 k2 c2 nn dd gg cap fn fd ca t hb3 hp hown hg2 he); have HAA := Lib.hid (fun w3 ca t hg2 => HAF.out w2 w3 ca t hb3 hg2); have HOO := Lib.hid (World.ownsRow.alloc (HOW.out w2 hb3) (.cells #[.bool s, .slice A1 k1 c1, .slice A2 k2 c2, .bool fine, .int .i64 fn, .int .i64 fd] 81)); have hs2 := hb3.size; have hgw2 : g < w2.heap.size := Nat.lt_of_lt_of_le hgw hs2; clear hb2 hb3 hp)
            | (refine step_append_lies _ (by rfl) _ _ _ (by rfl) w.heap.size 81 iw _ 6 80 Tryz.underlying93 wi wz0 wz1 wz2 rfl (by omega) (.slice A3 L c3) L _ (by rfl) HOO.out ⟨w2.heap.size, 0, none⟩ 1 1 [.bool s, .slice A1 k1 c1, .slice A2 k2 c2, .bool fine, .int .i64 fn, .int .i64 fd] (by rfl) (by rfl) (World.news_of_block (cs := #[.bool s, .slice A1 k1 c1, .slice A2 k2 c2, .bool fine, .int .i64 fn, .int .i64 fd]) (t := 81) (fr := (0, 0)) (heap_alloc_new w2 _)) ones_six (by omega) (by simp only [maxLen]; omega) (by omega) (by first | omega | (simp only [World.size_alloc]; omega)) (w2.heap.size + 1) (by simp) ?_; intro gg cap w3 hown' hg' hat hlt2; have HN3 := Lib.hid (HNN.out w3 gg cap _ _ hown' hg' (by rw [World.size_alloc]; exact hat)); have yy := HAA.out w3 _ _ hg'; have y1 := yy.1; have y2 := yy.2; clear hown' hg' hat yy hcell hcell2))
          all_goals
            go_wp2
            go_roundw
            case rel => exact HN3.out
            case measure => simp [intOf]; omega
    · obtain rfl : i = n := by omega
      obtain ⟨w1, rfl⟩ : ∃ x, x = wr := ⟨_, rfl⟩
      have H1 : Hid (XtRel xs fs i N w1 (.slice (some ⟨w1.heap.size, 0, none⟩) 0 0) (.int .i64 0) (w1.alloc (.cells #[] 81))) := Lib.hid ⟨0, [], rfl, Nat.zero_le _, Lib.hid (OwnW.lit0 w1 _ _), Lib.hid ((Below.refl _ _).alloc (Nat.le_refl _) _)⟩
      clear HX HY HR HK
      go_wp2
      go_loopw [9, 10] (fun ov jv w2 => XtRel xs fs i N w1 ov jv w2) (fun _ jv _ => N - (intOf jv).toNat)
      case atStart => exact H1.out
      case round =>
        obtain ⟨j, cs, rfl, hj, HO, HB2⟩ := hrel
        clear H1
        by_cases hlt : j < N
        · have HLw := HL.out.below HB2.out
          have hcell := HLw.cell hlt
          obtain ⟨cc, hcc⟩ := HLw.els j hlt
          obtain ⟨A3, c3, hv3, _⟩ := hcc.form
          rw [hv3] at hcell hcc
          have hll := sel_len xs fs j i
          have HS : Hid (Calls Tryz.prog 66 #[.slice A3 (sel xs fs j i).length c3] wr (WRet (exQ xs fs i j) 50 wr)) := Lib.hid (by
            have hm3 : 2 + (sel xs fs j i).length * (2 + 1) ≤ 50 := by omega
            refine (sum_any wr (hcc.base (Nat.zero_le _)) (Nat.le_refl 2) (by omega) (by omega)).mono fun e w' h => ?_
            obtain ⟨v, e1, h1, h2⟩ := h
            have hsum := sel_sum xs fs j i
            unfold lsum at hsum
            rw [hsum] at h1
            exact ⟨v, e1, h1.more hm3, h2⟩)
          have hsz := HB2.out.size
          clear HLw hcc hv3
          generalize (sel xs fs j i).length = L at *
          go_wp2_with fail
          refine HS.out.mono ?_
          rintro e w2 ⟨v, rfl, hv, hb1⟩
          obtain ⟨s, A1, k1, c1, A2, k2, c2, fine, fn, fd, nn, dd, rfl, hp⟩ := hv
          have hsz1 := hb1.size
          have HN := Lib.hid (fun w3 v' ca t hown hg => XtRel.next (w2 := w3) (v' := v') (ca := ca) (t := t) hlt HO.out HB2.out hb1 hp hown hg)
          have HOA := Lib.hid (World.ownsRow.alloc (ownsRow_below HO.out.row hb1) (.cells #[.bool s, .slice A1 k1 c1, .slice A2 k2 c2, .bool fine, .int .i64 fn, .int .i64 fd] 81))
          clear hp hb1 HO HB2 HS
          go_wp2_with (at_builtin; refine wpList_append_own_at _ rfl (.tmp 60) (.tmp 66) 93 rfl w1.heap.size 81 iw (.agg #[.bool false, .slice none 0 0, .slice none 0 0, .bool false, .int .i64 0, .int .i64 0]) 6 80 Tryz.underlying93 wi wz0 wz1 wz2 rfl (by decide) _ _ _ rfl HOA.out ⟨w2.heap.size, 0, none⟩ 1 1 [.bool s, .slice A1 k1 c1, .slice A2 k2 c2, .bool fine, .int .i64 fn, .int .i64 fd] rfl rfl ?p1a ?p2a ?p3a ?p4a ?p5a ?_)
          try case p1a => exact news_six _ _ (by simp)
          try case p2a => exact ones_six
          try case p3a => first | (simp only [maxLen]; omega) | omega
          try case p4a => omega
          try case p5a => first | (simp only [World.size_alloc]; omega) | omega
          intro v' w3 hown' hg' _ he
          have HN3 := Lib.hid (HN.out w3 v' _ _ hown' hg')
          clear hown' hg' he HN HOA
          go_wp2
          go_roundw
          case rel => exact HN3.out
          case measure => simp [intOf]; omega
        · obtain rfl : j = N := by omega
          obtain ⟨A9, c9, rfl, _⟩ := HO.out.form
          have HF : Hid (WsRet j (exQ xs fs i) 50 w (.returned (.slice A9 j c9)) wr) := Lib.hid ⟨_, cs, rfl, HO.out.base HB.out.size, HB.out.trans (HB2.out.mono HB.out.size)⟩
          clear HO HB2 HL HB
          go_wp2
          go_ret
          exact HF.out
end Go.Proofs.YtionognmgcabbaaGreat.Wide
/- The reference: how far what rows make of a source is from equal chances. -/
namespace Go.Proofs.YtionognmgcabbaaGreat.Wide
open Go.RowKit Go.Proofs.YtionognmgcabbaaGreat Go.Proofs.YtionognmgcabbaaGreat.Base Go.Proofs.YtionognmgcabbaaGreat.Mem Go.Proofs.YtionognmgcabbaaGreat.RatM Go.Proofs.YtionognmgcabbaaGreat.BigM Go.Proofs.YtionognmgcabbaaGreat.Big Go.Proofs.YtionognmgcabbaaGreat.Fine Go.Proofs.YtionognmgcabbaaGreat.Blk Go.Proofs.YtionognmgcabbaaGreat.GaussM Go.Proofs.YtionognmgcabbaaGreat.MemF Go.Proofs.YtionognmgcabbaaGreat.ChM Go.Proofs.YtionognmgcabbaaGreat.ExtM
open Go.Proofs.YtionognmgcabbaaGreat.Ratio (absR disR farQ vf_even)
set_option linter.unusedVariables false
theorem lowV_even {N : Nat} (h : 1 ≤ N) : lowV 1 N = .agg #[.int .i64 1, .int .i64 (N : Int)] := by
  unfold lowV
  rw [show (1 : Int).natAbs = 1 from rfl, Nat.gcd_one_left, Nat.div_one]
  rfl
def EvRel (N : Nat) (w : World) (ov jv : Value) (wr : World) : Prop :=
  ∃ (j : Nat) (cs : List Value), jv = .int .i64 (j : Int) ∧ j ≤ N ∧ Hid (OwnW wr w.heap.size ov j (fun _ => qf 1 (N : Int)) 2 cs) ∧ Hid (Below w.heap.size w wr)
theorem EvRel.next {N j : Nat} {w wr w1 w2 : World} {v v' : Value} {cs : List Value} {s fine : Bool} {A1 A2 : Option Addr} {k1 c1 k2 c2 nn dd : Nat} {fn fd : Int} {ca : Array Value} {t : TypeId} (hj : j < N) (h : OwnW wr w.heap.size v j (fun _ => qf 1 (N : Int)) 2 cs) (hb : Below w.heap.size w wr) (h1 : Below wr.heap.size wr w1)
    (hp : Parts w1 (qf 1 (N : Int)) 2 s (.slice A1 k1 c1) (.slice A2 k2 c2) fine fn fd nn dd) (hown : w2.ownsRow w.heap.size 81 6 v' (j + 1) (cs ++ six s (.slice A1 k1 c1) (.slice A2 k2 c2) fine fn fd)) (hg : (w1.alloc (.cells ca t)).grownBy w2 v.ownBlock) : EvRel N w v' (.int .i64 ((j : Int) + 1)) w2 := by
  have hb1 : Below wr.heap.size wr (w1.alloc (.cells ca t)) := h1.alloc h1.size _
  refine ⟨j + 1, _, by simp, hj, Lib.hid (h.push h1 hp hown hg), Lib.hid ?_⟩
  exact (hb.trans (hb1.mono hb.size)).trans (grown_below hg (fun g e => (ownsRow_block h.row e).choose_spec.2.1) (Nat.le_trans hb.size hb1.size))
set_option maxHeartbeats 2000000 in
set_option maxRecDepth 100000 in
theorem evenS_any {N : Nat} (h1 : 1 ≤ N) (h2 : N ≤ 1000) (w : World) : Calls Tryz.prog 123 #[.int .i64 (N : Int)] w (WsRet N (fun _ => qf 1 (N : Int)) 2 w) := by
  obtain ⟨iw, wi, wz0, wz1, wz2⟩ := info_parts infoW
  have HM : Hid (∀ W, Calls Tryz.prog 68 #[.int .i64 1, .int .i64 (N : Int)] W fun e w' => e = .returned (.agg #[.int .i64 1, .int .i64 (N : Int)]) ∧ Below W.heap.size W w') := Lib.hid fun W => by
    have := fMakeG 1 N (by decide) (by decide) h1 (by omega) W
    rwa [lowV_even h1] at this
  have HW := Lib.hid (fun W => wideOf_any (vf_even h1 h2) W)
  have H0 : Hid (EvRel N w (.slice (some ⟨w.heap.size, 0, none⟩) 0 0) (.int .i64 0) (w.alloc (.cells #[] 81))) := Lib.hid ⟨0, [], rfl, Nat.zero_le _, Lib.hid (OwnW.lit0 w _ _), Lib.hid ((Below.refl _ _).alloc (Nat.le_refl _) _)⟩
  go_enter Tryz.func123, Tryz.ntmps123
  go_wp2
  go_loopw [3, 4] (fun ov jv wr => EvRel N w ov jv wr) (fun _ jv _ => N - (intOf jv).toNat)
  case atStart => exact H0.out
  case round =>
    obtain ⟨j, cs, rfl, hj, HO, HB⟩ := hrel
    clear H0
    by_cases hlt : j < N
    · have hsz := HB.out.size
      go_wp2_with fail
      refine (HM.out _).mono ?_
      rintro e w1 ⟨rfl, hb1⟩
      have HB1 := Lib.hid hb1
      clear hb1
      go_wp2_with fail
      refine (HW.out _).mono ?_
      rintro e w2 ⟨v, rfl, hv, hb2⟩
      obtain ⟨s, A1, k1, c1, A2, k2, c2, fine, fn, fd, nn, dd, rfl, hp⟩ := hv
      have hb3 := Base.Below.nextA HB1.out hb2
      have hsz1 := hb3.size
      have HN := Lib.hid (fun w3 v' ca t hown hg => EvRel.next (w2 := w3) (v' := v') (ca := ca) (t := t) hlt HO.out HB.out hb3 hp hown hg)
      have HOA := Lib.hid (World.ownsRow.alloc (ownsRow_below HO.out.row hb3) (.cells #[.bool s, .slice A1 k1 c1, .slice A2 k2 c2, .bool fine, .int .i64 fn, .int .i64 fd] 81))
      clear hp hb2 hb3 HO HB HB1
      go_wp2_with (at_builtin; refine wpList_append_own_at _ rfl (.tmp 11) (.tmp 15) 93 rfl w.heap.size 81 iw (.agg #[.bool false, .slice none 0 0, .slice none 0 0, .bool false, .int .i64 0, .int .i64 0]) 6 80 Tryz.underlying93 wi wz0 wz1 wz2 rfl (by decide) _ _ _ rfl HOA.out ⟨w2.heap.size, 0, none⟩ 1 1 [.bool s, .slice A1 k1 c1, .slice A2 k2 c2, .bool fine, .int .i64 fn, .int .i64 fd] rfl rfl ?p1a ?p2a ?p3a ?p4a ?p5a ?_)
      try case p1a => exact news_six _ _ (by simp)
      try case p2a => exact ones_six
      try case p3a => first | (simp only [maxLen]; omega) | omega
      try case p4a => omega
      try case p5a => first | (simp only [World.size_alloc]; omega) | omega
      intro v' w3 hown' hg' _ he
      have HN3 := Lib.hid (HN.out w3 v' _ _ hown' hg')
      clear hown' hg' he HN HOA
      go_wp2
      go_roundw
      case rel => exact HN3.out
      case measure => simp [intOf]; omega
    · obtain rfl : j = N := by omega
      obtain ⟨A9, c9, rfl, _⟩ := HO.out.form
      have HF : Hid (WsRet j (fun _ => qf 1 (j : Int)) 2 w (.returned (.slice A9 j c9)) wr) := Lib.hid ⟨_, cs, rfl, HO.out, HB.out⟩
      clear HO HB
      go_wp2
      go_ret
      exact HF.out
set_option maxHeartbeats 2000000 in
set_option maxRecDepth 100000 in
theorem farS_any {A A' : Option Addr} {c c' B B' n : Nat} {fs xs : List Int} (w : World) (hx : RdF w B A n fs) (hB : B ≤ w.heap.size) (hv : AllVF fs n) (hn : n ≤ 16) (hy : RdI w B' A' xs) (hB' : B' ≤ w.heap.size) (h1 : 1 ≤ xs.length) (h3 : xs.length ≤ 3) (hr : ∀ i, i < xs.length → 0 ≤ xs.getD i 0 ∧ xs.getD i 0 ≤ 15) :
    Calls Tryz.prog 58 #[.slice A' xs.length c', .slice A n c] w (WRet (farQ xs fs n) 468 w) := by
  have hN : 2 ^ xs.length ≤ 8 := pow_len h3
  have hN1 : 1 ≤ 2 ^ xs.length := Nat.pow_pos (by decide)
  have hb0 : Below w.heap.size w (w.alloc (.cells #[.bool false, .slice none 0 0, .slice none 0 0, .bool false, .int .i64 0, .int .i64 0] 81)) := (Below.refl _ _).alloc (Nat.le_refl _) _
  have KR0 : Hid (Blk (w.alloc (.cells #[.bool false, .slice none 0 0, .slice none 0 0, .bool false, .int .i64 0, .int .i64 0] 81)) w.heap.size 81 #[.bool false, .slice none 0 0, .slice none 0 0, .bool false, .int .i64 0, .int .i64 0]) := Lib.hid (Blk.new w _ _)
  have HE := Lib.hid (extS_any (c := c) (c' := c') _ (hx.below hb0 hB) (Nat.le_trans hB hb0.size) hv hn (hy.below hb0 hB') (Nat.le_trans hB' hb0.size) h1 h3 hr)
  have HQ : Hid (farQ xs fs n = disR (2 ^ xs.length) (exQ xs fs n) (fun _ => qf 1 ((2 ^ xs.length : Nat) : Int))) := Lib.hid rfl
  have HB0 := Lib.hid hb0
  clear hx hv hy hr hb0
  generalize exQ xs fs n = f at *
  generalize 2 ^ xs.length = N at *
  have HEV := Lib.hid (fun W => evenS_any (N := N) hN1 (by omega) W)
  go_enter Tryz.func58, Tryz.ntmps58
  go_wp2_with fail
  refine HE.out.mono ?_
  rintro e w1 ⟨v, cs, rfl, ho, hb1⟩
  obtain ⟨A1, c1, rfl, _⟩ := ho.form
  have HB1 := Lib.hid (Base.Below.nextA HB0.out hb1)
  have KR1 := Lib.hid (KR0.out.belowS hb1)
  have HO1 := Lib.hid ho
  clear ho hb1 KR0 HB0 HE
  go_wp2_with fail
  refine (HEV.out _).mono ?_
  rintro e w2 ⟨v, cs2, rfl, ho, hb2⟩
  obtain ⟨A2, c2, rfl, _⟩ := ho.form
  have HB2 := Lib.hid (Base.Below.nextA HB1.out hb2)
  have KR2 := Lib.hid (KR1.out.belowS hb2)
  have hN58 : 4 + N * (50 + 2 + 6) ≤ 468 := by omega
  have HD := Lib.hid (disS_any w2 ((HO1.out.below hb2).base (Nat.zero_le _)) (ho.base (Nat.zero_le _)) (by decide) (by decide) (by omega) (by omega) (by decide))
  rw [← HQ.out] at HD
  clear ho hb2 HO1 KR1 HB1 HEV
  go_wp2_with fail
  refine HD.out.mono ?_
  rintro e w3 ⟨v, rfl, hv, hb3⟩
  obtain ⟨s, A1, k1, c1', A2, k2, c2', fine, fn, fd, nn, dd, rfl, hpz⟩ := hv
  have KRq := KR2.out.belowS hb3
  have HBq := Base.Below.nextA HB2.out hb3
  have HP2 := Lib.hid (hpz.more hN58)
  clear hb3 hpz HD KR2 HB2 HQ
  have z0 := (KRq).frz 0
  have z1 := (KRq).frz 1
  have z2 := (KRq).frz 2
  have z3 := (KRq).frz 3
  have z4 := (KRq).frz 4
  have z5 := (KRq).frz 5
  have c0 := (KRq).at 0 (v := .bool false) rfl
  have c1 := (KRq).at 1 (v := .slice none 0 0) rfl
  have c2 := (KRq).at 2 (v := .slice none 0 0) rfl
  have c3 := (KRq).at 3 (v := .bool false) rfl
  have c4 := (KRq).at 4 (v := .int .i64 0) rfl
  have c5 := (KRq).at 5 (v := .int .i64 0) rfl
  have SS := put6_blk (KRq) (.bool s) (.slice A1 k1 c1') (.slice A2 k2 c2') (.bool fine) (.int .i64 fn) (.int .i64 fd)
  unfold put6 at SS
  have s0 := SS.at 0 rfl
  have s1 := SS.at 1 rfl
  have s2 := SS.at 2 rfl
  have s3 := SS.at 3 rfl
  have s4 := SS.at 4 rfl
  have s5 := SS.at 5 rfl
  have HFIN := Lib.hid (WRet.put (HP2.out) (KRq) (HBq) (Nat.le_refl _))
  clear SS
  go_wp2
  refine bodyPost_ret (v := .agg #[.bool s, .slice A1 k1 c1', .slice A2 k2 c2', .bool fine, .int .i64 fn, .int .i64 fd]) (by simp [results, Tryz.results58, go_sem, s0, s1, s2, s3, s4, s5]) rfl ?_
  exact HFIN.out
end Go.Proofs.YtionognmgcabbaaGreat.Wide
/- The reference: a list of fractions of any size is given, if all are small. -/
namespace Go.Proofs.YtionognmgcabbaaGreat.Wide
open Go.RowKit Go.Proofs.YtionognmgcabbaaGreat Go.Proofs.YtionognmgcabbaaGreat.Base Go.Proofs.YtionognmgcabbaaGreat.Mem Go.Proofs.YtionognmgcabbaaGreat.RatM Go.Proofs.YtionognmgcabbaaGreat.BigM Go.Proofs.YtionognmgcabbaaGreat.Big Go.Proofs.YtionognmgcabbaaGreat.Fine Go.Proofs.YtionognmgcabbaaGreat.Blk Go.Proofs.YtionognmgcabbaaGreat.MemF Go.Proofs.YtionognmgcabbaaGreat.GiveM
set_option linter.unusedVariables false
set_option maxHeartbeats 2000000 in
set_option maxRecDepth 100000 in
theorem giveS_any {v : Value} {n m : Nat} {f : Nat → Rat} {cs : List Value} (w : World) (hx : OwnW w 0 v n f m cs) (hm : m ≤ 400000) (hn : n ≤ 1000) : Calls Tryz.prog 79 #[v] w (FsRet (gN f n) (gR f n) (smallAll f n) w) := by
  obtain ⟨A, c, rfl, _⟩ := hx.form
  have HX := Lib.hid hx
  obtain ⟨i2, ki, kz0, kz1, kz2⟩ := info_parts infoFr
  have H0 := Lib.hid (GRel.start f n w)
  clear hx
  go_enter Tryz.func79, Tryz.ntmps79
  go_wp2
  go_loopw [5, 4] (fun iv sv wr => GRel f n w iv sv wr) (fun iv _ _ => n - (intOf iv).toNat)
  case atStart => exact H0.out
  case round =>
    obtain ⟨i, rfl, hi, HO, HA, HB⟩ := hrel
    clear H0
    by_cases hlt : i < n
    · obtain ⟨g, s', B1, j1, e1, B2, j2, e2, fb, gn, gd, n', d', rfl, hgl, y0, y1, y2, y3, y4, y5, hp'⟩ := (HX.out.below HB.out).at hlt
      have HE : IsW wr (f i) m (.agg #[.bool s', .slice B1 j1 e1, .slice B2 j2 e2, .bool fb, .int .i64 gn, .int .i64 gd]) := ⟨_, _, _, _, _, _, _, _, _, _, _, _, rfl, hp'⟩
      have HG := Lib.hid (give_any wr HE hm)
      have HF : Hid (∀ w1 w2 v' cs t, smallQ (f i) = true → Below wr.heap.size wr w1 → _ → _ → _) := Lib.hid (fun w1 w2 v' cs t hv h1 hown hg => GRel.next (w1 := w1) (w2 := w2) (v' := v') (cs := cs) (t := t) hlt HO.out HA.out hv HB.out h1 hown hg)
      have HNO := Lib.hid (fun h => GiveM.small_no hlt (show smallQ (f i) = false from h))
      clear HE hp' hgl
      generalize f i = q at *
      unfold FRet at HG
      generalize numQ q = P at *
      generalize denQ q = Q at *
      go_wp2_with fail
      refine HG.out.mono ?_
      rintro e w1 ⟨rfl, hb1⟩
      have HB1 := Lib.hid hb1
      clear hb1 y0 y1 y2 y3 y4 y5 HG
      go_upto_region 6 with (fail)
      obtain ⟨W2, hW2⟩ : ∃ W2, W2 = w1.alloc (.cells #[.int .i64 P, .int .i64 Q] 43) := ⟨_, rfl⟩
      rw [← hW2]
      have K2 : Hid (Blk W2 w1.heap.size 43 #[.int .i64 P, .int .i64 Q]) := Lib.hid (by rw [hW2]; exact Blk.new w1 _ _)
      have HB2 : Hid (Below wr.heap.size wr W2) := Lib.hid (by rw [hW2]; exact HB1.out.alloc HB1.out.size _)
      have hsz := HB.out.size
      have hsz2 := HB2.out.size
      cases hs : smallQ q with
      | false =>
        have HN := Lib.hid (HNO.out hs)
        have HBB := Lib.hid (Base.Below.nextA HB.out HB2.out)
        clear hW2 hs HNO HF
        go_wp2
        go_ret2
        rw [HN.out.1, HN.out.2.1, HN.out.2.2]
        exact FsRet.no HBB.out
      | true =>
        have HNN := Lib.hid (fun w3 v' cs t hown hg => HF.out W2 w3 v' cs t hs HB2.out hown hg)
        have HW2 := Lib.hid (World.ownsRow.alloc (ownsRow_below HO.out HB2.out) (.cells #[.int .i64 P, .int .i64 Q] 43))
        have x0 := K2.out.at 0 (v := .int .i64 P) rfl
        have x1 := K2.out.at 1 (v := .int .i64 Q) rfl
        clear hW2 hs HNO HF HO HA HB HB1 HB2
        go_wp2_with (at_builtin; refine wpList_append_own_at _ rfl (.tmp 25) (.tmp 27) 28 rfl w.heap.size 43 i2 (.agg #[.int .i64 0, .int .i64 0]) 2 16 Tryz.underlying28 ki kz0 kz1 kz2 rfl (by decide) _ _ _ rfl HW2.out ⟨W2.heap.size, 0, none⟩ 1 1 [.int .i64 P, .int .i64 Q] rfl rfl ?p1a ?p2a ?p3a ?p4a ?p5a ?_)
        try case p1a => exact MemF.news_two _ _ (by simp)
        try case p2a => exact MemF.ones_two
        try case p3a => first | (simp only [maxLen]; omega) | omega
        try case p4a => omega
        try case p5a => first | (simp only [World.size_alloc]; omega) | omega
        intro v' w3 hown' hg' _ he
        have HN3 := Lib.hid (HNN.out w3 v' _ _ hown' hg')
        clear hown' hg' he HNN HW2
        go_wp2
        go_roundw
        case rel => exact HN3.out
        case measure => simp [intOf]; omega
    · obtain rfl : i = n := by omega
      obtain ⟨A', cp, rfl, _⟩ := HO.out.form
      have HY := Lib.hid (GiveM.small_yes' HA.out)
      clear HA
      go_wp2
      go_ret2
      rw [HY.out.1, HY.out.2.1, HY.out.2.2]
      exact ⟨A', cp, rfl, HO.out, HB.out⟩
end Go.Proofs.YtionognmgcabbaaGreat.Wide
/- The reference: whether numbers are rows for a source. -/
namespace Go.Proofs.YtionognmgcabbaaGreat.RowsS
open Go.RowKit Go.Proofs.YtionognmgcabbaaGreat Go.Proofs.YtionognmgcabbaaGreat.Base Go.Proofs.YtionognmgcabbaaGreat.Mem Go.Proofs.YtionognmgcabbaaGreat.AllIn Go.Proofs.YtionognmgcabbaaGreat.ChM
set_option linter.unusedVariables false
set_option maxHeartbeats 4000000 in
set_option maxRecDepth 100000 in
theorem rowsS_any {A : Option Addr} {c B k : Nat} {xs : List Int} (w : World) (hx : RdI w B A xs) (hm : xs.length ≤ 9223372036854775807) (h1 : 1 ≤ k) (h4 : k ≤ 4) : Calls Tryz.prog 56 #[.slice A xs.length c, .int .i64 (k : Int)] w fun e w' => e = .returned (.bool (inR (xs.length : Int) 1 3 && allInB xs 0 ((2 ^ k : Nat) - 1 : Int))) ∧ w = w' := by
  have HX := Lib.hid hx
  clear hx
  have h : k = 1 ∨ k = 2 ∨ k = 3 ∨ k = 4 := by omega
  rcases h with rfl | rfl | rfl | rfl
  · rw [show (((2 ^ 1 : Nat) : Int) - 1) = 1 by decide, show (((1 : Nat)) : Int) = (1 : Int) from rfl]
    go_enter Tryz.func56, Tryz.ntmps56
    go_wp2
    go_loopw [5] (fun iv wr => ∃ i : Nat, iv = .int .i64 (i : Int) ∧ i ≤ xs.length ∧ Hid (∀ j, j < i → inR (xs.getD j 0) 0 1 = true) ∧ wr = w) (fun iv _ => xs.length - (intOf iv).toNat)
    case atStart => exact ⟨0, rfl, Nat.zero_le _, Lib.hid fun j hj => absurd hj (Nat.not_lt_zero j), rfl⟩
    case round =>
      obtain ⟨i, rfl, hi, hall, rfl⟩ := hrel
      by_cases hlt : i < xs.length
      · obtain ⟨b, off, rfl, _, hc⟩ := HX.out (by omega)
        have g := hc i hlt
        clear hc
        cases hr : inR (xs.getD i 0) 0 1 with
        | false =>
          have HE : Hid ((inR (xs.length : Int) 1 3 && allInB xs 0 1) = false) := Lib.hid (by rw [allInB_no hlt hr, Bool.and_false])
          have HR := Lib.hid hr
          clear hr hall
          generalize xs.getD i 0 = x at *
          go_wp2_with fail
          refine (l00In_any _ _ _ _).mono ?_
          rintro e w1 ⟨rfl, rfl⟩
          rw [HR.out]
          go_wp2
          go_ret
          exact ⟨by rw [HE.out]; rfl, rfl⟩
        | true =>
          have hn : Hid (∀ j, j < i + 1 → inR (xs.getD j 0) 0 1 = true) := Lib.hid fun j hj => by
            rcases Nat.lt_or_ge j i with h | h
            · exact hall.out j h
            · obtain rfl : j = i := by omega
              exact hr
          have HR := Lib.hid hr
          clear hr hall
          generalize xs.getD i 0 = x at *
          go_wp2_with fail
          refine (l00In_any _ _ _ _).mono ?_
          rintro e w1 ⟨rfl, rfl⟩
          rw [HR.out]
          go_wp2
          go_roundw
          case rel => exact ⟨i + 1, by simp, hlt, hn, by first | trivial | rfl⟩
          case measure => simp [intOf]; omega
      · obtain rfl : i = xs.length := by omega
        have HE : Hid ((inR (xs.length : Int) 1 3 && allInB xs 0 1) = inR (xs.length : Int) 1 3) := Lib.hid (by rw [allInB_of hall.out, Bool.and_true])
        clear hall
        by_cases h1 : 1 ≤ xs.length
        · by_cases h3 : xs.length ≤ 3
          · have HR := Lib.hid (inR_yes (n := (xs.length : Int)) (lo := 1) (hi := 3) (by omega))
            go_wp2
            go_ret
            exact ⟨by rw [HE.out, HR.out]; first | (simp; done) | (simp; omega), rfl⟩
          · have HR := Lib.hid (inR_no (n := (xs.length : Int)) (lo := 1) (hi := 3) (by omega))
            go_wp2
            go_ret
            exact ⟨by rw [HE.out, HR.out]; first | (simp; done) | (simp; omega), rfl⟩
        · have HR := Lib.hid (inR_no (n := (xs.length : Int)) (lo := 1) (hi := 3) (by omega))
          go_wp2
          go_ret
          exact ⟨by rw [HE.out, HR.out]; first | (simp; done) | (simp; omega), rfl⟩
  · rw [show (((2 ^ 2 : Nat) : Int) - 1) = 3 by decide, show (((2 : Nat)) : Int) = (2 : Int) from rfl]
    go_enter Tryz.func56, Tryz.ntmps56
    go_wp2
    go_loopw [5] (fun iv wr => ∃ i : Nat, iv = .int .i64 (i : Int) ∧ i ≤ xs.length ∧ Hid (∀ j, j < i → inR (xs.getD j 0) 0 3 = true) ∧ wr = w) (fun iv _ => xs.length - (intOf iv).toNat)
    case atStart => exact ⟨0, rfl, Nat.zero_le _, Lib.hid fun j hj => absurd hj (Nat.not_lt_zero j), rfl⟩
    case round =>
      obtain ⟨i, rfl, hi, hall, rfl⟩ := hrel
      by_cases hlt : i < xs.length
      · obtain ⟨b, off, rfl, _, hc⟩ := HX.out (by omega)
        have g := hc i hlt
        clear hc
        cases hr : inR (xs.getD i 0) 0 3 with
        | false =>
          have HE : Hid ((inR (xs.length : Int) 1 3 && allInB xs 0 3) = false) := Lib.hid (by rw [allInB_no hlt hr, Bool.and_false])
          have HR := Lib.hid hr
          clear hr hall
          generalize xs.getD i 0 = x at *
          go_wp2_with fail
          refine (l00In_any _ _ _ _).mono ?_
          rintro e w1 ⟨rfl, rfl⟩
          rw [HR.out]
          go_wp2
          go_ret
          exact ⟨by rw [HE.out]; rfl, rfl⟩
        | true =>
          have hn : Hid (∀ j, j < i + 1 → inR (xs.getD j 0) 0 3 = true) := Lib.hid fun j hj => by
            rcases Nat.lt_or_ge j i with h | h
            · exact hall.out j h
            · obtain rfl : j = i := by omega
              exact hr
          have HR := Lib.hid hr
          clear hr hall
          generalize xs.getD i 0 = x at *
          go_wp2_with fail
          refine (l00In_any _ _ _ _).mono ?_
          rintro e w1 ⟨rfl, rfl⟩
          rw [HR.out]
          go_wp2
          go_roundw
          case rel => exact ⟨i + 1, by simp, hlt, hn, by first | trivial | rfl⟩
          case measure => simp [intOf]; omega
      · obtain rfl : i = xs.length := by omega
        have HE : Hid ((inR (xs.length : Int) 1 3 && allInB xs 0 3) = inR (xs.length : Int) 1 3) := Lib.hid (by rw [allInB_of hall.out, Bool.and_true])
        clear hall
        by_cases h1 : 1 ≤ xs.length
        · by_cases h3 : xs.length ≤ 3
          · have HR := Lib.hid (inR_yes (n := (xs.length : Int)) (lo := 1) (hi := 3) (by omega))
            go_wp2
            go_ret
            exact ⟨by rw [HE.out, HR.out]; first | (simp; done) | (simp; omega), rfl⟩
          · have HR := Lib.hid (inR_no (n := (xs.length : Int)) (lo := 1) (hi := 3) (by omega))
            go_wp2
            go_ret
            exact ⟨by rw [HE.out, HR.out]; first | (simp; done) | (simp; omega), rfl⟩
        · have HR := Lib.hid (inR_no (n := (xs.length : Int)) (lo := 1) (hi := 3) (by omega))
          go_wp2
          go_ret
          exact ⟨by rw [HE.out, HR.out]; first | (simp; done) | (simp; omega), rfl⟩
  · rw [show (((2 ^ 3 : Nat) : Int) - 1) = 7 by decide, show (((3 : Nat)) : Int) = (3 : Int) from rfl]
    go_enter Tryz.func56, Tryz.ntmps56
    go_wp2
    go_loopw [5] (fun iv wr => ∃ i : Nat, iv = .int .i64 (i : Int) ∧ i ≤ xs.length ∧ Hid (∀ j, j < i → inR (xs.getD j 0) 0 7 = true) ∧ wr = w) (fun iv _ => xs.length - (intOf iv).toNat)
    case atStart => exact ⟨0, rfl, Nat.zero_le _, Lib.hid fun j hj => absurd hj (Nat.not_lt_zero j), rfl⟩
    case round =>
      obtain ⟨i, rfl, hi, hall, rfl⟩ := hrel
      by_cases hlt : i < xs.length
      · obtain ⟨b, off, rfl, _, hc⟩ := HX.out (by omega)
        have g := hc i hlt
        clear hc
        cases hr : inR (xs.getD i 0) 0 7 with
        | false =>
          have HE : Hid ((inR (xs.length : Int) 1 3 && allInB xs 0 7) = false) := Lib.hid (by rw [allInB_no hlt hr, Bool.and_false])
          have HR := Lib.hid hr
          clear hr hall
          generalize xs.getD i 0 = x at *
          go_wp2_with fail
          refine (l00In_any _ _ _ _).mono ?_
          rintro e w1 ⟨rfl, rfl⟩
          rw [HR.out]
          go_wp2
          go_ret
          exact ⟨by rw [HE.out]; rfl, rfl⟩
        | true =>
          have hn : Hid (∀ j, j < i + 1 → inR (xs.getD j 0) 0 7 = true) := Lib.hid fun j hj => by
            rcases Nat.lt_or_ge j i with h | h
            · exact hall.out j h
            · obtain rfl : j = i := by omega
              exact hr
          have HR := Lib.hid hr
          clear hr hall
          generalize xs.getD i 0 = x at *
          go_wp2_with fail
          refine (l00In_any _ _ _ _).mono ?_
          rintro e w1 ⟨rfl, rfl⟩
          rw [HR.out]
          go_wp2
          go_roundw
          case rel => exact ⟨i + 1, by simp, hlt, hn, by first | trivial | rfl⟩
          case measure => simp [intOf]; omega
      · obtain rfl : i = xs.length := by omega
        have HE : Hid ((inR (xs.length : Int) 1 3 && allInB xs 0 7) = inR (xs.length : Int) 1 3) := Lib.hid (by rw [allInB_of hall.out, Bool.and_true])
        clear hall
        by_cases h1 : 1 ≤ xs.length
        · by_cases h3 : xs.length ≤ 3
          · have HR := Lib.hid (inR_yes (n := (xs.length : Int)) (lo := 1) (hi := 3) (by omega))
            go_wp2
            go_ret
            exact ⟨by rw [HE.out, HR.out]; first | (simp; done) | (simp; omega), rfl⟩
          · have HR := Lib.hid (inR_no (n := (xs.length : Int)) (lo := 1) (hi := 3) (by omega))
            go_wp2
            go_ret
            exact ⟨by rw [HE.out, HR.out]; first | (simp; done) | (simp; omega), rfl⟩
        · have HR := Lib.hid (inR_no (n := (xs.length : Int)) (lo := 1) (hi := 3) (by omega))
          go_wp2
          go_ret
          exact ⟨by rw [HE.out, HR.out]; first | (simp; done) | (simp; omega), rfl⟩
  · rw [show (((2 ^ 4 : Nat) : Int) - 1) = 15 by decide, show (((4 : Nat)) : Int) = (4 : Int) from rfl]
    go_enter Tryz.func56, Tryz.ntmps56
    go_wp2
    go_loopw [5] (fun iv wr => ∃ i : Nat, iv = .int .i64 (i : Int) ∧ i ≤ xs.length ∧ Hid (∀ j, j < i → inR (xs.getD j 0) 0 15 = true) ∧ wr = w) (fun iv _ => xs.length - (intOf iv).toNat)
    case atStart => exact ⟨0, rfl, Nat.zero_le _, Lib.hid fun j hj => absurd hj (Nat.not_lt_zero j), rfl⟩
    case round =>
      obtain ⟨i, rfl, hi, hall, rfl⟩ := hrel
      by_cases hlt : i < xs.length
      · obtain ⟨b, off, rfl, _, hc⟩ := HX.out (by omega)
        have g := hc i hlt
        clear hc
        cases hr : inR (xs.getD i 0) 0 15 with
        | false =>
          have HE : Hid ((inR (xs.length : Int) 1 3 && allInB xs 0 15) = false) := Lib.hid (by rw [allInB_no hlt hr, Bool.and_false])
          have HR := Lib.hid hr
          clear hr hall
          generalize xs.getD i 0 = x at *
          go_wp2_with fail
          refine (l00In_any _ _ _ _).mono ?_
          rintro e w1 ⟨rfl, rfl⟩
          rw [HR.out]
          go_wp2
          go_ret
          exact ⟨by rw [HE.out]; rfl, rfl⟩
        | true =>
          have hn : Hid (∀ j, j < i + 1 → inR (xs.getD j 0) 0 15 = true) := Lib.hid fun j hj => by
            rcases Nat.lt_or_ge j i with h | h
            · exact hall.out j h
            · obtain rfl : j = i := by omega
              exact hr
          have HR := Lib.hid hr
          clear hr hall
          generalize xs.getD i 0 = x at *
          go_wp2_with fail
          refine (l00In_any _ _ _ _).mono ?_
          rintro e w1 ⟨rfl, rfl⟩
          rw [HR.out]
          go_wp2
          go_roundw
          case rel => exact ⟨i + 1, by simp, hlt, hn, by first | trivial | rfl⟩
          case measure => simp [intOf]; omega
      · obtain rfl : i = xs.length := by omega
        have HE : Hid ((inR (xs.length : Int) 1 3 && allInB xs 0 15) = inR (xs.length : Int) 1 3) := Lib.hid (by rw [allInB_of hall.out, Bool.and_true])
        clear hall
        by_cases h1 : 1 ≤ xs.length
        · by_cases h3 : xs.length ≤ 3
          · have HR := Lib.hid (inR_yes (n := (xs.length : Int)) (lo := 1) (hi := 3) (by omega))
            go_wp2
            go_ret
            exact ⟨by rw [HE.out, HR.out]; first | (simp; done) | (simp; omega), rfl⟩
          · have HR := Lib.hid (inR_no (n := (xs.length : Int)) (lo := 1) (hi := 3) (by omega))
            go_wp2
            go_ret
            exact ⟨by rw [HE.out, HR.out]; first | (simp; done) | (simp; omega), rfl⟩
        · have HR := Lib.hid (inR_no (n := (xs.length : Int)) (lo := 1) (hi := 3) (by omega))
          go_wp2
          go_ret
          exact ⟨by rw [HE.out, HR.out]; first | (simp; done) | (simp; omega), rfl⟩
end Go.Proofs.YtionognmgcabbaaGreat.RowsS
/- The reference: whether a list are chances; the bits of a source. -/
namespace Go.Proofs.YtionognmgcabbaaGreat.Wide
open Go.RowKit Go.Proofs.YtionognmgcabbaaGreat Go.Proofs.YtionognmgcabbaaGreat.Base Go.Proofs.YtionognmgcabbaaGreat.Mem Go.Proofs.YtionognmgcabbaaGreat.RatM Go.Proofs.YtionognmgcabbaaGreat.BigM Go.Proofs.YtionognmgcabbaaGreat.Big Go.Proofs.YtionognmgcabbaaGreat.Fine Go.Proofs.YtionognmgcabbaaGreat.Blk Go.Proofs.YtionognmgcabbaaGreat.GaussM Go.Proofs.YtionognmgcabbaaGreat.MemF Go.Proofs.YtionognmgcabbaaGreat.ValF Go.Proofs.YtionognmgcabbaaGreat.ChM
set_option linter.unusedVariables false
set_option maxHeartbeats 1000000 in
theorem fAll_any {A : Option Addr} {c B n : Nat} {fs : List Int} (w : World) (hx : RdF w B A n fs) (hB : B ≤ w.heap.size) (hn : n ≤ 1099511627776) : Calls Tryz.prog 160 #[.slice A n c] w fun e w' => e = .returned (.bool (vfAll fs n)) ∧ Below w.heap.size w w' := by
  have HX := Lib.hid (hx.more hB)
  clear hx
  go_enter Tryz.func160, Tryz.ntmps160
  go_wp2
  go_loopw [3] (fun iv wr => ∃ i : Nat, iv = .int .i64 (i : Int) ∧ i ≤ n ∧ Hid (∀ j, j < i → vfB (fs.getD (2 * j) 0) (fs.getD (2 * j + 1) 0) = true) ∧ Hid (Below w.heap.size w wr)) (fun iv _ => n - (intOf iv).toNat)
  case atStart => exact ⟨0, rfl, Nat.zero_le _, Lib.hid fun j hj => absurd hj (Nat.not_lt_zero j), Lib.hid (Below.refl _ _)⟩
  case round =>
    obtain ⟨i, rfl, hi, hall, HB⟩ := hrel
    by_cases hlt : i < n
    · obtain ⟨b, off, rfl, hbl, g1, g2⟩ := (HX.out.below HB.out (Nat.le_refl _)).at hlt
      have HV := Lib.hid (fun W => validS_any (fs.getD (2 * i) 0) (fs.getD (2 * i + 1) 0) W)
      have HNO := Lib.hid (fun h => (show vfAll fs n = false from all_no hlt h))
      have HYES := Lib.hid (fun (h : vfB (fs.getD (2 * i) 0) (fs.getD (2 * i + 1) 0) = true) j (hj : j < i + 1) => (show vfB (fs.getD (2 * j) 0) (fs.getD (2 * j + 1) 0) = true by
        rcases Nat.lt_or_ge j i with h1 | h1
        · exact hall.out j h1
        · obtain rfl : j = i := by omega
          exact h))
      have hsz := HB.out.size
      generalize fs.getD (2 * i) 0 = x0 at *
      generalize fs.getD (2 * i + 1) 0 = x1 at *
      go_wp2_with fail
      refine (HV.out _).mono ?_
      rintro e w1 ⟨rfl, hb1⟩
      have HB1 := Lib.hid (Base.Below.nextA HB.out hb1)
      cases hv : vfB x0 x1 with
      | false =>
        have HE := Lib.hid (HNO.out hv)
        clear HNO HYES HV hb1 hv HB g1 g2 hall
        go_wp2
        go_ret
        exact ⟨by rw [HE.out]; rfl, HB1.out⟩
      | true =>
        have HA := Lib.hid (HYES.out hv)
        clear HNO HYES HV hb1 hv HB g1 g2 hall
        go_wp2
        go_roundw
        case rel => exact ⟨i + 1, by simp, hlt, HA, HB1⟩
        case measure => simp [intOf]; omega
    · obtain rfl : i = n := by omega
      have HE : Hid (vfAll fs i = true) := Lib.hid (all_range.2 hall.out)
      clear hall
      go_wp2
      go_ret
      exact ⟨by rw [HE.out]; rfl, HB.out⟩
theorem cmpW_zero (q r : Rat) : (cmpW q r == 0) = decide (q = r) := by
  unfold cmpW
  by_cases h : q = r
  · simp [h]
  · by_cases h2 : q < r
    · simp [h, h2]
    · simp [h, h2]
set_option maxHeartbeats 2000000 in
set_option maxRecDepth 100000 in
theorem isS_any {A : Option Addr} {c B n : Nat} {fs : List Int} (w : World) (hx : RdF w B A n fs) (hB : B ≤ w.heap.size) (hn : n ≤ 1099511627776) : Calls Tryz.prog 115 #[.slice A n c] w fun e w' => e = .returned (.bool (chB fs n)) ∧ Below w.heap.size w w' := by
  have HX := Lib.hid (hx.more hB)
  have HFA := Lib.hid (fAll_any (c := c) w hx hB hn)
  clear hx
  by_cases h1 : n < 1
  · have HE := Lib.hid (chB_short (fs := fs) h1)
    have h1' : (n : Int) < 1 := by omega
    go_enter Tryz.func115, Tryz.ntmps115
    go_wp2
    go_ret
    exact ⟨by rw [HE.out]; rfl, Below.refl _ _⟩
  by_cases h2 : 16 < n
  · have HE := Lib.hid (chB_long (fs := fs) h2)
    have h1' : ¬ (n : Int) < 1 := by omega
    have h2' : (16 : Int) < n := by omega
    go_enter Tryz.func115, Tryz.ntmps115
    go_wp2
    go_ret
    exact ⟨by rw [HE.out]; rfl, Below.refl _ _⟩
  have h1' : ¬ (n : Int) < 1 := by omega
  have h2' : ¬ (16 : Int) < n := by omega
  go_enter Tryz.func115, Tryz.ntmps115
  go_wp2_with fail
  refine HFA.out.mono ?_
  rintro e w1 ⟨rfl, hb1⟩
  have HB1 := Lib.hid hb1
  clear hb1
  cases hv : vfAll fs n with
  | false =>
    have HE := Lib.hid (chB_vf hv)
    go_wp2
    go_ret
    exact ⟨by rw [HE.out]; rfl, HB1.out⟩
  | true =>
    have HV := Lib.hid hv
    clear hv
    go_wp2
    go_loopw [3] (fun iv wr => ∃ i : Nat, iv = .int .i64 (i : Int) ∧ i ≤ n ∧ Hid (∀ j, j < i → decide (0 ≤ fs.getD (2 * j) 0) = true) ∧ wr = w1) (fun iv _ => n - (intOf iv).toNat)
    case atStart => exact ⟨0, rfl, Nat.zero_le _, Lib.hid fun j hj => absurd hj (Nat.not_lt_zero j), rfl⟩
    case round =>
      obtain ⟨i, rfl, hi, hall, rfl⟩ := hrel
      by_cases hlt : i < n
      · obtain ⟨b, off, rfl, hbl, g1, g2⟩ := (HX.out.below HB1.out (Nat.le_refl _)).at hlt
        have HNO := Lib.hid (fun h => (show posAll fs n = false from all_no hlt h))
        have HYES := Lib.hid (fun (h : decide (0 ≤ fs.getD (2 * i) 0) = true) j (hj : j < i + 1) => (show decide (0 ≤ fs.getD (2 * j) 0) = true by
          rcases Nat.lt_or_ge j i with h1 | h1
          · exact hall.out j h1
          · obtain rfl : j = i := by omega
            exact h))
        generalize fs.getD (2 * i) 0 = x0 at *
        generalize fs.getD (2 * i + 1) 0 = x1 at *
        by_cases hx0 : x0 < 0
        · have HE := Lib.hid (chB_neg (HNO.out (by simp; omega)))
          clear HNO HYES
          go_wp2
          go_ret
          exact ⟨by rw [HE.out]; rfl, HB1.out⟩
        · have HA := Lib.hid (HYES.out (by simp; omega))
          clear HNO HYES hall
          go_wp2
          go_roundw
          case rel => exact ⟨i + 1, by simp, hlt, HA, by first | trivial | rfl⟩
          case measure => simp [intOf]; omega
      · obtain rfl : i = n := by omega
        have HE := Lib.hid (chB_sum (fs := fs) (n := i) (by omega) (by omega) HV.out (all_range.2 hall.out))
        have HW1 := Lib.hid (wides_any (c := c) wr (HX.out.below HB1.out (Nat.le_refl _)) HB1.out.size (vfAll_true.1 HV.out) (by omega))
        have HO := Lib.hid (fun W => wideOf_any vf_one W)
        rw [qf_one] at HO
        clear hall
        go_wp2_with fail
        refine HW1.out.mono ?_
        rintro e w2 ⟨v2, cs2, rfl, hv2, hb2⟩
        have HB2 := Lib.hid (Base.Below.nextA HB1.out hb2)
        have HV2 := Lib.hid (hv2.base (Nat.zero_le _))
        clear hv2 hb2
        go_wp2_with fail
        refine (sum_any w2 HV2.out (by omega) (by omega) (by omega)).mono ?_
        rintro e w3 ⟨v3, rfl, hv3, hb3⟩
        have HB3 := Lib.hid (Base.Below.nextA HB2.out hb3)
        have HV3 := Lib.hid hv3
        clear hv3 hb3
        go_wp2_with fail
        refine (HO.out w3).mono ?_
        rintro e w4 ⟨v4, rfl, hv4, hb4⟩
        have HB4 := Lib.hid (Base.Below.nextA HB3.out hb4)
        have HV4 := Lib.hid hv4
        replace HV3 := Lib.hid (HV3.out.below hb4)
        clear hv4 hb4
        go_wp2_with fail
        refine (cmp_any w4 HV3.out HV4.out (by omega) (by omega) (by omega)).mono ?_
        rintro e w5 ⟨rfl, hb5⟩
        have HB5 := Lib.hid (Base.Below.nextA HB4.out hb5)
        have HE2 := Lib.hid (HE.out.trans (cmpW_zero _ _).symm)
        clear hb5 HE
        generalize cmpW (sumR i (fq fs)) 1 = cw at *
        go_wp2
        go_ret
        exact ⟨ret_bool HE2.out.symm, HB5.out⟩
set_option maxHeartbeats 2000000 in
set_option maxRecDepth 100000 in
theorem bitsS_any {A : Option Addr} {c B n : Nat} {fs : List Int} (w : World) (hx : RdF w B A n fs) (hB : B ≤ w.heap.size) (hn : n ≤ 1099511627776) : Calls Tryz.prog 55 #[.slice A n c] w fun e w' => e = .returned (.int .i64 ((bitsQ fs n : Nat) : Int)) ∧ Below w.heap.size w w' := by
  have HX := Lib.hid (hx.more hB)
  have HI := Lib.hid (fun W (h : Below w.heap.size w W) => isS_any (c := c) W (hx.below h hB) (Nat.le_trans hB h.size) hn)
  clear hx
  go_enter Tryz.func55, Tryz.ntmps55
  go_wp2
  go_loopw [3] (fun iv wr => ∃ i : Nat, iv = .int .i64 (i : Int) ∧ 1 ≤ i ∧ i ≤ 5 ∧ Hid (∀ j, 1 ≤ j → j < i → n = 2 ^ j → chB fs n = false) ∧ Hid (Below w.heap.size w wr)) (fun iv _ => 5 - (intOf iv).toNat)
  case atStart => exact ⟨1, rfl, by omega, by omega, Lib.hid fun j hj hj2 => by omega, Lib.hid (Below.refl _ _)⟩
  case round =>
    obtain ⟨i, rfl, hi1, hi, hall, HB⟩ := hrel
    have hcase : i = 1 ∨ i = 2 ∨ i = 3 ∨ i = 4 ∨ i = 5 := by omega
    rcases hcase with rfl | rfl | rfl | rfl | rfl
    · have hN : Hid (∀ b : Prop, (n = 2 → chB fs n = false) → ∀ j, 1 ≤ j → j < 1 + 1 → n = 2 ^ j → chB fs n = false) := Lib.hid fun _ hb j h1 h2 h3 => by
        rcases Nat.lt_or_ge j 1 with g | g
        · exact hall.out j h1 g h3
        · obtain rfl : j = 1 := by omega
          exact hb h3
      clear hall
      by_cases hp : n = 2
      · have hp' : ((n : Int) == 2) = true := by rw [hp]; rfl
        have HP := Lib.hid hp
        clear hp
        go_wp2_with fail
        refine (HI.out _ HB.out).mono ?_
        rintro e w1 ⟨rfl, hb1⟩
        have HB1 := Lib.hid (Base.Below.nextA HB.out hb1)
        clear hb1
        cases hc : chB fs n with
        | true =>
          have HE : Hid (bitsQ fs n = 1) := Lib.hid (by unfold bitsQ; rw [if_pos hc, HP.out]; rfl)
          clear hN
          go_wp2
          go_ret
          exact ⟨by rw [HE.out]; rfl, HB1.out⟩
        | false =>
          have HA := Lib.hid (hN.out True (fun _ => hc))
          clear hN hc
          go_wp2
          go_roundw
          case rel => exact ⟨1 + 1, by first | rfl | simp, by omega, by omega, HA, HB1⟩
          case measure => simp [intOf]
      · have hp' : ((n : Int) == 2) = false := by simp only [beq_eq_false_iff_ne]; omega
        have HA := Lib.hid (hN.out True (fun h => absurd h hp))
        clear hN hp
        go_wp2
        go_roundw
        case rel => exact ⟨1 + 1, by first | rfl | simp, by omega, by omega, HA, HB⟩
        case measure => simp [intOf]
    · have hN : Hid (∀ b : Prop, (n = 4 → chB fs n = false) → ∀ j, 1 ≤ j → j < 2 + 1 → n = 2 ^ j → chB fs n = false) := Lib.hid fun _ hb j h1 h2 h3 => by
        rcases Nat.lt_or_ge j 2 with g | g
        · exact hall.out j h1 g h3
        · obtain rfl : j = 2 := by omega
          exact hb h3
      clear hall
      by_cases hp : n = 4
      · have hp' : ((n : Int) == 4) = true := by rw [hp]; rfl
        have HP := Lib.hid hp
        clear hp
        go_wp2_with fail
        refine (HI.out _ HB.out).mono ?_
        rintro e w1 ⟨rfl, hb1⟩
        have HB1 := Lib.hid (Base.Below.nextA HB.out hb1)
        clear hb1
        cases hc : chB fs n with
        | true =>
          have HE : Hid (bitsQ fs n = 2) := Lib.hid (by unfold bitsQ; rw [if_pos hc, HP.out]; rfl)
          clear hN
          go_wp2
          go_ret
          exact ⟨by rw [HE.out]; rfl, HB1.out⟩
        | false =>
          have HA := Lib.hid (hN.out True (fun _ => hc))
          clear hN hc
          go_wp2
          go_roundw
          case rel => exact ⟨2 + 1, by first | rfl | simp, by omega, by omega, HA, HB1⟩
          case measure => simp [intOf]
      · have hp' : ((n : Int) == 4) = false := by simp only [beq_eq_false_iff_ne]; omega
        have HA := Lib.hid (hN.out True (fun h => absurd h hp))
        clear hN hp
        go_wp2
        go_roundw
        case rel => exact ⟨2 + 1, by first | rfl | simp, by omega, by omega, HA, HB⟩
        case measure => simp [intOf]
    · have hN : Hid (∀ b : Prop, (n = 8 → chB fs n = false) → ∀ j, 1 ≤ j → j < 3 + 1 → n = 2 ^ j → chB fs n = false) := Lib.hid fun _ hb j h1 h2 h3 => by
        rcases Nat.lt_or_ge j 3 with g | g
        · exact hall.out j h1 g h3
        · obtain rfl : j = 3 := by omega
          exact hb h3
      clear hall
      by_cases hp : n = 8
      · have hp' : ((n : Int) == 8) = true := by rw [hp]; rfl
        have HP := Lib.hid hp
        clear hp
        go_wp2_with fail
        refine (HI.out _ HB.out).mono ?_
        rintro e w1 ⟨rfl, hb1⟩
        have HB1 := Lib.hid (Base.Below.nextA HB.out hb1)
        clear hb1
        cases hc : chB fs n with
        | true =>
          have HE : Hid (bitsQ fs n = 3) := Lib.hid (by unfold bitsQ; rw [if_pos hc, HP.out]; rfl)
          clear hN
          go_wp2
          go_ret
          exact ⟨by rw [HE.out]; rfl, HB1.out⟩
        | false =>
          have HA := Lib.hid (hN.out True (fun _ => hc))
          clear hN hc
          go_wp2
          go_roundw
          case rel => exact ⟨3 + 1, by first | rfl | simp, by omega, by omega, HA, HB1⟩
          case measure => simp [intOf]
      · have hp' : ((n : Int) == 8) = false := by simp only [beq_eq_false_iff_ne]; omega
        have HA := Lib.hid (hN.out True (fun h => absurd h hp))
        clear hN hp
        go_wp2
        go_roundw
        case rel => exact ⟨3 + 1, by first | rfl | simp, by omega, by omega, HA, HB⟩
        case measure => simp [intOf]
    · have hN : Hid (∀ b : Prop, (n = 16 → chB fs n = false) → ∀ j, 1 ≤ j → j < 4 + 1 → n = 2 ^ j → chB fs n = false) := Lib.hid fun _ hb j h1 h2 h3 => by
        rcases Nat.lt_or_ge j 4 with g | g
        · exact hall.out j h1 g h3
        · obtain rfl : j = 4 := by omega
          exact hb h3
      clear hall
      by_cases hp : n = 16
      · have hp' : ((n : Int) == 16) = true := by rw [hp]; rfl
        have HP := Lib.hid hp
        clear hp
        go_wp2_with fail
        refine (HI.out _ HB.out).mono ?_
        rintro e w1 ⟨rfl, hb1⟩
        have HB1 := Lib.hid (Base.Below.nextA HB.out hb1)
        clear hb1
        cases hc : chB fs n with
        | true =>
          have HE : Hid (bitsQ fs n = 4) := Lib.hid (by unfold bitsQ; rw [if_pos hc, HP.out]; rfl)
          clear hN
          go_wp2
          go_ret
          exact ⟨by rw [HE.out]; rfl, HB1.out⟩
        | false =>
          have HA := Lib.hid (hN.out True (fun _ => hc))
          clear hN hc
          go_wp2
          go_roundw
          case rel => exact ⟨4 + 1, by first | rfl | simp, by omega, by omega, HA, HB1⟩
          case measure => simp [intOf]
      · have hp' : ((n : Int) == 16) = false := by simp only [beq_eq_false_iff_ne]; omega
        have HA := Lib.hid (hN.out True (fun h => absurd h hp))
        clear hN hp
        go_wp2
        go_roundw
        case rel => exact ⟨4 + 1, by first | rfl | simp, by omega, by omega, HA, HB⟩
        case measure => simp [intOf]
    · have HE : Hid (bitsQ fs n = 0) := Lib.hid (by
        have h1 := hall.out 1 (by omega) (by omega)
        have h2 := hall.out 2 (by omega) (by omega)
        have h3 := hall.out 3 (by omega) (by omega)
        have h4 := hall.out 4 (by omega) (by omega)
        unfold bitsQ
        by_cases hc : chB fs n = true
        · rw [hc] at h1 h2 h3 h4
          rw [if_pos hc, if_neg (fun e => by have := h1 e; cases this), if_neg (fun e => by have := h2 e; cases this), if_neg (fun e => by have := h3 e; cases this), if_neg (fun e => by have := h4 e; cases this)]
        · rw [if_neg hc])
      clear hall
      go_wp2
      go_ret
      exact ⟨by rw [HE.out]; rfl, HB.out⟩
end Go.Proofs.YtionognmgcabbaaGreat.Wide

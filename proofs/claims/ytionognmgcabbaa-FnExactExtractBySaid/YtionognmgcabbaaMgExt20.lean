/- The reference: what rows make of a source. -/
import Derived.Test.YtionognmgcabbaaMgExt16
import Derived.Test.YtionognmgcabbaaMgExt19
import Derived.Test.YtionognmgcabbaaMgExt12
import Derived.Deep.Cut
import Derived.Deep.RegionWith
import Derived.Deep.AppendLies
import Derived.Deep.RegionLaw
import Derived.Test.YtionognmgcabbaaMgExt08
import Derived.Test.YtionognmgcabbaaMgExt00
import Derived.Test.YtionognmgcabbaaMgExt09
import Derived.Test.YtionognmgcabbaaMgExt18
namespace Go.Proofs.Ytionognmgcabbaa.Wide
open Go.RowKit Go.Proofs.Ytionognmgcabbaa Go.Proofs.Ytionognmgcabbaa.Base Go.Proofs.Ytionognmgcabbaa.Mem Go.Proofs.Ytionognmgcabbaa.RatM Go.Proofs.Ytionognmgcabbaa.BigM Go.Proofs.Ytionognmgcabbaa.Big Go.Proofs.Ytionognmgcabbaa.Fine Go.Proofs.Ytionognmgcabbaa.Blk Go.Proofs.Ytionognmgcabbaa.GaussM Go.Proofs.Ytionognmgcabbaa.MemF Go.Proofs.Ytionognmgcabbaa.ChM Go.Proofs.Ytionognmgcabbaa.ExtM Go.Proofs.Ytionognmgcabbaa.RowN
set_option linter.unusedVariables false
theorem infoWs : (Try.prog.info? 61).map (fun i => (i.zero, i.size, i.bytes)) = some (some (.slice none 0 0), 1, 24) := by kernel_rfl
theorem run_makeWs (n : Nat) (hn : n ≤ 1048576) (w : World) : (Instr.makeSlice 112 (.int .i64 (n : Int)) (.int .i64 (n : Int))).run Try.prog w = .ok (.slice (some ⟨w.heap.size, 0, none⟩) n n) (w.alloc (.cells (madeCells (Value.slice none 0 0).cells (n * 1)) 61)) := by
  obtain ⟨i, hi, hzz⟩ := Option.map_eq_some_iff.1 infoWs
  simp only [Prod.mk.injEq] at hzz
  obtain ⟨hz, hs, hb⟩ := hzz
  have hr := run_make (P := Try.prog) w 112 61 i _ Try.underlying112 hi hz .i64 .i64 n n (by omega) (Int.le_refl _) (by rw [hb]; omega) (by omega)
  simp only [Int.toNat_natCast, hs] at hr
  exact hr
def LsRel (xs fs : List Int) (n N g : Nat) (w : World) (xv : Value) (wr : World) : Prop :=
  ∃ (i : Nat) (vs : Nat → Value), xv = .int .i64 (i : Int) ∧ i ≤ n ∧ Hid (LW wr g N w.heap.size 2 (fun y => sel xs fs y i) vs) ∧ Hid (Below w.heap.size w wr)
theorem sel_step {xs fs : List Int} {i k : Nat} (hk : rowK xs i xs.length = k) : (fun y => if y = k then sel xs fs k i ++ [fq fs i] else sel xs fs y i) = fun y => sel xs fs y (i + 1) := by
  funext y
  by_cases e : y = k
  · subst e; rw [if_pos rfl, sel_hit hk]
  · rw [if_neg e, sel_miss (fun h => e (h.symm.trans hk))]
/-- the sums of the lists -/
def XtRel (xs fs : List Int) (n N : Nat) (w : World) (ov jv : Value) (wr : World) : Prop :=
  ∃ (j : Nat) (cs : List Value), jv = .int .i64 (j : Int) ∧ j ≤ N ∧ Hid (OwnW wr w.heap.size ov j (exQ xs fs n) 50 cs) ∧ Hid (Below w.heap.size w wr)
theorem XtRel.next {xs fs : List Int} {n N j : Nat} {w wr w1 w2 : World} {v v' : Value} {cs : List Value} {s fine : Bool} {A1 A2 : Option Addr} {k1 c1 k2 c2 nn dd : Nat} {fn fd : Int} {ca : Array Value} {t : TypeId} (hj : j < N) (h : OwnW wr w.heap.size v j (exQ xs fs n) 50 cs) (hb : Below w.heap.size w wr) (h1 : Below wr.heap.size wr w1)
    (hp : Parts w1 (exQ xs fs n j) 50 s (.slice A1 k1 c1) (.slice A2 k2 c2) fine fn fd nn dd) (hown : w2.ownsRow w.heap.size 65 6 v' (j + 1) (cs ++ six s (.slice A1 k1 c1) (.slice A2 k2 c2) fine fn fd)) (hg : (w1.alloc (.cells ca t)).grownBy w2 v.ownBlock) : XtRel xs fs n N w v' (.int .i64 ((j : Int) + 1)) w2 := by
  have hb1 : Below wr.heap.size wr (w1.alloc (.cells ca t)) := h1.alloc h1.size _
  refine ⟨j + 1, _, by simp, hj, Lib.hid (h.push h1 hp hown hg), Lib.hid ?_⟩
  exact (hb.trans (hb1.mono hb.size)).trans (grown_below hg (fun g e => (ownsRow_block h.row e).choose_spec.2.1) (Nat.le_trans hb.size hb1.size))
/-- what is behind the append -/
theorem LW.after {wr w1 w2 : World} {g N B m k : Nat} {ls : Nat → List Rat} {vs : Nat → Value} {ca : Array Value} {t : TypeId} (h : LW wr g N B m ls vs) (hk : k < N) (h1 : Below wr.heap.size wr w1) (hg : (w1.alloc (.cells ca t)).grownBy w2 (vs k).ownBlock) : w2.cell? ⟨g, k, none⟩ = some (vs k) ∧ w2.frozen? ⟨g, k, none⟩ = false := by
  obtain ⟨cs, K, hz, hcs⟩ := h.blk
  have hb2 : Below wr.heap.size wr (w1.alloc (.cells ca t)) := h1.alloc h1.size _
  have K1 := K.belowS hb2
  obtain ⟨cc, hc⟩ := h.els k hk
  have hck := (hc.below h1).below ((Below.refl w1.heap.size w1).alloc (Nat.le_refl _) (.cells ca t))
  have hgne : (vs k).ownBlock ≠ some g := fun e => by
    obtain ⟨cur, e1, _⟩ := ownsRow_block hck.row e
    unfold Blk at K1
    rw [K1] at e1
    injection e1 with e1
    injection e1 with _ e3
    exact absurd e3 (by decide)
  have K2 : Blk w2 g 61 cs := K1.kept hg hgne
  exact ⟨K2.at k (hcs k hk), K2.frz k⟩
theorem LsRel.next {xs fs : List Int} {n N g i k : Nat} {w wr w1 w2 : World} {vs : Nat → Value} {s fine : Bool} {A1 A2 : Option Addr} {k1 c1 k2 c2 nn dd gg cap : Nat} {fn fd : Int} {ca : Array Value} {t : TypeId} {cc : List Value} (hi : i < n) (hg : w.heap.size ≤ g) (hb : Below w.heap.size w wr) (h : LW wr g N w.heap.size 2 (fun y => sel xs fs y i) vs) (hk : k < N) (hr : rowK xs i xs.length = k) (h1 : Below wr.heap.size wr w1)
    (hp : Parts w1 (fq fs i) 2 s (.slice A1 k1 c1) (.slice A2 k2 c2) fine fn fd nn dd) (hc : OwnW wr w.heap.size (vs k) (sel xs fs k i).length (fun j => (sel xs fs k i).getD j 0) 2 cc)
    (hown : w2.ownsRow w.heap.size 65 6 (.slice (some ⟨gg, 0, none⟩) ((sel xs fs k i).length + 1) cap) ((sel xs fs k i).length + 1) (cc ++ six s (.slice A1 k1 c1) (.slice A2 k2 c2) fine fn fd)) (hg2 : (w1.alloc (.cells ca t)).grownBy w2 (vs k).ownBlock) (he : (vs k).ownBlock = some gg ∨ gg = (w1.alloc (.cells ca t)).heap.size) :
    LsRel xs fs n N g w (.int .i64 ((i : Int) + 1)) (w2.setCell ⟨g, k, none⟩ (.slice (some ⟨gg, 0, none⟩) ((sel xs fs k i).length + 1) cap)) := by
  have hb1 : Below wr.heap.size wr (w1.alloc (.cells ca t)) := h1.alloc h1.size _
  have hpu := LW.push h hk h1 hp hc hown hg2 (he.imp (fun e => e.symm) (fun e => by rw [← e]; rfl))
  refine ⟨i + 1, _, by simp, hi, Lib.hid (by rw [← sel_step hr]; exact hpu), Lib.hid ?_⟩
  exact ((hb.trans (hb1.mono hb.size)).trans (grown_below hg2 (fun g e => (ownsRow_block hc.row e).choose_spec.2.1) (Nat.le_trans hb.size hb1.size))).setCell (p := ⟨g, k, none⟩) hg _
set_option maxHeartbeats 2000000 in
set_option maxRecDepth 100000 in
theorem extS_any {A A' : Option Addr} {c c' B B' n : Nat} {fs xs : List Int} (w : World) (hx : RdF w B A n fs) (hB : B ≤ w.heap.size) (hv : AllVF fs n) (hn : n ≤ 16) (hy : RdI w B' A' xs) (hB' : B' ≤ w.heap.size) (h1 : 1 ≤ xs.length) (h3 : xs.length ≤ 3) (hr : ∀ i, i < xs.length → 0 ≤ xs.getD i 0 ∧ xs.getD i 0 ≤ 15) :
    Calls Try.prog 56 #[.slice A' xs.length c', .slice A n c] w (WsRet (2 ^ xs.length) (exQ xs fs n) 50 w) := by
  have hN : 2 ^ xs.length ≤ 8 := Nat.pow_le_pow_right (n := 2) (by decide) h3
  have hN1 : 1 ≤ 2 ^ xs.length := Nat.pow_pos (by decide)
  have HK := Lib.hid (fun x => rowK_lt xs x xs.length h3)
  have hp : (2 : Int) ^ xs.length = ((2 ^ xs.length : Nat) : Int) := by simp
  have HX := Lib.hid (hx.more hB)
  have HY := Lib.hid (hy.more hB')
  have HV := Lib.hid hv
  have HR := Lib.hid hr
  clear hx hv hy hr
  generalize 2 ^ xs.length = N at *
  have hws : IntKind.i64.wrap ((2 : Int) ^ xs.length) = (N : Int) := by rw [hp, IntKind.wrap_i64]; omega
  have hw64 : wrap64 ((2 : Int) ^ xs.length) = (N : Int) := by rw [← hws, hp]; unfold wrap64; rw [IntKind.wrap_i64]
  have hmk := fun w => run_makeWs N (by omega) w
  obtain ⟨g, hg⟩ : ∃ g, g = w.heap.size := ⟨_, rfl⟩
  obtain ⟨iw, wi, wz0, wz1, wz2⟩ := info_parts infoW
  have H0 : Hid (LsRel xs fs n N g w (.int .i64 0) (w.alloc (.cells (madeCells #[.slice none 0 0] (N * 1)) 61))) := Lib.hid ⟨0, _, rfl, Nat.zero_le _, Lib.hid (by rw [hg]; exact LW.made w N w.heap.size 2), Lib.hid ((Below.refl _ _).alloc (Nat.le_refl _) _)⟩
  have HG := Lib.hid hg
  clear hp hg
  go_enter Try.func56, Try.ntmps56
  go_wp2
  rw [← HG.out]
  clear hmk hws hw64
  have hN1' : N * 1 = N := Nat.mul_one N
  rw [hN1'] at H0
  clear hN1'
  go_loopw [6] (fun xv wr => LsRel xs fs n N g w xv wr) (fun xv _ => n - (intOf xv).toNat)
  case atStart => exact H0.out
  case round =>
    obtain ⟨i, vs, rfl, hi, HL, HB⟩ := hrel
    clear H0
    by_cases hlt : i < n
    · go_wp2
      go_loopw [7, 8] (fun yv jv w2 => ∃ j : Nat, jv = .int .i64 (j : Int) ∧ j ≤ xs.length ∧ yv = .int .i64 ((rowK xs i j : Nat) : Int) ∧ w2 = wr) (fun _ jv _ => xs.length - (intOf jv).toNat)
      case atStart => exact ⟨0, rfl, Nat.zero_le _, rfl, rfl⟩
      case round =>
        obtain ⟨j, rfl, hj, rfl, rfl⟩ := hrel
        by_cases hjl : j < xs.length
        · obtain ⟨b, off, rfl, _, hc⟩ := (HY.out.below HB.out (Nat.le_refl _)) (by omega)
          have g1 := hc j hjl
          obtain ⟨r1, r2⟩ := HR.out j hjl
          have HK1 : Hid (rowK xs i (j + 1) = rowK xs i j ||| (PopM.par ((xs.getD j 0).toNat &&& i) <<< j)) := Lib.hid rfl
          have hk := rowK_lt xs i j (by omega)
          have hp8 : 2 ^ j ≤ 2 ^ 3 := Nat.pow_le_pow_right (by decide) (by omega)
          clear hc
          obtain ⟨k', hk'⟩ : ∃ k', k' = rowK xs i (j + 1) := ⟨_, rfl⟩
          rw [← hk'] at HK1
          have HK2 := Lib.hid hk'
          clear hk'
          generalize rowK xs i j = k at *
          generalize xs.getD j 0 = y at *
          obtain ⟨Y, rfl⟩ : ∃ Y : Nat, y = (Y : Int) := ⟨y.toNat, by omega⟩
          rw [Int.toNat_natCast, Nat.and_comm] at HK1
          have hpl := PopM.par_lt (i &&& Y)
          have hor := or_fin ⟨k, by omega⟩ ⟨PopM.par (i &&& Y), hpl⟩ ⟨j, by omega⟩
          replace hor : bits .or .i64 (k : Int) (wrap64 ((PopM.par (i &&& Y) : Int) * (2 : Int) ^ j)) = ((k ||| (PopM.par (i &&& Y) <<< j) : Nat) : Int) := hor
          rw [← HK1.out] at hor
          have HPA := Lib.hid (fun W => parS_any i Y (by omega) (by omega) W)
          go_wp2_with fail
          refine (HPA.out _).mono ?_
          rintro e w1 ⟨rfl, rfl⟩
          go_wp2
          go_roundw
          case rel => exact ⟨j + 1, by simp, hjl, by rw [← HK2.out], by first | trivial | rfl⟩
          case measure => simp [intOf]; omega
        · obtain rfl : j = xs.length := by omega
          obtain ⟨k, hk⟩ : ∃ k, k = rowK xs i xs.length := ⟨_, rfl⟩
          have hkN : k < N := by rw [hk]; exact HK.out i
          rw [← hk]
          have HKE := Lib.hid hk
          clear hk
          obtain ⟨b, off, rfl, hbl, g1, g2⟩ := (HX.out.below HB.out (Nat.le_refl _)).at hlt
          obtain ⟨cc, hcc⟩ := HL.out.els k hkN
          obtain ⟨A3, c3, hv3, _⟩ := hcc.form
          have hcell := HL.out.cell hkN
          rw [hv3] at hcell
          have HW := Lib.hid (fun W => wideOf_any (HV.out i hlt) W)
          have hfq : qf (fs.getD (2 * i) 0) (fs.getD (2 * i + 1) 0) = fq fs i := rfl
          rw [hfq] at HW
          have hsz := HB.out.size
          have hgw := HL.out.lt
          have hll := sel_len xs fs k i
          have HNX := Lib.hid (fun (w1 w2 : World) s fine A1 A2 k1 c1 k2 c2 nn dd gg cap fn fd ca t h1 hp hown hg2 he => LsRel.next (w1 := w1) (w2 := w2) (s := s) (fine := fine) (A1 := A1) (A2 := A2) (k1 := k1) (c1 := c1) (k2 := k2) (c2 := c2) (nn := nn) (dd := dd) (gg := gg) (cap := cap) (fn := fn) (fd := fd) (ca := ca) (t := t) hlt (Nat.le_of_eq HG.out.symm) HB.out HL.out hkN HKE.out.symm h1 hp hcc hown hg2 he)
          have HAF := Lib.hid (fun (w1 w2 : World) ca t h1 hg2 => LW.after (w1 := w1) (w2 := w2) (ca := ca) (t := t) HL.out hkN h1 hg2)
          have HOW := Lib.hid (fun (w1 : World) (h1 : Below wr.heap.size wr w1) => hv3 ▸ ownsRow_below hcc.row h1)
          rw [hv3] at HNX HAF
          clear hfq hcc hv3 HL HB hi
          generalize fs.getD (2 * i) 0 = x0 at *
          generalize fs.getD (2 * i + 1) 0 = x1 at *
          generalize fq fs i = q at *
          generalize hLL : (sel xs fs k i).length = L at *
          have HLL := Lib.hid hLL
          clear hLL
          have HSM := Lib.hid hll
          have hi16 : L ≤ 16 := by omega
          go_wp2
          go_region_law (first
            | (go_simp; go_at_call 48; refine (HW.out _).mono ?_; rintro e w2 ⟨v, rfl, hv, hb2⟩; obtain ⟨s, A1, k1, c1, A2, k2, c2, fine, fn, fd, nn, dd, rfl, hp⟩ := hv; have hb3 : Below wr.heap.size wr w2 := (by first | exact hb2 | exact Base.Below.nextA ((Below.refl wr.heap.size wr).drew) hb2); have hcell2 := (hb3.cell (p := ⟨g, k, none⟩) hgw).trans hcell; have HNN := Lib.hid (fun w3 gg cap ca t hown hg2 he => HNX.out w2 w3 s fine A1 A2 k1 c1 k2 c2 nn dd gg cap fn fd ca t hb3 hp hown hg2 he); have HAA := Lib.hid (fun w3 ca t hg2 => HAF.out w2 w3 ca t hb3 hg2); have HOO := Lib.hid (World.ownsRow.alloc (HOW.out w2 hb3) (.cells #[.bool s, .slice A1 k1 c1, .slice A2 k2 c2, .bool fine, .int .i64 fn, .int .i64 fd] 65)); have hs2 := hb3.size; have hgw2 : g < w2.heap.size := Nat.lt_of_lt_of_le hgw hs2; clear hb2 hb3 hp)
            | (refine step_append_lies _ (by rfl) _ _ _ (by rfl) w.heap.size 65 iw _ 6 80 Try.underlying61 wi wz0 wz1 wz2 rfl (by omega) (.slice A3 L c3) L _ (by rfl) HOO.out ⟨w2.heap.size, 0, none⟩ 1 1 [.bool s, .slice A1 k1 c1, .slice A2 k2 c2, .bool fine, .int .i64 fn, .int .i64 fd] (by rfl) (by rfl) (World.news_of_block (cs := #[.bool s, .slice A1 k1 c1, .slice A2 k2 c2, .bool fine, .int .i64 fn, .int .i64 fd]) (t := 65) (fr := (0, 0)) (heap_alloc_new w2 _)) ones_six (by omega) (by simp only [maxLen]; omega) (by omega) (by first | omega | (simp only [World.size_alloc]; omega)) (w2.heap.size + 1) (by simp) ?_; intro gg cap w3 hown' hg' hat hlt2; have HN3 := Lib.hid (HNN.out w3 gg cap _ _ hown' hg' (by rw [World.size_alloc]; exact hat)); have yy := HAA.out w3 _ _ hg'; have y1 := yy.1; have y2 := yy.2; clear hown' hg' hat yy hcell hcell2))
          all_goals
            go_wp2
            go_roundw
            case rel => exact HN3.out
            case measure => simp [intOf]; omega
    · obtain rfl : i = n := by omega
      obtain ⟨w1, rfl⟩ : ∃ x, x = wr := ⟨_, rfl⟩
      have H1 : Hid (XtRel xs fs i N w1 (.slice (some ⟨w1.heap.size, 0, none⟩) 0 0) (.int .i64 0) (w1.alloc (.cells #[] 65))) := Lib.hid ⟨0, [], rfl, Nat.zero_le _, Lib.hid (OwnW.lit0 w1 _ _), Lib.hid ((Below.refl _ _).alloc (Nat.le_refl _) _)⟩
      clear HX HY HR HK
      go_wp2
      go_loopw [9, 10] (fun ov jv w2 => XtRel xs fs i N w1 ov jv w2) (fun _ jv _ => N - (intOf jv).toNat)
      case atStart => exact H1.out
      case round =>
        obtain ⟨j, cs, rfl, hj, HO, HB2⟩ := hrel
        clear H1
        by_cases hlt : j < N
        · have HLw := HL.out.below HB2.out
          have hcell := HLw.cell hlt
          obtain ⟨cc, hcc⟩ := HLw.els j hlt
          obtain ⟨A3, c3, hv3, _⟩ := hcc.form
          rw [hv3] at hcell hcc
          have hll := sel_len xs fs j i
          have HS : Hid (Calls Try.prog 60 #[.slice A3 (sel xs fs j i).length c3] wr (WRet (exQ xs fs i j) 50 wr)) := Lib.hid (by
            have hm3 : 2 + (sel xs fs j i).length * (2 + 1) ≤ 50 := by omega
            refine (sum_any wr (hcc.base (Nat.zero_le _)) (Nat.le_refl 2) (by omega) (by omega)).mono fun e w' h => ?_
            obtain ⟨v, e1, h1, h2⟩ := h
            have hsum := sel_sum xs fs j i
            unfold lsum at hsum
            rw [hsum] at h1
            exact ⟨v, e1, h1.more hm3, h2⟩)
          have hsz := HB2.out.size
          clear HLw hcc hv3
          generalize (sel xs fs j i).length = L at *
          go_wp2_with fail
          refine HS.out.mono ?_
          rintro e w2 ⟨v, rfl, hv, hb1⟩
          obtain ⟨s, A1, k1, c1, A2, k2, c2, fine, fn, fd, nn, dd, rfl, hp⟩ := hv
          have hsz1 := hb1.size
          have HN := Lib.hid (fun w3 v' ca t hown hg => XtRel.next (w2 := w3) (v' := v') (ca := ca) (t := t) hlt HO.out HB2.out hb1 hp hown hg)
          have HOA := Lib.hid (World.ownsRow.alloc (ownsRow_below HO.out.row hb1) (.cells #[.bool s, .slice A1 k1 c1, .slice A2 k2 c2, .bool fine, .int .i64 fn, .int .i64 fd] 65))
          clear hp hb1 HO HB2 HS
          go_wp2_with (at_builtin; refine wpList_append_own_at _ rfl (.tmp 60) (.tmp 66) 61 rfl w1.heap.size 65 iw (.agg #[.bool false, .slice none 0 0, .slice none 0 0, .bool false, .int .i64 0, .int .i64 0]) 6 80 Try.underlying61 wi wz0 wz1 wz2 rfl (by decide) _ _ _ rfl HOA.out ⟨w2.heap.size, 0, none⟩ 1 1 [.bool s, .slice A1 k1 c1, .slice A2 k2 c2, .bool fine, .int .i64 fn, .int .i64 fd] rfl rfl ?p1a ?p2a ?p3a ?p4a ?p5a ?_)
          try case p1a => exact news_six _ _ (by simp)
          try case p2a => exact ones_six
          try case p3a => first | (simp only [maxLen]; omega) | omega
          try case p4a => omega
          try case p5a => first | (simp only [World.size_alloc]; omega) | omega
          intro v' w3 hown' hg' _ he
          have HN3 := Lib.hid (HN.out w3 v' _ _ hown' hg')
          clear hown' hg' he HN HOA
          go_wp2
          go_roundw
          case rel => exact HN3.out
          case measure => simp [intOf]; omega
        · obtain rfl : j = N := by omega
          obtain ⟨A9, c9, rfl, _⟩ := HO.out.form
          have HF : Hid (WsRet j (exQ xs fs i) 50 w (.returned (.slice A9 j c9)) wr) := Lib.hid ⟨_, cs, rfl, HO.out.base HB.out.size, HB.out.trans (HB2.out.mono HB.out.size)⟩
          clear HO HB2 HL HB
          go_wp2
          go_ret
          exact HF.out
end Go.Proofs.Ytionognmgcabbaa.Wide
/- The reference: a list of fractions of any size is given, if all are small. -/
namespace Go.Proofs.Ytionognmgcabbaa.Wide
open Go.RowKit Go.Proofs.Ytionognmgcabbaa Go.Proofs.Ytionognmgcabbaa.Base Go.Proofs.Ytionognmgcabbaa.Mem Go.Proofs.Ytionognmgcabbaa.RatM Go.Proofs.Ytionognmgcabbaa.BigM Go.Proofs.Ytionognmgcabbaa.Big Go.Proofs.Ytionognmgcabbaa.Fine Go.Proofs.Ytionognmgcabbaa.Blk Go.Proofs.Ytionognmgcabbaa.MemF Go.Proofs.Ytionognmgcabbaa.GiveM
set_option linter.unusedVariables false
set_option maxHeartbeats 2000000 in
set_option maxRecDepth 100000 in
theorem giveS_any {v : Value} {n m : Nat} {f : Nat → Rat} {cs : List Value} (w : World) (hx : OwnW w 0 v n f m cs) (hm : m ≤ 400000) (hn : n ≤ 1000) : Calls Try.prog 32 #[v] w (FsRet (gN f n) (gR f n) (smallAll f n) w) := by
  obtain ⟨A, c, rfl, _⟩ := hx.form
  have HX := Lib.hid hx
  obtain ⟨i2, ki, kz0, kz1, kz2⟩ := info_parts infoFr
  have H0 := Lib.hid (GRel.start f n w)
  clear hx
  go_enter Try.func32, Try.ntmps32
  go_wp2
  go_loopw [5, 4] (fun iv sv wr => GRel f n w iv sv wr) (fun iv _ _ => n - (intOf iv).toNat)
  case atStart => exact H0.out
  case round =>
    obtain ⟨i, rfl, hi, HO, HA, HB⟩ := hrel
    clear H0
    by_cases hlt : i < n
    · obtain ⟨g, s', B1, j1, e1, B2, j2, e2, fb, gn, gd, n', d', rfl, hgl, y0, y1, y2, y3, y4, y5, hp'⟩ := (HX.out.below HB.out).at hlt
      have HE : IsW wr (f i) m (.agg #[.bool s', .slice B1 j1 e1, .slice B2 j2 e2, .bool fb, .int .i64 gn, .int .i64 gd]) := ⟨_, _, _, _, _, _, _, _, _, _, _, _, rfl, hp'⟩
      have HG := Lib.hid (give_any wr HE hm)
      have HF : Hid (∀ w1 w2 v' cs t, smallQ (f i) = true → Below wr.heap.size wr w1 → _ → _ → _) := Lib.hid (fun w1 w2 v' cs t hv h1 hown hg => GRel.next (w1 := w1) (w2 := w2) (v' := v') (cs := cs) (t := t) hlt HO.out HA.out hv HB.out h1 hown hg)
      have HNO := Lib.hid (fun h => GiveM.small_no hlt (show smallQ (f i) = false from h))
      clear HE hp' hgl
      generalize f i = q at *
      unfold FRet at HG
      generalize numQ q = P at *
      generalize denQ q = Q at *
      go_wp2_with fail
      refine HG.out.mono ?_
      rintro e w1 ⟨rfl, hb1⟩
      have HB1 := Lib.hid hb1
      clear hb1 y0 y1 y2 y3 y4 y5 HG
      go_upto_region 6 with (fail)
      obtain ⟨W2, hW2⟩ : ∃ W2, W2 = w1.alloc (.cells #[.int .i64 P, .int .i64 Q] 63) := ⟨_, rfl⟩
      rw [← hW2]
      have K2 : Hid (Blk W2 w1.heap.size 63 #[.int .i64 P, .int .i64 Q]) := Lib.hid (by rw [hW2]; exact Blk.new w1 _ _)
      have HB2 : Hid (Below wr.heap.size wr W2) := Lib.hid (by rw [hW2]; exact HB1.out.alloc HB1.out.size _)
      have hsz := HB.out.size
      have hsz2 := HB2.out.size
      cases hs : smallQ q with
      | false =>
        have HN := Lib.hid (HNO.out hs)
        have HBB := Lib.hid (Base.Below.nextA HB.out HB2.out)
        clear hW2 hs HNO HF
        go_wp2
        go_ret2
        rw [HN.out.1, HN.out.2.1, HN.out.2.2]
        exact FsRet.no HBB.out
      | true =>
        have HNN := Lib.hid (fun w3 v' cs t hown hg => HF.out W2 w3 v' cs t hs HB2.out hown hg)
        have HW2 := Lib.hid (World.ownsRow.alloc (ownsRow_below HO.out HB2.out) (.cells #[.int .i64 P, .int .i64 Q] 63))
        have x0 := K2.out.at 0 (v := .int .i64 P) rfl
        have x1 := K2.out.at 1 (v := .int .i64 Q) rfl
        clear hW2 hs HNO HF HO HA HB HB1 HB2
        go_wp2_with (at_builtin; refine wpList_append_own_at _ rfl (.tmp 25) (.tmp 27) 28 rfl w.heap.size 63 i2 (.agg #[.int .i64 0, .int .i64 0]) 2 16 Try.underlying28 ki kz0 kz1 kz2 rfl (by decide) _ _ _ rfl HW2.out ⟨W2.heap.size, 0, none⟩ 1 1 [.int .i64 P, .int .i64 Q] rfl rfl ?p1a ?p2a ?p3a ?p4a ?p5a ?_)
        try case p1a => exact MemF.news_two _ _ (by simp)
        try case p2a => exact MemF.ones_two
        try case p3a => first | (simp only [maxLen]; omega) | omega
        try case p4a => omega
        try case p5a => first | (simp only [World.size_alloc]; omega) | omega
        intro v' w3 hown' hg' _ he
        have HN3 := Lib.hid (HNN.out w3 v' _ _ hown' hg')
        clear hown' hg' he HNN HW2
        go_wp2
        go_roundw
        case rel => exact HN3.out
        case measure => simp [intOf]; omega
    · obtain rfl : i = n := by omega
      obtain ⟨A', cp, rfl, _⟩ := HO.out.form
      have HY := Lib.hid (GiveM.small_yes' HA.out)
      clear HA
      go_wp2
      go_ret2
      rw [HY.out.1, HY.out.2.1, HY.out.2.2]
      exact ⟨A', cp, rfl, HO.out, HB.out⟩
end Go.Proofs.Ytionognmgcabbaa.Wide
/- The reference: whether numbers are rows for a source. -/
namespace Go.Proofs.Ytionognmgcabbaa.RowsS
open Go.RowKit Go.Proofs.Ytionognmgcabbaa Go.Proofs.Ytionognmgcabbaa.Base Go.Proofs.Ytionognmgcabbaa.Mem Go.Proofs.Ytionognmgcabbaa.AllIn Go.Proofs.Ytionognmgcabbaa.ChM
set_option linter.unusedVariables false
set_option maxHeartbeats 4000000 in
set_option maxRecDepth 100000 in
theorem rowsS_any {A : Option Addr} {c B k : Nat} {xs : List Int} (w : World) (hx : RdI w B A xs) (hm : xs.length ≤ 9223372036854775807) (h1 : 1 ≤ k) (h4 : k ≤ 4) : Calls Try.prog 55 #[.slice A xs.length c, .int .i64 (k : Int)] w fun e w' => e = .returned (.bool (inR (xs.length : Int) 1 3 && allInB xs 0 ((2 ^ k : Nat) - 1 : Int))) ∧ w = w' := by
  have HX := Lib.hid hx
  clear hx
  have h : k = 1 ∨ k = 2 ∨ k = 3 ∨ k = 4 := by omega
  rcases h with rfl | rfl | rfl | rfl
  · rw [show (((2 ^ 1 : Nat) : Int) - 1) = 1 by decide, show (((1 : Nat)) : Int) = (1 : Int) from rfl]
    go_enter Try.func55, Try.ntmps55
    go_wp2
    go_loopw [5] (fun iv wr => ∃ i : Nat, iv = .int .i64 (i : Int) ∧ i ≤ xs.length ∧ Hid (∀ j, j < i → inR (xs.getD j 0) 0 1 = true) ∧ wr = w) (fun iv _ => xs.length - (intOf iv).toNat)
    case atStart => exact ⟨0, rfl, Nat.zero_le _, Lib.hid fun j hj => absurd hj (Nat.not_lt_zero j), rfl⟩
    case round =>
      obtain ⟨i, rfl, hi, hall, rfl⟩ := hrel
      by_cases hlt : i < xs.length
      · obtain ⟨b, off, rfl, _, hc⟩ := HX.out (by omega)
        have g := hc i hlt
        clear hc
        cases hr : inR (xs.getD i 0) 0 1 with
        | false =>
          have HE : Hid ((inR (xs.length : Int) 1 3 && allInB xs 0 1) = false) := Lib.hid (by rw [allInB_no hlt hr, Bool.and_false])
          have HR := Lib.hid hr
          clear hr hall
          generalize xs.getD i 0 = x at *
          go_wp2_with fail
          refine (l00In_any _ _ _ _).mono ?_
          rintro e w1 ⟨rfl, rfl⟩
          rw [HR.out]
          go_wp2
          go_ret
          exact ⟨by rw [HE.out]; rfl, rfl⟩
        | true =>
          have hn : Hid (∀ j, j < i + 1 → inR (xs.getD j 0) 0 1 = true) := Lib.hid fun j hj => by
            rcases Nat.lt_or_ge j i with h | h
            · exact hall.out j h
            · obtain rfl : j = i := by omega
              exact hr
          have HR := Lib.hid hr
          clear hr hall
          generalize xs.getD i 0 = x at *
          go_wp2_with fail
          refine (l00In_any _ _ _ _).mono ?_
          rintro e w1 ⟨rfl, rfl⟩
          rw [HR.out]
          go_wp2
          go_roundw
          case rel => exact ⟨i + 1, by simp, hlt, hn, by first | trivial | rfl⟩
          case measure => simp [intOf]; omega
      · obtain rfl : i = xs.length := by omega
        have HE : Hid ((inR (xs.length : Int) 1 3 && allInB xs 0 1) = inR (xs.length : Int) 1 3) := Lib.hid (by rw [allInB_of hall.out, Bool.and_true])
        clear hall
        by_cases h1 : 1 ≤ xs.length
        · by_cases h3 : xs.length ≤ 3
          · have HR := Lib.hid (inR_yes (n := (xs.length : Int)) (lo := 1) (hi := 3) (by omega))
            go_wp2
            go_ret
            exact ⟨by rw [HE.out, HR.out]; first | (simp; done) | (simp; omega), rfl⟩
          · have HR := Lib.hid (inR_no (n := (xs.length : Int)) (lo := 1) (hi := 3) (by omega))
            go_wp2
            go_ret
            exact ⟨by rw [HE.out, HR.out]; first | (simp; done) | (simp; omega), rfl⟩
        · have HR := Lib.hid (inR_no (n := (xs.length : Int)) (lo := 1) (hi := 3) (by omega))
          go_wp2
          go_ret
          exact ⟨by rw [HE.out, HR.out]; first | (simp; done) | (simp; omega), rfl⟩
  · rw [show (((2 ^ 2 : Nat) : Int) - 1) = 3 by decide, show (((2 : Nat)) : Int) = (2 : Int) from rfl]
    go_enter Try.func55, Try.ntmps55
    go_wp2
    go_loopw [5] (fun iv wr => ∃ i : Nat, iv = .int .i64 (i : Int) ∧ i ≤ xs.length ∧ Hid (∀ j, j < i → inR (xs.getD j 0) 0 3 = true) ∧ wr = w) (fun iv _ => xs.length - (intOf iv).toNat)
    case atStart => exact ⟨0, rfl, Nat.zero_le _, Lib.hid fun j hj => absurd hj (Nat.not_lt_zero j), rfl⟩
    case round =>
      obtain ⟨i, rfl, hi, hall, rfl⟩ := hrel
      by_cases hlt : i < xs.length
      · obtain ⟨b, off, rfl, _, hc⟩ := HX.out (by omega)
        have g := hc i hlt
        clear hc
        cases hr : inR (xs.getD i 0) 0 3 with
        | false =>
          have HE : Hid ((inR (xs.length : Int) 1 3 && allInB xs 0 3) = false) := Lib.hid (by rw [allInB_no hlt hr, Bool.and_false])
          have HR := Lib.hid hr
          clear hr hall
          generalize xs.getD i 0 = x at *
          go_wp2_with fail
          refine (l00In_any _ _ _ _).mono ?_
          rintro e w1 ⟨rfl, rfl⟩
          rw [HR.out]
          go_wp2
          go_ret
          exact ⟨by rw [HE.out]; rfl, rfl⟩
        | true =>
          have hn : Hid (∀ j, j < i + 1 → inR (xs.getD j 0) 0 3 = true) := Lib.hid fun j hj => by
            rcases Nat.lt_or_ge j i with h | h
            · exact hall.out j h
            · obtain rfl : j = i := by omega
              exact hr
          have HR := Lib.hid hr
          clear hr hall
          generalize xs.getD i 0 = x at *
          go_wp2_with fail
          refine (l00In_any _ _ _ _).mono ?_
          rintro e w1 ⟨rfl, rfl⟩
          rw [HR.out]
          go_wp2
          go_roundw
          case rel => exact ⟨i + 1, by simp, hlt, hn, by first | trivial | rfl⟩
          case measure => simp [intOf]; omega
      · obtain rfl : i = xs.length := by omega
        have HE : Hid ((inR (xs.length : Int) 1 3 && allInB xs 0 3) = inR (xs.length : Int) 1 3) := Lib.hid (by rw [allInB_of hall.out, Bool.and_true])
        clear hall
        by_cases h1 : 1 ≤ xs.length
        · by_cases h3 : xs.length ≤ 3
          · have HR := Lib.hid (inR_yes (n := (xs.length : Int)) (lo := 1) (hi := 3) (by omega))
            go_wp2
            go_ret
            exact ⟨by rw [HE.out, HR.out]; first | (simp; done) | (simp; omega), rfl⟩
          · have HR := Lib.hid (inR_no (n := (xs.length : Int)) (lo := 1) (hi := 3) (by omega))
            go_wp2
            go_ret
            exact ⟨by rw [HE.out, HR.out]; first | (simp; done) | (simp; omega), rfl⟩
        · have HR := Lib.hid (inR_no (n := (xs.length : Int)) (lo := 1) (hi := 3) (by omega))
          go_wp2
          go_ret
          exact ⟨by rw [HE.out, HR.out]; first | (simp; done) | (simp; omega), rfl⟩
  · rw [show (((2 ^ 3 : Nat) : Int) - 1) = 7 by decide, show (((3 : Nat)) : Int) = (3 : Int) from rfl]
    go_enter Try.func55, Try.ntmps55
    go_wp2
    go_loopw [5] (fun iv wr => ∃ i : Nat, iv = .int .i64 (i : Int) ∧ i ≤ xs.length ∧ Hid (∀ j, j < i → inR (xs.getD j 0) 0 7 = true) ∧ wr = w) (fun iv _ => xs.length - (intOf iv).toNat)
    case atStart => exact ⟨0, rfl, Nat.zero_le _, Lib.hid fun j hj => absurd hj (Nat.not_lt_zero j), rfl⟩
    case round =>
      obtain ⟨i, rfl, hi, hall, rfl⟩ := hrel
      by_cases hlt : i < xs.length
      · obtain ⟨b, off, rfl, _, hc⟩ := HX.out (by omega)
        have g := hc i hlt
        clear hc
        cases hr : inR (xs.getD i 0) 0 7 with
        | false =>
          have HE : Hid ((inR (xs.length : Int) 1 3 && allInB xs 0 7) = false) := Lib.hid (by rw [allInB_no hlt hr, Bool.and_false])
          have HR := Lib.hid hr
          clear hr hall
          generalize xs.getD i 0 = x at *
          go_wp2_with fail
          refine (l00In_any _ _ _ _).mono ?_
          rintro e w1 ⟨rfl, rfl⟩
          rw [HR.out]
          go_wp2
          go_ret
          exact ⟨by rw [HE.out]; rfl, rfl⟩
        | true =>
          have hn : Hid (∀ j, j < i + 1 → inR (xs.getD j 0) 0 7 = true) := Lib.hid fun j hj => by
            rcases Nat.lt_or_ge j i with h | h
            · exact hall.out j h
            · obtain rfl : j = i := by omega
              exact hr
          have HR := Lib.hid hr
          clear hr hall
          generalize xs.getD i 0 = x at *
          go_wp2_with fail
          refine (l00In_any _ _ _ _).mono ?_
          rintro e w1 ⟨rfl, rfl⟩
          rw [HR.out]
          go_wp2
          go_roundw
          case rel => exact ⟨i + 1, by simp, hlt, hn, by first | trivial | rfl⟩
          case measure => simp [intOf]; omega
      · obtain rfl : i = xs.length := by omega
        have HE : Hid ((inR (xs.length : Int) 1 3 && allInB xs 0 7) = inR (xs.length : Int) 1 3) := Lib.hid (by rw [allInB_of hall.out, Bool.and_true])
        clear hall
        by_cases h1 : 1 ≤ xs.length
        · by_cases h3 : xs.length ≤ 3
          · have HR := Lib.hid (inR_yes (n := (xs.length : Int)) (lo := 1) (hi := 3) (by omega))
            go_wp2
            go_ret
            exact ⟨by rw [HE.out, HR.out]; first | (simp; done) | (simp; omega), rfl⟩
          · have HR := Lib.hid (inR_no (n := (xs.length : Int)) (lo := 1) (hi := 3) (by omega))
            go_wp2
            go_ret
            exact ⟨by rw [HE.out, HR.out]; first | (simp; done) | (simp; omega), rfl⟩
        · have HR := Lib.hid (inR_no (n := (xs.length : Int)) (lo := 1) (hi := 3) (by omega))
          go_wp2
          go_ret
          exact ⟨by rw [HE.out, HR.out]; first | (simp; done) | (simp; omega), rfl⟩
  · rw [show (((2 ^ 4 : Nat) : Int) - 1) = 15 by decide, show (((4 : Nat)) : Int) = (4 : Int) from rfl]
    go_enter Try.func55, Try.ntmps55
    go_wp2
    go_loopw [5] (fun iv wr => ∃ i : Nat, iv = .int .i64 (i : Int) ∧ i ≤ xs.length ∧ Hid (∀ j, j < i → inR (xs.getD j 0) 0 15 = true) ∧ wr = w) (fun iv _ => xs.length - (intOf iv).toNat)
    case atStart => exact ⟨0, rfl, Nat.zero_le _, Lib.hid fun j hj => absurd hj (Nat.not_lt_zero j), rfl⟩
    case round =>
      obtain ⟨i, rfl, hi, hall, rfl⟩ := hrel
      by_cases hlt : i < xs.length
      · obtain ⟨b, off, rfl, _, hc⟩ := HX.out (by omega)
        have g := hc i hlt
        clear hc
        cases hr : inR (xs.getD i 0) 0 15 with
        | false =>
          have HE : Hid ((inR (xs.length : Int) 1 3 && allInB xs 0 15) = false) := Lib.hid (by rw [allInB_no hlt hr, Bool.and_false])
          have HR := Lib.hid hr
          clear hr hall
          generalize xs.getD i 0 = x at *
          go_wp2_with fail
          refine (l00In_any _ _ _ _).mono ?_
          rintro e w1 ⟨rfl, rfl⟩
          rw [HR.out]
          go_wp2
          go_ret
          exact ⟨by rw [HE.out]; rfl, rfl⟩
        | true =>
          have hn : Hid (∀ j, j < i + 1 → inR (xs.getD j 0) 0 15 = true) := Lib.hid fun j hj => by
            rcases Nat.lt_or_ge j i with h | h
            · exact hall.out j h
            · obtain rfl : j = i := by omega
              exact hr
          have HR := Lib.hid hr
          clear hr hall
          generalize xs.getD i 0 = x at *
          go_wp2_with fail
          refine (l00In_any _ _ _ _).mono ?_
          rintro e w1 ⟨rfl, rfl⟩
          rw [HR.out]
          go_wp2
          go_roundw
          case rel => exact ⟨i + 1, by simp, hlt, hn, by first | trivial | rfl⟩
          case measure => simp [intOf]; omega
      · obtain rfl : i = xs.length := by omega
        have HE : Hid ((inR (xs.length : Int) 1 3 && allInB xs 0 15) = inR (xs.length : Int) 1 3) := Lib.hid (by rw [allInB_of hall.out, Bool.and_true])
        clear hall
        by_cases h1 : 1 ≤ xs.length
        · by_cases h3 : xs.length ≤ 3
          · have HR := Lib.hid (inR_yes (n := (xs.length : Int)) (lo := 1) (hi := 3) (by omega))
            go_wp2
            go_ret
            exact ⟨by rw [HE.out, HR.out]; first | (simp; done) | (simp; omega), rfl⟩
          · have HR := Lib.hid (inR_no (n := (xs.length : Int)) (lo := 1) (hi := 3) (by omega))
            go_wp2
            go_ret
            exact ⟨by rw [HE.out, HR.out]; first | (simp; done) | (simp; omega), rfl⟩
        · have HR := Lib.hid (inR_no (n := (xs.length : Int)) (lo := 1) (hi := 3) (by omega))
          go_wp2
          go_ret
          exact ⟨by rw [HE.out, HR.out]; first | (simp; done) | (simp; omega), rfl⟩
end Go.Proofs.Ytionognmgcabbaa.RowsS
/- The reference's fractions of any size: compared. -/
namespace Go.Proofs.Ytionognmgcabbaa.Wide
open Go.RowKit Go.Proofs.Ytionognmgcabbaa Go.Proofs.Ytionognmgcabbaa.Base Go.Proofs.Ytionognmgcabbaa.Mem Go.Proofs.Ytionognmgcabbaa.RatM Go.Proofs.Ytionognmgcabbaa.BigM Go.Proofs.Ytionognmgcabbaa.Big Go.Proofs.Ytionognmgcabbaa.Fine Go.Proofs.Ytionognmgcabbaa.Blk
set_option linter.unusedVariables false
def cmpW (q r : Rat) : Int := if q = r then 0 else if q < r then -1 else 1
theorem vf_minus : VF (-1) 1 := ⟨by decide, by decide, by decide, by decide, by decide⟩
theorem vf_one : VF 1 1 := ⟨by decide, by decide, by decide, by decide, by decide⟩
theorem qf_minus : qf (-1) 1 = -1 := by decide +kernel
theorem qf_one : qf 1 1 = 1 := by decide +kernel
theorem cmpW_sub (q r : Rat) : cmpW q r = if q + -1 * r = 0 then 0 else if q + -1 * r < 0 then -1 else 1 := by
  unfold cmpW
  have h1 : q = r ↔ q + -1 * r = 0 := by grind
  have h2 : q < r ↔ q + -1 * r < 0 := by grind
  simp only [h1, h2]
theorem Parts.zero {w : World} {q : Rat} {m : Nat} {s fine : Bool} {vn vd : Value} {fn fd : Int} {n d : Nat} (h : Parts w q m s vn vd fine fn fd n d) : (n = 0 ↔ q = 0) ∧ (n ≠ 0 → (q < 0 ↔ s = true)) := by
  have hd := Nat.ne_of_gt h.pos
  rw [← h.val]
  refine ⟨(qv_eq_zero hd).symm, fun hn => ?_⟩
  have := qv_neg (s := s) hn hd
  constructor
  · intro hx; rw [← this]; simpa using hx
  · intro hx; rw [hx] at this ⊢; simpa using this
set_option maxHeartbeats 4000000 in
set_option maxRecDepth 100000 in
theorem cmp_any {q r : Rat} {m m' : Nat} {v u : Value} (w : World) (hv : IsW w q m v) (hu : IsW w r m' u) (h2 : 2 ≤ m) (h2' : 2 ≤ m') (hm : m + m' ≤ 300000) : Calls Try.prog 49 #[v, u] w fun e w' => e = .returned (.int .i64 (cmpW q r)) ∧ Below w.heap.size w w' := by
  have HC := Lib.hid (cmpW_sub q r)
  generalize cmpW q r = cw at *
  have HV0 := Lib.hid hv
  have HU0 := Lib.hid hu
  have HM1 := Lib.hid (fun W => wideOf_any vf_minus W)
  rw [qf_minus] at HM1
  obtain ⟨s, A1, k1, c1, A2, k2, c2, fa, fn, fd, n, d, rfl, hp⟩ := hv
  obtain ⟨s', A3, k3, c3, A4, k4, c4, fb, gn, gd, n', d', rfl, hp'⟩ := hu
  obtain ⟨W3, hW3⟩ : ∃ W3, W3 = (w.alloc (.cells #[.bool s, .slice A1 k1 c1, .slice A2 k2 c2, .bool fa, .int .i64 fn, .int .i64 fd] 65)).alloc (.cells #[.bool s', .slice A3 k3 c3, .slice A4 k4 c4, .bool fb, .int .i64 gn, .int .i64 gd] 65) := ⟨_, rfl⟩
  have K0 : Hid (Blk W3 w.heap.size 65 #[.bool s, .slice A1 k1 c1, .slice A2 k2 c2, .bool fa, .int .i64 fn, .int .i64 fd]) := Lib.hid (by rw [hW3]; exact (Blk.new w _ _).alloc _)
  have K1 : Hid (Blk W3 (w.heap.size + 1) 65 #[.bool s', .slice A3 k3 c3, .slice A4 k4 c4, .bool fb, .int .i64 gn, .int .i64 gd]) := Lib.hid (by rw [hW3]; exact Blk.newAt _ _ (by simp))
  have HB : Hid (Below w.heap.size w W3) := Lib.hid (by rw [hW3]; exact ((Below.refl _ _).alloc (Nat.le_refl _) _).alloc (by simp) _)
  have HV := Lib.hid (fun W (h : Below W3.heap.size W3 W) => HV0.out.below (Base.Below.nextA HB.out h))
  have HU := Lib.hid (fun W (h : Below W3.heap.size W3 W) => HU0.out.below (Base.Below.nextA HB.out h))
  have HW := Lib.hid hW3
  clear hW3 hp hp' HV0 HU0
  go_enter Try.func49, Try.ntmps49
  go_upto_region 1 with (fail)
  rw [← HW.out]
  clear HW
  refine Rel.wp_region_rel 7 (by kernel_rfl) (by kernel_rfl) (fun F hF => ?_)
  simp only [List.take_succ_cons, List.take_zero, List.drop_succ_cons, List.drop_zero, Rel.putL] at hF ⊢
  have HF := Lib.hid hF
  clear hF
  have uv := @Rel.upon_value Try.prog
  have ue := @Rel.upon_enter Try.prog
  apply Rel.rel_pure
  apply Exists.intro
  refine ⟨fun vs wq hq hdp R hR => ?_, ?_⟩
  · (rw [HF.out, Rel.stepAt_eq]; clear hdp; have x0 := (K0.out.belowS hq).at 0 (v := .bool s) rfl; have x1 := (K0.out.belowS hq).at 1 (v := .slice A1 k1 c1) rfl; have x2 := (K0.out.belowS hq).at 2 (v := .slice A2 k2 c2) rfl; have x3 := (K0.out.belowS hq).at 3 (v := .bool fa) rfl; have x4 := (K0.out.belowS hq).at 4 (v := .int .i64 fn) rfl; have x5 := (K0.out.belowS hq).at 5 (v := .int .i64 fd) rfl; go_simp; exact hR)
  apply Rel.rel_pure
  apply Exists.intro
  refine ⟨fun vs wq hq hdp R hR => ?_, ?_⟩
  · (rw [HF.out, Rel.stepAt_eq]; clear hdp; skip; go_simp; exact hR)
  refine Rel.rel_law (S := fun v w' => IsW w' (-1) 2 v) (isW_mono _ _) (fun vs wq hq hdp => ?_) ?_
  · (rw [HF.out, Rel.stepAt_eq]; have qd1 : vs 1 = _ := Rel.dep hdp 1 (by kernel_rfl); clear hdp; skip; go_simp; refine (HM1.out _).mono ?_; rintro e w7 ⟨v, rfl, hv, hb⟩; exact ⟨_, rfl, hv, hb⟩)
  apply Rel.rel_pure
  apply Exists.intro
  refine ⟨fun vs wq hq hdp R hR => ?_, ?_⟩
  · (rw [HF.out, Rel.stepAt_eq]; clear hdp; have x0 := (K1.out.belowS hq).at 0 (v := .bool s') rfl; have x1 := (K1.out.belowS hq).at 1 (v := .slice A3 k3 c3) rfl; have x2 := (K1.out.belowS hq).at 2 (v := .slice A4 k4 c4) rfl; have x3 := (K1.out.belowS hq).at 3 (v := .bool fb) rfl; have x4 := (K1.out.belowS hq).at 4 (v := .int .i64 gn) rfl; have x5 := (K1.out.belowS hq).at 5 (v := .int .i64 gd) rfl; go_simp; exact hR)
  refine Rel.rel_law (S := fun v w' => IsW w' (-1 * r) (2 + m') v) (isW_mono _ _) (fun vs wq hq hdp => ?_) ?_
  · (rw [HF.out, Rel.stepAt_eq]; have qd2 : IsW wq _ _ (vs 2) := Rel.dep hdp 2 (by kernel_rfl); have qd3 : vs 3 = _ := Rel.dep hdp 3 (by kernel_rfl); clear hdp; skip; go_simp; refine (wideMul_any wq qd2 (HU.out wq hq) (by decide) (by omega) (by decide) h2').mono ?_; rintro e w7 ⟨v, rfl, hv, hb⟩; exact ⟨_, rfl, hv, hb⟩)
  refine Rel.rel_law (S := fun v w' => IsW w' (q + -1 * r) (m + (2 + m') + 1) v) (isW_mono _ _) (fun vs wq hq hdp => ?_) ?_
  · (rw [HF.out, Rel.stepAt_eq]; have qd0 : vs 0 = _ := Rel.dep hdp 0 (by kernel_rfl); have qd4 : IsW wq _ _ (vs 4) := Rel.dep hdp 4 (by kernel_rfl); clear hdp; skip; go_simp; refine (wideAdd_any wq (HV.out wq hq) qd4 (by omega) (by omega) h2 (by omega)).mono ?_; rintro e w7 ⟨v, rfl, hv, hb⟩; exact ⟨_, rfl, hv, hb⟩)
  refine Rel.rel_alloc (cs := #[.bool false, .slice none 0 0, .slice none 0 0, .bool false, .int .i64 0, .int .i64 0]) (t := 65) (fun vs wq hq hdp R hR => ?_) ?_
  · (rw [HF.out, Rel.stepAt_eq]; clear hdp; go_simp; exact hR)
  refine Rel.rel_end (fun vs wq hq hall => ?_)
  rw [HF.out]
  have qe0 : vs 0 = _ := Rel.fin hall 0 (by decide)
  have qe1 : vs 1 = _ := Rel.fin hall 1 (by decide)
  have qe2 : IsW wq _ _ (vs 2) := Rel.fin hall 2 (by decide)
  have qe3 : vs 3 = _ := Rel.fin hall 3 (by decide)
  have qe4 : IsW wq _ _ (vs 4) := Rel.fin hall 4 (by decide)
  have qe5 : IsW wq _ _ (vs 5) := Rel.fin hall 5 (by decide)
  have qe6 : Rel.NewB _ _ _ (vs 6) wq := Rel.fin hall 6 (by decide)
  clear hall HF uv ue
  obtain ⟨g5, eg5, hg5, hblk⟩ := qe6
  obtain ⟨t, B1, j1, e1, B2, j2, e2, fi, tn, td, nn, dd, ev5, hpz⟩ := qe5
  have K5 : Blk wq g5 65 #[.bool false, .slice none 0 0, .slice none 0 0, .bool false, .int .i64 0, .int .i64 0] := hblk
  obtain ⟨W6, hW6⟩ : ∃ W6, W6 = put6 wq g5 (.bool t) (.slice B1 j1 e1) (.slice B2 j2 e2) (.bool fi) (.int .i64 tn) (.int .i64 td) := ⟨_, rfl⟩
  have K6 : Hid (Blk W6 g5 65 #[.bool t, .slice B1 j1 e1, .slice B2 j2 e2, .bool fi, .int .i64 tn, .int .i64 td]) := Lib.hid (by rw [hW6]; exact put6_blk K5 _ _ _ _ _ _)
  have HBF : Hid (Below w.heap.size w W6) := Lib.hid (by rw [hW6]; exact put6_below (Base.Below.nextA HB.out hq) (show w.heap.size ≤ g5 by have := HB.out.size; omega) _ _ _ _ _ _)
  unfold put6 at hW6
  have z0 := K5.frz 0
  have z1 := K5.frz 1
  have z2 := K5.frz 2
  have z3 := K5.frz 3
  have z4 := K5.frz 4
  have z5 := K5.frz 5
  have c0 := K5.at 0 (v := .bool false) rfl
  have c1 := K5.at 1 (v := .slice none 0 0) rfl
  have c2 := K5.at 2 (v := .slice none 0 0) rfl
  have c3 := K5.at 3 (v := .bool false) rfl
  have c4 := K5.at 4 (v := .int .i64 0) rfl
  have c5 := K5.at 5 (v := .int .i64 0) rfl
  obtain ⟨hz, hneg⟩ := hpz.zero
  obtain ⟨_, _, ef, -⟩ := Dig.form hpz.num
  replace ef := (Value.slice.inj ef).2.1
  have hlen : j1 = 0 ↔ q + -1 * r = 0 := by
    rw [← hz, ef]
    constructor
    · intro h0
      rcases Nat.eq_zero_or_pos nn with g | g
      · exact g
      · have := len_pos g; omega
    · intro h0; rw [h0, bigL_zero]; rfl
  have H0 := Lib.hid (fun h : j1 = 0 => (show cw = 0 by rw [HC.out, if_pos (hlen.1 h)]))
  have H1 := Lib.hid (fun (h : ¬ j1 = 0) (ht : t = true) => (show cw = -1 by rw [HC.out, if_neg (fun g => h (hlen.2 g)), if_pos ((hneg (fun g => h (hlen.2 (hz.1 g)))).2 ht)]))
  have H2 := Lib.hid (fun (h : ¬ j1 = 0) (ht : t = false) => (show cw = 1 by rw [HC.out, if_neg (fun g => h (hlen.2 g)), if_neg (fun g => by have := (hneg (fun g => h (hlen.2 (hz.1 g)))).1 g; rw [ht] at this; cases this)]))
  clear hblk K5 hpz ef hq K0 K1 HV HU hlen hneg hz HC HB qe0 qe1 qe2 qe3 qe4 HM1
  go_upto_region 2 with (fail)
  rw [← hW6]
  clear hW6 z0 z1 z2 z3 z4 z5 c0 c1 c2 c3 c4 c5
  have s0 := K6.out.at 0 (v := .bool t) rfl
  have s1 := K6.out.at 1 (v := .slice B1 j1 e1) rfl
  by_cases h0 : j1 = 0
  · have HE := Lib.hid (H0.out h0)
    subst h0
    clear H0 H1 H2
    go_wp2
    go_ret
    exact ⟨by rw [HE.out]; rfl, HBF.out⟩
  · cases t with
    | true =>
      have HE := Lib.hid (H1.out h0 rfl)
      clear H0 H1 H2
      go_wp2
      go_ret
      exact ⟨by rw [HE.out]; rfl, HBF.out⟩
    | false =>
      have HE := Lib.hid (H2.out h0 rfl)
      clear H0 H1 H2
      go_wp2
      go_ret
      exact ⟨by rw [HE.out]; rfl, HBF.out⟩
end Go.Proofs.Ytionognmgcabbaa.Wide

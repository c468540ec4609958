/- All ways to write a number as a sum: the reference. -/
import Derived.Test.YtjkcdnfmmfpbjaaQualSp
namespace Go.Proofs.Ytjkcdnfmmfpbjaa.QualI
open Go.RowKit Go.Proofs.Ytjkcdnfmmfpbjaa Go.Proofs.Ytjkcdnfmmfpbjaa.Base Go.Proofs.Ytjkcdnfmmfpbjaa.Mem Go.Proofs.Ytjkcdnfmmfpbjaa.Pts Go.Proofs.Ytjkcdnfmmfpbjaa.NetV Go.Proofs.Ytjkcdnfmmfpbjaa.NetP Go.Proofs.Ytjkcdnfmmfpbjaa.RevNet Go.Proofs.Ytjkcdnfmmfpbjaa.Scr Go.Proofs.Ytjkcdnfmmfpbjaa.Concat Go.Proofs.Ytjkcdnfmmfpbjaa.RankM Go.Proofs.Ytjkcdnfmmfpbjaa.Rank Go.Proofs.Ytjkcdnfmmfpbjaa.Ways Go.Proofs.Ytjkcdnfmmfpbjaa.QualL
set_option linter.unusedVariables false
/-- a list with each number below x behind it -/
def prt (total : Nat) (last : Bool) (cs : List Nat) (x : Nat) : List (List Nat) :=
  ((List.range x).filter fun y => !(last && decide (y < total - cs.sum))).map fun y => cs ++ [y]
theorem prt_skip {total x : Nat} {cs : List Nat} (h : x < total - cs.sum) : prt total true cs (x + 1) = prt total true cs x := by
  simp [prt, List.range_succ, h]
theorem prt_next {total x : Nat} {last : Bool} {cs : List Nat} (h : last = true → ¬ x < total - cs.sum) : prt total last cs (x + 1) = prt total last cs x ++ [cs ++ [x]] := by
  cases last
  · simp [prt, List.range_succ]
  · simp [prt, List.range_succ, h rfl]
theorem prt_len (total : Nat) (last : Bool) (cs : List Nat) (x : Nat) : (prt total last cs x).length ≤ x := by
  unfold prt
  rw [List.length_map]
  exact Nat.le_trans (List.length_filter_le _ _) (by rw [List.length_range]; exact Nat.le_refl _)
theorem prt_end (total : Nat) (last : Bool) (cs : List Nat) : prt total last cs (total - cs.sum + 1) = ext total last cs := rfl
theorem ofNN_app (L M : List (List Nat)) : ofNN (L ++ M) = ofNN L ++ ofNN M := by simp [ofNN]
theorem ofN_snoc (cs : List Nat) (x : Nat) : ofN (cs ++ [x]) = ofN cs ++ [(x : Int)] := by simp [ofN]
/-- lists that are laid one after another -/
def LsRel (L : List (List Nat)) (wo : World) (v : Value) (wr : World) : Prop := ∃ us, OwnII wr wo.heap.size v (ofNN L) us ∧ Below wo.heap.size wo wr
theorem LsRel.form {L : List (List Nat)} {wo wr : World} {v : Value} (h : LsRel L wo v wr) : ∃ A c, v = .slice A L.length c := by
  obtain ⟨us, h1, _⟩ := h
  obtain ⟨A, c, e, _⟩ := h1.form
  exact ⟨A, c, by rw [e, ofNN_len]⟩
theorem LsRel.next {L : List (List Nat)} {ys : List Nat} {us : List Value} {wo wr w1 w2 : World} {v v' p : Value} (hO : OwnII wr wo.heap.size v (ofNN L) us) (hb : Below wo.heap.size wo wr)
    (hp : OwnI w1 wr.heap.size p (ofN ys)) (hb2 : Below wr.heap.size wr w1) (hown : w2.ownsRow wo.heap.size 28 1 v' (L.length + 1) (us ++ [p])) (hg : (w1.alloc (.cells #[p] 28)).grownBy w2 v.ownBlock) :
    LsRel (L ++ [ys]) wo v' w2 := by
  have h1 : Below wr.heap.size wr (w1.alloc (.cells #[p] 28)) := hb2.alloc hb2.size _
  have hu : (w1.alloc (.cells #[p] 28)).ownsRow wr.heap.size 2 1 p (ofN ys).length (ints (ofN ys)) := World.ownsRow.alloc hp _
  refine ⟨us ++ [p], ?_, hb.trans ((h1.mono hb.size).trans (grown_below hg (fun g he => ?_) (Nat.le_trans hb.size h1.size)))⟩
  · rw [ofNN_app]
    exact hO.push h1 hu (by rw [ofNN_len]; exact hown) hg hb.size
  · obtain ⟨_, _, h3, _⟩ := ownsRow_block hO.outer he
    exact h3
def SumsRet (L : List (List Nat)) (w : World) (e : Ending) (w' : World) : Prop := ∃ A c, e = .returned (.slice A L.length c) ∧ RdII w' w'.heap.size A (ofNN L) ∧ Below w.heap.size w w'
theorem way_get {total parts k i : Nat} (hk : k ≤ parts) (hi : i < (wayL total parts k).length) : ((wayL total parts k).getD i []).length = k ∧ ((wayL total parts k).getD i []).sum ≤ total := by
  have : (wayL total parts k).getD i [] ∈ wayL total parts k := by simp [List.getD, hi]
  have := (wayL_mem total parts k hk _).1 this
  exact ⟨this.1, this.2.1⟩
theorem flat_take {f : List Nat → List (List Nat)} (L : List (List Nat)) (i : Nat) (h : i < L.length) : (L.take (i + 1)).flatMap f = (L.take i).flatMap f ++ f (L.getD i []) := by
  rw [List.take_succ_eq_append_getElem h, List.flatMap_append]
  simp [List.getD, h]
set_option maxHeartbeats 8000000 in
set_option maxRecDepth 100000 in
theorem sums_any (total parts : Nat) (w : World) (ht : total ≤ 6) (hp : parts ≤ 4) :
    Calls Try.prog 61 #[.int .i64 (total : Int), .int .i64 (parts : Int)] w (SumsRet (wayL total parts parts) w) := by
  obtain ⟨i0, hi, hz0, hz1, hz2⟩ := info_parts infoI
  obtain ⟨i1, ji, jz0, jz1, jz2⟩ := info_parts infoS
  have hlay : OwnII ((w.alloc (.cells #[] 2)).alloc (.cells #[.slice (some ⟨w.heap.size, 0, none⟩) 0 0] 28)) w.heap.size (.slice (some ⟨w.heap.size + 1, 0, none⟩) 1 1) (ofNN [[]]) [.slice (some ⟨w.heap.size, 0, none⟩) 0 0] := by
    have ho : OwnI (w.alloc (.cells #[] 2)) w.heap.size (.slice (some ⟨w.heap.size, 0, none⟩) 0 0) (ofN []) := own_lit w (Nat.le_refl _) [] (by simp)
    refine ⟨rfl, ?_, fun i hi => ?_, fun i j g hij hj => ?_⟩
    · have := World.ownsRow_lit (e := 28) (size := 1) (base := w.heap.size) (w.alloc (.cells #[] 2)) #[.slice (some ⟨w.heap.size, 0, none⟩) 0 0] 1 (by simp) (by simp [maxLen]) rfl
      show World.ownsRow _ _ _ _ _ 1 _
      simpa using this
    · obtain rfl : i = 0 := by simpa [ofNN] using hi
      exact World.ownsRow.alloc ho _
    · simp [ofNN] at hj; omega
  have H0 : Hid (LsRel (wayL total parts 0) w (.slice (some ⟨w.heap.size + 1, 0, none⟩) 1 1) ((w.alloc (.cells #[] 2)).alloc (.cells #[.slice (some ⟨w.heap.size, 0, none⟩) 0 0] 28))) := Lib.hid ⟨_, hlay, ((Below.refl _ _).alloc (Nat.le_refl _) _).alloc (by simp) _⟩
  have HL := Lib.hid (wayL_len total parts ht)
  clear hlay
  go_enter Try.func61, Try.ntmps61
  go_wp2
  go_loopw [5, 6] (fun v kv wr => ∃ k : Nat, k ≤ parts ∧ kv = .int .i64 (k : Int) ∧ Hid (LsRel (wayL total parts k) w v wr)) (fun _ kv _ => parts - (intOf kv).toNat)
  case atStart => exact ⟨0, Nat.zero_le _, rfl, H0⟩
  case round =>
    obtain ⟨k, hk, rfl, HV⟩ := hrel
    obtain ⟨wo, rfl⟩ : ∃ x, x = wr := ⟨_, rfl⟩
    clear H0
    obtain ⟨Av, cv, ev⟩ := HV.out.form
    subst ev
    by_cases hkt : k < parts
    · obtain ⟨usv, hOv, hbv⟩ := HV.out
      have hsz := hbv.size
      have HRv := Lib.hid hOv.rd
      have HBv := Lib.hid hbv
      have hW7 := HL.out k
      have h7 : 7 ^ k ≤ 7 ^ 4 := Nat.pow_le_pow_right (by decide) (by omega)
      have HLn := Lib.hid (fun i hi => way_get (total := total) (parts := parts) (i := i) (Nat.le_of_lt hkt) hi)
      have HWs : Hid (wayL total parts (k + 1) = (wayL total parts k).flatMap (ext total (decide (k + 1 = parts)))) := Lib.hid rfl
      have hlast : ((k : Int) + 1 == (parts : Int)) = decide (k + 1 = parts) := by
        by_cases h : k + 1 = parts
        · simp [h, show ((k : Int) + 1) = (parts : Int) by omega]
        · simp [h, show ¬ ((k : Int) + 1) = (parts : Int) by omega]
      generalize decide (k + 1 = parts) = last at *
      generalize wayL total parts k = L at *
      clear hOv hbv HV
      have hLn : L.length ≤ 2401 := by omega
      have HN0 : Hid (LsRel ((L.take 0).flatMap (ext total last)) wo (.slice (some ⟨wo.heap.size, 0, none⟩) 0 0) (wo.alloc (.cells #[] 28))) := Lib.hid ⟨[], by simpa [ofNN] using OwnII.lit0 wo (Nat.le_refl _) _ rfl, (Below.refl _ _).alloc (Nat.le_refl _) _⟩
      have HFl := Lib.hid (fun i => flat_len (f := ext total last) (m := 7) (fun c => Nat.le_trans (ext_len _ _ _) (by omega)) (L.take i))
      go_wp2
      go_loopw [7, 8] (fun v iv wr => ∃ i : Nat, i ≤ L.length ∧ iv = .int .i64 (i : Int) ∧ Hid (LsRel ((L.take i).flatMap (ext total last)) wo v wr)) (fun _ iv _ => L.length - (intOf iv).toNat)
      case atStart => exact ⟨0, Nat.zero_le _, rfl, HN0⟩
      case round =>
        obtain ⟨i, hil, rfl, HX⟩ := hrel
        obtain ⟨wp, rfl⟩ : ∃ x, x = wr := ⟨_, rfl⟩
        clear HN0
        by_cases hit : i < L.length
        · obtain ⟨ux, hOx, hbx⟩ := HX.out
          have hszx := hbx.size
          obtain ⟨bb, off, hA, hbB, hc⟩ := HRv.out (by rw [ofNN_len]; omega)
          obtain ⟨A1, c1, g0, r0⟩ := hc i (by rw [ofNN_len]; exact hit)
          have g1 := (hbx.cell (p := ⟨bb, off + i, none⟩) hbB).trans g0
          have r1 := r0.below hbx (Nat.le_refl _)
          obtain ⟨l1, l2⟩ := HLn.out i hit
          rw [ofNN_get, ofN_len] at g1 g0
          rw [ofNN_get] at r1 r0
          have HFt := Lib.hid (flat_take (f := ext total last) L i hit)
          have hF1 := HFl.out i
          have hFi : ((L.take i).flatMap (ext total last)).length ≤ 7 * 2401 := by
            have : (L.take i).length ≤ L.length := by rw [List.length_take]; omega
            omega
          subst hA
          have HR1 := Lib.hid r1
          have HR0 := Lib.hid r0
          have HOx := Lib.hid (⟨ux, hOx, hbx⟩ : LsRel ((L.take i).flatMap (ext total last)) wo _ wp)
          clear hc r0 r1 hOx hbx HX
          generalize L.getD i [] = cs at *
          generalize (L.take i).flatMap (ext total last) = F at *
          have HLc := Lib.hid l1
          have HSm := Lib.hid l2
          have hls : cs.length ≤ 4 := by omega
          have HTk : Hid (∀ j, (cs.take j).sum ≤ cs.sum) := Lib.hid fun j => by
            have : (cs.take j).sum + (cs.drop j).sum = cs.sum := by rw [← List.sum_append, List.take_append_drop]
            omega
          clear l1 l2 hF1
          go_wp2
          go_loop [9, 10] (fun lv jv => ∃ j : Nat, j ≤ cs.length ∧ jv = .int .i64 (j : Int) ∧ lv = .int .i64 ((total : Int) - ((cs.take j).sum : Nat))) (fun _ jv => cs.length - (intOf jv).toNat)
          case atStart => exact ⟨0, Nat.zero_le _, rfl, by simp⟩
          case round =>
            obtain ⟨j, hj, rfl, rfl⟩ := hrel
            have ht1 := HTk.out j
            have hs2 := HSm.out
            by_cases hjt : j < cs.length
            · obtain ⟨b3, off3, hA3, _, hc3⟩ := HR1.out (by rw [ofN_len]; omega)
              have g3 := hc3 j (by rw [ofN_len]; exact hjt)
              rw [ofN_get _ j hjt] at g3
              subst hA3
              have ht2 := HTk.out (j + 1)
              have e := RankM.take_snoc hjt
              rw [e, List.sum_append] at ht2
              have HE : Hid ((cs.take (j + 1)).sum = (cs.take j).sum + cs.getD j 0) := Lib.hid (by rw [e]; simp)
              simp only [List.sum_cons, List.sum_nil, Nat.add_zero] at ht2
              clear hc3 e
              generalize cs.getD j 0 = y at *
              generalize (cs.take j).sum = s at *
              go_wp2
              go_round
              case rel => exact ⟨j + 1, hjt, by go_num, by rw [HE.out]; go_num⟩
              case measure => simp [intOf]; omega
            · obtain rfl : j = cs.length := by omega
              rw [show cs.take cs.length = cs from List.take_of_length_le (Nat.le_refl _)] at *
              obtain ⟨d, hd⟩ : ∃ d, d = total - cs.sum := ⟨_, rfl⟩
              have hdI : (total : Int) - ((cs.sum : Nat) : Int) = (d : Int) := by omega
              rw [hdI]
              have HD := Lib.hid hd
              have hd6 : d ≤ 6 := by omega
              have HP0 : Hid (LsRel (F ++ prt total last cs 0) wo u7 wp) := Lib.hid (by rw [show prt total last cs 0 = [] by simp [prt], List.append_nil]; exact HOx.out)
              clear hdI hd ht1 hs2
              go_wp2
              go_loopw [7, 11] (fun v xv wr => ∃ x : Nat, x ≤ d + 1 ∧ xv = .int .i64 (x : Int) ∧ Hid (LsRel (F ++ prt total last cs x) wo v wr)) (fun _ xv _ => d + 1 - (intOf xv).toNat)
              case atStart => exact ⟨0, Nat.zero_le _, rfl, HP0⟩
              case round =>
                obtain ⟨x, hx, rfl, HX⟩ := hrel
                obtain ⟨wr, hwr⟩ : ∃ x, x = wr := ⟨_, rfl⟩
                subst hwr
                clear HP0
                by_cases hxt : x ≤ d
                · have hFp : (F ++ prt total last cs x).length ≤ 7 * 2401 + 7 := by
                    have := prt_len total last cs x
                    rw [List.length_append]; omega
                  by_cases hsk : last = true ∧ x < d
                  · obtain ⟨hl1, hxd⟩ := hsk
                    subst hl1
                    have HN : Hid (LsRel (F ++ prt total true cs (x + 1)) wo _ _) := Lib.hid (by rw [prt_skip (by rw [← HD.out]; exact hxd)]; exact HX.out)
                    go_wp2
                    go_roundw
                    case rel => exact ⟨x + 1, by omega, by go_num, HN⟩
                    case measure => simp [intOf]; omega
                  · have HPn : Hid (F ++ prt total last cs (x + 1) = F ++ prt total last cs x ++ [cs ++ [x]]) := Lib.hid (by rw [prt_next (total := total) (x := x) (last := last) (cs := cs) (fun h h2 => hsk ⟨h, by rw [HD.out]; exact h2⟩), List.append_assoc])
                    obtain ⟨Ap, cp, ep⟩ := HX.out.form
                    subst ep
                    obtain ⟨up, hOp, hbp⟩ := HX.out
                    have hszp := hbp.size
                    have gw := (hbp.cell (p := ⟨bb, off + i, none⟩) hbB).trans g0
                    have HOw := own_any A1 c1 wo.heap.size (ofN cs) _ (HR0.out.below hbp (Nat.le_refl _)) hszp (by rw [ofN_len]; omega)
                    rw [ofN_len] at HOw
                    have HOw := Lib.hid HOw
                    have HOp := Lib.hid hOp
                    have HBp := Lib.hid hbp
                    clear hOp hbp HX HR1
                    generalize F ++ prt total last cs x = G at *
                    have hcx : last = true → ¬ ((x : Int) < (d : Int)) := fun h h2 => hsk ⟨h, by omega⟩
                    cases last with
                    | false =>
                      go_wp2_with fail
                      refine HOw.out.mono ?_
                      rintro e w1 ⟨A2, c2, rfl, o2, b2⟩
                      rw [ofN_len]
                      have hsA := b2.size
                      have hown := World.ownsRow.alloc o2 (.cells #[.int .i64 (x : Int)] 2)
                      rw [ofN_len] at hown
                      have HW := Lib.hid hown
                      have HO2 := Lib.hid o2
                      have HB2 := Lib.hid b2
                      clear hown o2 b2
                      go_wp2_with (at_builtin; refine wpList_append_own_at _ rfl (.tmp 64) (.tmp 66) 28 rfl wr.heap.size 2 i0 (.int .i64 0) 1 8 Try.underlying28 hi hz0 hz1 hz2 rfl (by decide) _ _ _ rfl HW.out ⟨w1.heap.size, 0, none⟩ 1 1 [.int .i64 (x : Int)] rfl rfl ?p1a ?p2a ?p3a ?p4a ?p5a ?_)
                      try case p1a => exact news_one _ _ _ (by simp)
                      try case p2a => first | exact one_int | rfl | simp
                      try case p3a => first | (simp only [maxLen]; omega) | omega
                      try case p4a => omega
                      try case p5a => first | (simp only [World.size_alloc]; omega) | omega
                      intro v2 w2 hown' hg' _ he
                      have o3 : OwnI w2 wr.heap.size v2 (ofN (cs ++ [x])) := by rw [ofN_snoc]; exact OwnI_push HO2.out hsA (by rw [ofN_len]; exact hown')
                      have b3 : Below wr.heap.size wr w2 := HB2.out.trans (append_below HO2.out hsA (by rw [ofN_len]; exact hg'))
                      obtain ⟨A3, c3, e3, _⟩ := o3.form
                      rw [ofN_len, List.length_append] at e3
                      simp only [List.length_cons, List.length_nil] at e3
                      subst e3
                      have hsB := b3.size
                      have hown2 := World.ownsRow.alloc (ownsRow_below HOp.out.outer b3) (.cells #[.slice A3 (cs.length + 1) c3] 28)
                      rw [ofNN_len] at hown2
                      have HW2 := Lib.hid hown2
                      have HNx := Lib.hid (fun v' w4 h1 h2 => LsRel.next (L := G) (ys := cs ++ [x]) (v' := v') (w2 := w4) HOp.out HBp.out o3 b3 h1 h2)
                      clear hown' hg' he o3 b3 hown2
                      go_wp2_with (at_builtin; refine wpList_append_own_at _ rfl (.tmp 59) (.tmp 68) 42 rfl wo.heap.size 28 i1 (.slice none 0 0) 1 24 Try.underlying42 ji jz0 jz1 jz2 rfl (by decide) _ _ _ rfl HW2.out ⟨w2.heap.size, 0, none⟩ 1 1 [.slice A3 (cs.length + 1) c3] rfl rfl ?p1b ?p2b ?p3b ?p4b ?p5b ?_)
                      try case p1b => exact news_one _ _ _ (by simp)
                      try case p2b => first | exact one_slice | rfl | simp
                      try case p3b => first | (simp only [maxLen]; omega) | omega
                      try case p4b => omega
                      try case p5b => first | (simp only [World.size_alloc]; omega) | omega
                      intro v4 w4 hown' hg' _ he
                      have HN := Lib.hid (HNx.out v4 w4 hown' hg')
                      rw [← HPn.out] at HN
                      clear hown' hg' he HNx
                      go_wp2
                      go_roundw
                      case rel => exact ⟨x + 1, by omega, by go_num, HN⟩
                      case measure => simp [intOf]; omega
                    | true =>
                      have hnx := hcx rfl
                      go_wp2_with fail
                      refine HOw.out.mono ?_
                      rintro e w1 ⟨A2, c2, rfl, o2, b2⟩
                      rw [ofN_len]
                      have hsA := b2.size
                      have hown := World.ownsRow.alloc o2 (.cells #[.int .i64 (x : Int)] 2)
                      rw [ofN_len] at hown
                      have HW := Lib.hid hown
                      have HO2 := Lib.hid o2
                      have HB2 := Lib.hid b2
                      clear hown o2 b2
                      go_wp2_with (at_builtin; refine wpList_append_own_at _ rfl (.tmp 64) (.tmp 66) 28 rfl wr.heap.size 2 i0 (.int .i64 0) 1 8 Try.underlying28 hi hz0 hz1 hz2 rfl (by decide) _ _ _ rfl HW.out ⟨w1.heap.size, 0, none⟩ 1 1 [.int .i64 (x : Int)] rfl rfl ?p1a ?p2a ?p3a ?p4a ?p5a ?_)
                      try case p1a => exact news_one _ _ _ (by simp)
                      try case p2a => first | exact one_int | rfl | simp
                      try case p3a => first | (simp only [maxLen]; omega) | omega
                      try case p4a => omega
                      try case p5a => first | (simp only [World.size_alloc]; omega) | omega
                      intro v2 w2 hown' hg' _ he
                      have o3 : OwnI w2 wr.heap.size v2 (ofN (cs ++ [x])) := by rw [ofN_snoc]; exact OwnI_push HO2.out hsA (by rw [ofN_len]; exact hown')
                      have b3 : Below wr.heap.size wr w2 := HB2.out.trans (append_below HO2.out hsA (by rw [ofN_len]; exact hg'))
                      obtain ⟨A3, c3, e3, _⟩ := o3.form
                      rw [ofN_len, List.length_append] at e3
                      simp only [List.length_cons, List.length_nil] at e3
                      subst e3
                      have hsB := b3.size
                      have hown2 := World.ownsRow.alloc (ownsRow_below HOp.out.outer b3) (.cells #[.slice A3 (cs.length + 1) c3] 28)
                      rw [ofNN_len] at hown2
                      have HW2 := Lib.hid hown2
                      have HNx := Lib.hid (fun v' w4 h1 h2 => LsRel.next (L := G) (ys := cs ++ [x]) (v' := v') (w2 := w4) HOp.out HBp.out o3 b3 h1 h2)
                      clear hown' hg' he o3 b3 hown2
                      go_wp2_with (at_builtin; refine wpList_append_own_at _ rfl (.tmp 59) (.tmp 68) 42 rfl wo.heap.size 28 i1 (.slice none 0 0) 1 24 Try.underlying42 ji jz0 jz1 jz2 rfl (by decide) _ _ _ rfl HW2.out ⟨w2.heap.size, 0, none⟩ 1 1 [.slice A3 (cs.length + 1) c3] rfl rfl ?p1b ?p2b ?p3b ?p4b ?p5b ?_)
                      try case p1b => exact news_one _ _ _ (by simp)
                      try case p2b => first | exact one_slice | rfl | simp
                      try case p3b => first | (simp only [maxLen]; omega) | omega
                      try case p4b => omega
                      try case p5b => first | (simp only [World.size_alloc]; omega) | omega
                      intro v4 w4 hown' hg' _ he
                      have HN := Lib.hid (HNx.out v4 w4 hown' hg')
                      rw [← HPn.out] at HN
                      clear hown' hg' he HNx
                      go_wp2
                      go_roundw
                      case rel => exact ⟨x + 1, by omega, by go_num, HN⟩
                      case measure => simp [intOf]; omega
                · obtain rfl : x = d + 1 := by omega
                  have HN : Hid (LsRel ((L.take (i + 1)).flatMap (ext total last)) wo _ _) := Lib.hid (by
                    rw [HFt.out, ← prt_end, ← HD.out]; exact HX.out)
                  clear HX HFt
                  go_wp2
                  go_roundw
                  case rel => exact ⟨i + 1, hit, by go_num, HN⟩
                  case measure => simp [intOf]; omega
        · obtain rfl : i = L.length := by omega
          have HN : Hid (LsRel (wayL total parts (k + 1)) w _ _) := Lib.hid (by
            obtain ⟨ux, h1, h2⟩ := HX.out
            rw [List.take_of_length_le (Nat.le_refl _)] at h1
            rw [HWs.out]
            exact ⟨ux, h1.base hsz, HBv.out.trans (h2.mono hsz)⟩)
          clear HX HFl HLn
          go_wp2
          go_roundw
          case rel => exact ⟨k + 1, hkt, by go_num, HN⟩
          case measure => simp [intOf]; omega
    · obtain rfl : k = parts := by omega
      have HF : Hid (SumsRet (wayL total k k) w (.returned (.slice Av (wayL total k k).length cv)) _) := Lib.hid (by
        obtain ⟨ux, h1, h2⟩ := HV.out
        exact ⟨Av, cv, rfl, h1.rd, h2⟩)
      clear HV
      go_wp2
      go_ret
      exact HF.out
set_option maxHeartbeats 4000000 in
set_option maxRecDepth 100000 in
theorem specQ_any (A : Option Addr) (c B : Nat) (bits : Int) (xss : List (List Int)) (w : World) (hx : RdC w B A xss) (hB : B ≤ w.heap.size) (hl : xss.length ≤ 1048576) (hm : tot xss ≤ 1048576) :
    Calls Try.prog 33 #[.agg #[.int .i64 bits, .slice A xss.length c]] w fun e w' => (netB bits xss = true → QRet bits.toNat xss w e w') ∧ (netB bits xss = false → QNo w e w') := by
  obtain ⟨W1, hW1⟩ : ∃ W1, W1 = w.alloc (.cells #[.int .i64 bits, .slice A xss.length c] 49) := ⟨_, rfl⟩
  have z1 : W1.heap.size = w.heap.size + 1 := by rw [hW1]; simp
  have b1 : Below w.heap.size w W1 := by rw [hW1]; exact (Below.refl _ _).alloc (Nat.le_refl _) _
  have e0 : W1.cell? ⟨w.heap.size, 0, none⟩ = some (.int .i64 bits) := by rw [hW1]; simp
  have e1 : W1.cell? ⟨w.heap.size, 1, none⟩ = some (.slice A xss.length c) := by rw [hW1]; simp
  have hwl : w.heap.size < W1.heap.size := by omega
  have HV := Lib.hid (l10Is_any w.heap.size A c B bits xss W1 (hx.rd.below b1 hB) e0 e1 hl hm)
  have HW1 := Lib.hid hW1
  have HB1 := Lib.hid b1
  have hB1 : B ≤ W1.heap.size := by omega
  cases hN : netB bits xss with
  | false =>
    rw [hN] at HV
    clear hW1 z1 b1 hx hN
    go_enter Try.func33, Try.ntmps33
    go_wp2_with fail
    rw [← HW1.out]
    refine HV.out.mono ?_
    rintro e w1 ⟨rfl, hD⟩
    have HB2 := Lib.hid (HB1.out.trans ((hD.below (B := W1.heap.size)).mono (by omega)))
    clear hD
    go_wp2
    go_ret2
    exact ⟨fun h => (by cases h), fun _ => ⟨rfl, HB2.out⟩⟩
  | true =>
    rw [hN] at HV
    obtain ⟨n1, n2, n3, n4, n5⟩ := netB_true hN
    obtain ⟨b, rfl⟩ := Int.eq_ofNat_of_zero_le n1
    rw [Int.toNat_natCast] at n5
    have hb6 : b ≤ 6 := by omega
    have HInd := Lib.hid (fun (w1 : World) (A' : Option Addr) (c' : Nat) (cs : List Nat) (hb1 : Below W1.heap.size W1 w1) (hy : RdI w1 w1.heap.size A' (ofN cs)) (hcl : cs.length = xss.length) (hcs : cs.sum ≤ b) => indep_any w.heap.size A A' c c' w1.heap.size b cs.length xss cs w1 (((hx.below b1 hB).below hb1 hB1).more (Nat.le_trans hB1 hb1.size)) hy (Nat.le_refl _) ((hb1.cell (p := ⟨w.heap.size, 1, none⟩) hwl).trans e1) n5 hb6 n4 rfl hcl hcs)
    have HSum := Lib.hid (fun (w1 : World) (left : Nat) (hl : left ≤ 6) => sums_any left xss.length w1 hl n4)
    have HWay : Hid (∀ left, IndFor (natss xss) left [] ↔ ∀ cs ∈ wayL left xss.length xss.length, Ind (tks (natss xss) cs)) := Lib.hid fun left => by
      have := indFor_ways (Ms := natss xss) (by rw [natss_len]; omega) left
      rwa [natss_len] at this
    have HWM : Hid (∀ left cs, cs ∈ wayL left xss.length xss.length → cs.length = xss.length ∧ cs.sum = left) := Lib.hid fun left cs h => (wayL_all (by omega) cs).1 h
    have HZ := Lib.hid (indFor_zero (natss xss))
    clear hW1 z1 b1 hx hN n5
    go_enter Try.func33, Try.ntmps33
    go_wp2_with fail
    rw [← HW1.out]
    refine HV.out.mono ?_
    rintro e w1 ⟨rfl, hD⟩
    have H0 : Hid (Below W1.heap.size W1 w1) := Lib.hid hD.below
    clear hD
    go_wp2
    go_loopw [4] (fun tv wr => ∃ t : Nat, t ≤ b ∧ tv = .int .i64 (t : Int) ∧ Hid (∀ s, s < t → ¬ IndFor (natss xss) (b - s) []) ∧ Hid (Below W1.heap.size W1 wr)) (fun tv _ => b - (intOf tv).toNat)
    case atStart => exact ⟨0, Nat.zero_le _, rfl, Lib.hid fun m hm => absurd hm (Nat.not_lt_zero m), H0⟩
    case round =>
      obtain ⟨t, ht, rfl, hall, HB⟩ := hrel
      clear H0
      have d0 := (HB.out.cell (p := ⟨w.heap.size, 0, none⟩) hwl).trans e0
      have d1 := (HB.out.cell (p := ⟨w.heap.size, 1, none⟩) hwl).trans e1
      by_cases hlt : t < b
      · have HSt := HSum.out wr (b - t) (by omega)
        rw [show ((b - t : Nat) : Int) = (b : Int) - (t : Int) by omega] at HSt
        have HSt := Lib.hid HSt
        go_wp2_with fail
        refine HSt.out.mono ?_
        rintro e w2 ⟨Aw, cw, rfl, hr, hb2⟩
        have HWt := Lib.hid (HWay.out (b - t))
        have HWMt := Lib.hid (HWM.out (b - t))
        have HB2 := Lib.hid (HB.out.trans (hb2.mono HB.out.size))
        have HR2 := Lib.hid hr
        clear hr hb2 HSt HSum
        have hWl : (wayL (b - t) xss.length xss.length).length ≤ 2401 := by
          have h1 := wayL_len (b - t) xss.length (by omega) xss.length
          have h2 : 7 ^ xss.length ≤ 7 ^ 4 := Nat.pow_le_pow_right (by decide) n4
          omega
        generalize wayL (b - t) xss.length xss.length = L at *
        have HI0 : Hid (Below w2.heap.size w2 w2) := Lib.hid (Below.refl _ _)
        go_wp2
        go_loopw [6, 7] (fun av iv wr => ∃ (i : Nat) (r : Bool), i ≤ L.length ∧ iv = .int .i64 (i : Int) ∧ av = .bool r ∧ Hid (r = true ↔ ∀ j, j < i → Ind (tks (natss xss) (L.getD j []))) ∧ Hid (Below w2.heap.size w2 wr)) (fun _ iv _ => L.length - (intOf iv).toNat)
        case atStart => exact ⟨0, true, Nat.zero_le _, rfl, rfl, Lib.hid ⟨fun _ j hj => absurd hj (Nat.not_lt_zero j), fun _ => rfl⟩, HI0⟩
        case round =>
          obtain ⟨i, r, hi, rfl, rfl, hri, HB3⟩ := hrel
          clear HI0
          by_cases hit : i < L.length
          · cases r with
            | false =>
              have HN : Hid (false = true ↔ ∀ j, j < i + 1 → Ind (tks (natss xss) (L.getD j []))) := Lib.hid ⟨fun h => (by cases h), fun h => hri.out.2 fun j hj => h j (by omega)⟩
              go_wp2
              go_roundw
              case rel => exact ⟨i + 1, false, hit, by go_num, rfl, HN, HB3⟩
              case measure => simp [intOf]; omega
            | true =>
              obtain ⟨bb, off, hA, hbB, hc⟩ := (HR2.out.below HB3.out (Nat.le_refl _)) (by rw [ofNN_len]; omega)
              obtain ⟨A1, c1, g1, r1⟩ := hc i (by rw [ofNN_len]; exact hit)
              rw [ofNN_get, ofN_len] at g1
              rw [ofNN_get] at r1
              obtain ⟨m1, m2⟩ := HWMt.out (L.getD i []) (by simp [List.getD, hit])
              have hs3 := HB3.out.size
              have HIn := Lib.hid (HInd.out _ A1 c1 (L.getD i []) (HB2.out.trans (HB3.out.mono HB2.out.size)) (r1.more hs3) m1 (by omega))
              subst hA
              have HNi : Hid (∀ r2 : Bool, (r2 = true ↔ Ind (tks (natss xss) (L.getD i []))) → (r2 = true ↔ ∀ j, j < i + 1 → Ind (tks (natss xss) (L.getD j [])))) := Lib.hid fun r2 h2 => by
                rw [h2]
                constructor
                · intro h j hj
                  rcases Nat.lt_or_ge j i with h3 | h3
                  · exact hri.out.1 rfl j h3
                  · rw [show j = i by omega]; exact h
                · intro h; exact h i (Nat.lt_succ_self i)
              clear hc r1 m1 m2
              generalize L.getD i [] = cs at *
              go_wp2_with fail
              refine HIn.out.mono ?_
              rintro e w3 ⟨r2, rfl, h2, h3⟩
              have HN := Lib.hid (HNi.out r2 h2)
              have HB4 := Lib.hid (HB3.out.trans (h3.mono hs3))
              clear h2 h3
              go_wp2
              go_roundw
              case rel => exact ⟨i + 1, r2, hit, by go_num, rfl, HN, HB4⟩
              case measure => simp [intOf]; omega
          · obtain rfl : i = L.length := by omega
            have HIff : Hid (r = true ↔ IndFor (natss xss) (b - t) []) := Lib.hid (by
              rw [HWt.out, hri.out]
              constructor
              · intro h cs hcs
                obtain ⟨j, hj, e⟩ := List.mem_iff_getElem.1 hcs
                have := h j hj
                rwa [show L.getD j [] = cs by simp [List.getD, hj, e]] at this
              · intro h j hj
                exact h _ (by simp [List.getD, hj]))
            have HB5 := Lib.hid (HB2.out.trans (HB3.out.mono HB2.out.size))
            clear hri HWt HWMt HR2
            cases r with
            | true =>
              have HF : Hid (QRet b xss w (.returned (.tuple #[.int .i64 (t : Int), .bool true])) _) := Lib.hid ⟨t, rfl, ⟨ht, HIff.out.1 rfl, hall.out⟩, HB1.out.trans (HB5.out.mono (by omega))⟩
              go_wp2
              go_ret2
              first
                | exact ⟨fun _ => HF.out, fun h => (by cases h)⟩
                | exact HF.out
            | false =>
              have HN : Hid (∀ s, s < t + 1 → ¬ IndFor (natss xss) (b - s) []) := Lib.hid fun s hs => by
                rcases Nat.lt_or_ge s t with h | h
                · exact hall.out s h
                · rw [show s = t by omega]
                  intro h2
                  have := HIff.out.2 h2
                  cases this
              go_wp2
              go_roundw
              case rel => exact ⟨t + 1, hlt, by go_num, HN, HB5⟩
              case measure => simp [intOf]; omega
      · obtain rfl : t = b := by omega
        have HF : Hid (QRet t xss w (.returned (.tuple #[.int .i64 (t : Int), .bool true])) _) := Lib.hid ⟨t, rfl, ⟨ht, by rw [Nat.sub_self]; exact HZ.out, hall.out⟩, HB1.out.trans (HB.out.mono (by omega))⟩
        go_wp2
        go_ret2
        first
          | exact ⟨fun _ => HF.out, fun h => (by cases h)⟩
          | exact HF.out
end Go.Proofs.Ytjkcdnfmmfpbjaa.QualI

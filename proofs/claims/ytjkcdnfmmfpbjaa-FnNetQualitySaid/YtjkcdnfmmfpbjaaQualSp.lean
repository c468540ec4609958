/- The quality of a net: the reference. -/
import Derived.Test.YtjkcdnfmmfpbjaaQualI
import Derived.StillTail
import Derived.StillTailTactics
namespace Go.Proofs.Ytjkcdnfmmfpbjaa.QualI
open Go.RowKit Go.Proofs.Ytjkcdnfmmfpbjaa Go.Proofs.Ytjkcdnfmmfpbjaa.Base Go.Proofs.Ytjkcdnfmmfpbjaa.Mem Go.Proofs.Ytjkcdnfmmfpbjaa.Pts Go.Proofs.Ytjkcdnfmmfpbjaa.NetV Go.Proofs.Ytjkcdnfmmfpbjaa.NetP Go.Proofs.Ytjkcdnfmmfpbjaa.RevNet Go.Proofs.Ytjkcdnfmmfpbjaa.Scr Go.Proofs.Ytjkcdnfmmfpbjaa.Concat Go.Proofs.Ytjkcdnfmmfpbjaa.RankM Go.Proofs.Ytjkcdnfmmfpbjaa.Rank Go.Proofs.Ytjkcdnfmmfpbjaa.Ways Go.Proofs.Ytjkcdnfmmfpbjaa.QualL
set_option linter.unusedVariables false
def ofNN (L : List (List Nat)) : List (List Int) := L.map ofN
theorem ofNN_len (L : List (List Nat)) : (ofNN L).length = L.length := by simp [ofNN]
theorem ofNN_get (L : List (List Nat)) (i : Nat) : (ofNN L).getD i [] = ofN (L.getD i []) := by
  by_cases h : i < L.length
  · simp [ofNN, List.getD, h]
  · simp [ofNN, List.getD, h, ofN]
/-- rows that are joined, matrix by matrix -/
def InRel (Ms : List (List Nat)) (cs : List Nat) (w : World) (v iv : Value) (wr : World) : Prop :=
  ∃ d : Nat, d ≤ cs.length ∧ iv = .int .i64 (d : Int) ∧ Hid (OwnI wr w.heap.size v (ofN (tks (Ms.take d) (cs.take d)))) ∧ Hid (Below w.heap.size w wr)
theorem tks_take_len (Ms : List (List Nat)) (cs : List Nat) (d : Nat) : (tks (Ms.take d) (cs.take d)).length ≤ cs.sum := by
  refine Nat.le_trans (tks_le _ _) ?_
  have : (cs.take d).sum + (cs.drop d).sum = cs.sum := by rw [← List.sum_append, List.take_append_drop]
  omega
set_option maxHeartbeats 4000000 in
set_option maxRecDepth 100000 in
theorem indep_any (p : Nat) (A A' : Option Addr) (c c' B b m : Nat) (xss : List (List Int)) (cs : List Nat) (w : World) (hx : RdC w B A xss) (hy : RdI w B A' (ofN cs)) (hB : B ≤ w.heap.size) (k1 : w.cell? ⟨p, 1, none⟩ = some (.slice A xss.length c)) (hv : xss.all (rowB b b) = true) (hb : b ≤ 6)
    (hl4 : xss.length ≤ 4) (hm : cs.length = m) (hm2 : m = xss.length) (hsum : cs.sum ≤ b) :
    Calls Try.prog 62 #[.pointer (some ⟨p, 0, none⟩), .slice A' m c'] w (IndRet (Ind (tks (natss xss) cs)) w) := by
  have hp : p < w.heap.size := block_lt_of_cell k1
  obtain ⟨all, hall⟩ : ∃ all, all = tks (natss xss) cs := ⟨_, rfl⟩
  have hB64 : Small all := fun j => by
    have h1 : ∀ r, r ∈ tks (natss xss) cs → r < 64 := fun r hr => by
      have key : ∀ (Ms : List (List Nat)) (cs : List Nat), (∀ M, M ∈ Ms → ∀ r, r ∈ M → r < 64) → ∀ r, r ∈ tks Ms cs → r < 64 := by
        intro Ms
        induction Ms with
        | nil => intro cs _ r hr; rw [tks_nil] at hr; cases hr
        | cons M Ms ih =>
          intro cs h r hr
          cases cs with
          | nil => cases hr
          | cons c cs =>
            rcases List.mem_append.1 hr with g | g
            · exact h M (by simp) r (List.mem_of_mem_take g)
            · exact ih cs (fun M' hM' => h M' (by simp [hM'])) r g
      refine key _ _ (fun M hM r hr => ?_) r hr
      obtain ⟨d, hd, e⟩ := List.mem_iff_getElem.1 hM
      rw [natss_len] at hd
      have e2 : (natss xss).getD d [] = M := by simp [List.getD, show d < (natss xss).length by rw [natss_len]; exact hd, e]
      rw [natss_get] at e2
      obtain ⟨j, hj, e'⟩ := List.mem_iff_getElem.1 hr
      have e3 : M.getD j 0 = r := by simp [List.getD, hj, e']
      have := nats_rows hv hd j
      rw [e2, e3] at this
      have h6 : 2 ^ b ≤ 64 := Nat.pow_le_pow_right (n := 2) (by decide) hb
      omega
    rw [hall]
    by_cases hj : j < (tks (natss xss) cs).length
    · exact h1 _ (getD_mem hj)
    · rw [show (tks (natss xss) cs).getD j 0 = 0 by rw [List.getD, List.getElem?_eq_none (by omega)]; rfl]; decide
  have hend : tks ((natss xss).take m) (cs.take m) = all := by
    rw [hall, List.take_of_length_le (by rw [natss_len]; omega), List.take_of_length_le (by omega)]
  have hlen : ∀ d, (tks ((natss xss).take d) (cs.take d)).length ≤ 6 := fun d => by have := tks_take_len (natss xss) cs d; omega
  have hstep := fun d (h : d < m) => tks_snoc (natss xss) cs d (by rw [natss_len]; omega) (by omega)
  have hRow := fun d (h : d < m) => row_of hv (show d < xss.length by omega)
  have hcs : ∀ d, d < m → cs.getD d 0 ≤ b := fun d h => by
    have h1 : (cs.take d).sum + (cs.drop d).sum = cs.sum := by rw [← List.sum_append, List.take_append_drop]
    rw [List.drop_eq_getElem_cons (by omega : d < cs.length), List.sum_cons] at h1
    have : cs.getD d 0 = cs[d] := by simp [List.getD, show d < cs.length by omega]
    omega
  have hT : ∀ d, d < m → ofN ((nats (xss.getD d [])).take (cs.getD d 0)) = (xss.getD d []).take (cs.getD d 0) := fun d h => by
    have e : ofN ((nats (xss.getD d [])).take (cs.getD d 0)) = (ofN (nats (xss.getD d []))).take (cs.getD d 0) := by simp only [ofN, List.map_take]
    rw [e, ofN_nats fun i hi => ((hRow d h).2 i (by have := (hRow d h).1; omega)).1]
  rw [← hall]
  have HX := Lib.hid hx
  have HY := Lib.hid hy
  have HS := Lib.hid hstep
  have HRow := Lib.hid hRow
  have HCs := Lib.hid hcs
  have HT := Lib.hid hT
  have HL := Lib.hid hlen
  have HE := Lib.hid hend
  have HB64 := Lib.hid hB64
  have HM := Lib.hid hm
  have HM2 := Lib.hid hm2
  have hlm : m ≤ 4 := by omega
  have hlx : (m : Int) ≤ (xss.length : Int) := by omega
  have H0 : Hid (InRel (natss xss) cs w (.slice (some ⟨w.heap.size, 0, none⟩) 0 0) (.int .i64 0) (w.alloc (.cells #[] 2))) := Lib.hid ⟨0, Nat.zero_le _, rfl, Lib.hid (by
    have : tks ((natss xss).take 0) (cs.take 0) = [] := by simp [tks]
    rw [this]
    exact World.ownsRow_made (base := w.heap.size) (e := 2) (size := 1) w #[] 0 (Nat.le_refl _) (Nat.zero_le _) rfl), Lib.hid ((Below.refl _ _).alloc (Nat.le_refl _) _)⟩
  clear hx hy hstep hRow hcs hT hlen hend hB64 hm hm2 hv hall
  go_enter Try.func62, Try.ntmps62
  go_wp2
  go_loopw [5, 6] (fun v iv wr => InRel (natss xss) cs w v iv wr) (fun _ iv _ => m - (intOf iv).toNat)
  case atStart => exact H0.out
  case round =>
    obtain ⟨d, hd, rfl, HO, HB⟩ := hrel
    rw [HM.out] at hd
    clear H0
    have hsz := HB.out.size
    have q1 := (HB.out.cell (p := ⟨p, 1, none⟩) hp).trans k1
    have hOl := HL.out d
    by_cases hlt : d < m
    · obtain ⟨b2, off2, rfl, _, hc2⟩ := (HY.out.below HB.out hB) (by rw [ofN_len, HM.out]; omega)
      have g2 := hc2 d (by rw [ofN_len, HM.out]; exact hlt)
      rw [ofN_get _ d (by rw [HM.out]; exact hlt)] at g2
      obtain ⟨b3, off3, rfl, _, hc3⟩ := (HX.out.below HB.out hB) (by rw [← HM2.out]; omega)
      obtain ⟨A4, c4, g3, hcap, hcap2, r4⟩ := hc3 d (by rw [← HM2.out]; exact hlt)
      obtain ⟨m1, _⟩ := HRow.out d hlt
      rw [m1] at g3 hcap
      have hcb := HCs.out d hlt
      have hTd := HT.out d hlt
      have hSd := HS.out d hlt
      have hr5 : RdI wr B A4 (ofN ((nats (xss.getD d [])).take (cs.getD d 0))) := by rw [hTd]; exact r4.take (by rw [m1]; exact hcb)
      rw [natss_get] at hSd
      have hNl : (ofN ((nats (xss.getD d [])).take (cs.getD d 0))).length = cs.getD d 0 := by rw [ofN_len, List.length_take, nats_len, m1]; omega
      have hL2 := HL.out (d + 1)
      rw [hSd, List.length_append] at hL2
      have hl3 : (nats (xss.getD d [])).take (cs.getD d 0) = (nats (xss.getD d [])).take (cs.getD d 0) := rfl
      have hl4' : ((nats (xss.getD d [])).take (cs.getD d 0)).length = cs.getD d 0 := by rw [← ofN_len]; exact hNl
      rw [hl4'] at hL2
      have HN : Hid (∀ v' w2, w2.ownsRow w.heap.size 2 1 v' ((tks ((natss xss).take d) (cs.take d)).length + cs.getD d 0) (ints (ofN (tks ((natss xss).take d) (cs.take d)) ++ ofN ((nats (xss.getD d [])).take (cs.getD d 0)))) → Below w.heap.size wr w2 → InRel (natss xss) cs w v' (.int .i64 ((d : Int) + 1)) w2) := Lib.hid fun v' w2 h1 h2 => ⟨d + 1, by rw [HM.out]; exact hlt, by simp, Lib.hid (by
        unfold OwnI
        rw [hSd, ofN_len, List.length_append, hl4']
        have : ofN (tks ((natss xss).take d) (cs.take d) ++ (nats (xss.getD d [])).take (cs.getD d 0)) = ofN (tks ((natss xss).take d) (cs.take d)) ++ ofN ((nats (xss.getD d [])).take (cs.getD d 0)) := by simp [ofN]
        rw [this]; exact h1), Lib.hid (HB.out.trans h2)⟩
      have HR5 := Lib.hid hr5
      have HNl := Lib.hid hNl
      have hO := HO.out
      unfold OwnI at hO
      rw [ofN_len] at hO
      have HO2 := Lib.hid hO
      obtain ⟨A6, c6, e6, _⟩ := ownsRow_form hO
      subst e6
      clear hc2 hc3 r4 hTd hSd hr5 hNl hl4' hl3 m1 HO hO HY HX
      generalize ofN ((nats (xss.getD d [])).take (cs.getD d 0)) = ys at *
      generalize tks ((natss xss).take d) (cs.take d) = T at *
      generalize cs.getD d 0 = k at *
      have hkc : k ≤ c4 := by omega
      have hdx : d < xss.length := by have := HM2.out; omega
      have bd : Below wr.heap.size wr wr.drew := (Below.refl _ _).drew
      have q1d := (bd.cell (p := ⟨p, 1, none⟩) (block_lt_of_cell q1)).trans q1
      have g2d := (bd.cell (p := ⟨b2, off2 + d, none⟩) (block_lt_of_cell g2)).trans g2
      have g3d := (bd.cell (p := ⟨b3, off3 + d, none⟩) (block_lt_of_cell g3)).trans g3
      have HR5d := Lib.hid (HR5.out.below ((Below.refl B wr).drew) (Nat.le_refl _))
      have HO2d := Lib.hid (ownsRow_below HO2.out bd)
      have HBd : Hid (∀ w2, wr.drew.grownBy w2 (Value.slice A6 T.length c6).ownBlock → Below w.heap.size wr w2) := Lib.hid fun w2 hg => (bd.mono hsz).trans (grown_below hg (fun q he => by
        obtain ⟨_, _, h3, _⟩ := ownsRow_block HO2.out he
        exact h3) (by simpa using hsz))
      have hszd : w.heap.size ≤ wr.drew.heap.size := by simpa using hsz
      clear q1 g2 g3 HR5 HO2 bd
      rcases A4 with _ | ad4
      all_goals
        go_wp2
        refine wp_region_still_tail 13 (by kernel_rfl) (by kernel_rfl) ?_
        change wpStill _ _ wr.drew (fun a' => wpList _ _ _ _ a' wr.drew) _ _
        generalize wr.drew = wd at *
        simp only [List.take_succ_cons, List.take_zero, List.drop_succ_cons, List.drop_zero]
        repeat still_step
        refine wpStill_nil ?_
        go_wp2_with (at_builtin; refine wpList_append_list rfl (.tmp 14) (.tmp 26) rfl w.heap.size _ T.length (ofN T) rfl HO2d.out _ k c4 B ys rfl HNl.out HR5d.out (by omega) hszd ?_)
        intro v' w2 h1 h2
        have HNx := Lib.hid (HN.out v' w2 h1 (HBd.out w2 h2))
        clear h1 h2
        go_wp2
        go_roundw
        case rel => exact HNx.out
        case measure => simp [intOf]; omega
    · obtain rfl : d = m := by omega
      rw [HE.out] at HO
      obtain ⟨A6, c6, e6, _⟩ := HO.out.form
      subst e6
      rw [ofN_len]
      have hlall : all.length ≤ 6 := by have := HL.out d; rw [HE.out] at this; exact this
      have HRk := Lib.hid (l08Rank_any A6 c6 wr.heap.size all.length all wr rfl HO.out.rd (Nat.le_refl _) (by omega) HB64.out)
      clear HY HX HS HRow HCs HT HL HE hOl
      go_wp2_with fail
      refine HRk.out.mono ?_
      rintro e w2 ⟨r, rfl, h1, h2, h3⟩
      have HF : Hid (IndRet (Ind all) w (.returned (.bool ((r : Int) == (all.length : Int)))) w2) := Lib.hid ⟨_, rfl, by
        rw [← h2]
        simp only [beq_iff_eq]
        omega, HB.out.trans (h3.mono hsz)⟩
      clear h2 h3
      go_wp2
      go_ret
      exact HF.out
end Go.Proofs.Ytjkcdnfmmfpbjaa.QualI

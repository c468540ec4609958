/- Whether a net is valid, of the program and of the reference. -/
import Derived.Test.YtjkcdnfmmfpbjaaPoints
import Derived.Deep.RegionHeld3
namespace Go.Proofs.Ytjkcdnfmmfpbjaa.NetV
open Go.RowKit Go.Proofs.Ytjkcdnfmmfpbjaa Go.Proofs.Ytjkcdnfmmfpbjaa.Base Go.Proofs.Ytjkcdnfmmfpbjaa.Mem Go.Proofs.Ytjkcdnfmmfpbjaa.AllIn Go.Proofs.Ytjkcdnfmmfpbjaa.Pts
set_option linter.unusedVariables false

def netB (bits : Int) (xss : List (List Int)) : Bool := inR bits 0 6 && (inR (xss.length : Int) 1 4 && xss.all (rowB bits.toNat bits.toNat))
theorem netB_true {bits : Int} {xss : List (List Int)} (h : netB bits xss = true) : 0 ≤ bits ∧ bits ≤ 6 ∧ 1 ≤ xss.length ∧ xss.length ≤ 4 ∧ xss.all (rowB bits.toNat bits.toNat) = true := by
  simp only [netB, Bool.and_eq_true] at h
  have h1 := inR_true h.1
  have h2 := inR_true h.2.1
  exact ⟨h1.1, h1.2, by omega, by omega, h.2.2⟩
set_option maxHeartbeats 2000000 in
theorem l10Is_body (p : Nat) (A : Option Addr) (c B b : Nat) (xss : List (List Int)) (w : World) (hx : RdII w B A xss) (n0 : w.cell? ⟨p, 0, none⟩ = some (.int .i64 (b : Int))) (n1 : w.cell? ⟨p, 1, none⟩ = some (.slice A xss.length c)) (hb : b ≤ 6) (h1 : 1 ≤ xss.length) (h2 : xss.length ≤ 4) (hm : tot xss ≤ 1048576) :
    Calls Try.prog 60 #[.pointer (some ⟨p, 0, none⟩)] w (ListRet (xss.all (rowB b b)) w) := by
  have i1 := inR_yes (n := (b : Int)) (lo := 0) (hi := 6) (by omega)
  have i2 := inR_yes (n := (xss.length : Int)) (lo := 1) (hi := 4) (by omega)
  obtain ⟨p1, p2⟩ := pw_bd6 hb
  obtain ⟨bb, off, rfl, hbB, hc⟩ := hx (by omega)
  have HC := Lib.hid hc
  clear hc hx
  have N0 := Lib.hid n0
  have N1 := Lib.hid n1
  have HLen := Lib.hid (fun j => len_le_tot xss j)
  have h1' : 0 < xss.length := by omega
  go_enter Try.func60, Try.ntmps60
  go_wp2_with (go_at_call 44; refine (l00In_any _ _ _ _).mono ?_; rintro e w' ⟨rfl, rfl⟩)
  go_loopw [3, 4] (fun i _ wr => ∃ k : Nat, k ≤ xss.length ∧ i = .int .i64 (k : Int) ∧ Drawn w wr ∧ Hid (∀ j, j < k → rowB b b (xss.getD j []) = true)) (fun i _ _ => xss.length - (intOf i).toNat)
  case atStart => exact ⟨0, Nat.zero_le _, rfl, Drawn.refl _, Lib.hid fun j hj => absurd hj (Nat.not_lt_zero j)⟩
  case round =>
    obtain ⟨k, hk, rfl, hD, hall⟩ := hrel
    have HD := Lib.hid hD
    have n0' := (hD.below (B := p + 1)).cell (p := ⟨p, 0, none⟩) (Nat.lt_succ_self p) |>.trans n0
    have n1' := (hD.below (B := p + 1)).cell (p := ⟨p, 1, none⟩) (Nat.lt_succ_self p) |>.trans n1
    clear hD n0 n1
    by_cases hlt : k < xss.length
    · obtain ⟨A1, c1, g1, r1⟩ := HC.out k hlt
      have g1' := ((HD.out.below (B := B)).cell (p := ⟨bb, off + k, none⟩) hbB).trans g1
      have hlen := HLen.out k hlt
      have G1 := Lib.hid g1
      have R1 := Lib.hid r1
      clear g1 r1
      by_cases hl : (xss.getD k []).length = b
      · have HN : Hid (allInB (xss.getD k []) 0 ((2 : Int) ^ b - 1) = true → ∀ j, j < k + 1 → rowB b b (xss.getD j []) = true) := Lib.hid fun ha j hj => by
          rcases Nat.lt_or_ge j k with h | h
          · exact hall.out j h
          · rw [show j = k by omega]
            unfold rowB
            rw [hl, ha]; simp
        have HF : Hid (allInB (xss.getD k []) 0 ((2 : Int) ^ b - 1) = false → xss.all (rowB b b) = false) := Lib.hid fun ha => all_no [] hlt (by unfold rowB; rw [hl, ha]; simp)
        clear hall
        generalize hys : xss.getD k [] = ys at *
        clear hys
        have hly : ys.length ≤ 1048576 := by omega
        have hlq := Lib.hid hl
        have hlb : ((ys.length : Int) != (b : Int)) = false := by simp [hl]
        have hlc : ((ys.length : Int) == (b : Int)) = true := by simp [hl]
        clear hl
        go_wp2
        go_quiet (fail)
        go_wp2
        go_loopw [4] (fun d wq => ∃ e : Nat, e ≤ ys.length ∧ d = .int .i64 (e : Int) ∧ Drawn w wq ∧ Hid (∀ i, i < e → inR (ys.getD i 0) 0 ((2 : Int) ^ b - 1) = true)) (fun d _ => ys.length - (intOf d).toNat)
        case atStart => exact ⟨0, Nat.zero_le _, rfl, HD.out.next _, Lib.hid fun i hi => absurd hi (Nat.not_lt_zero i)⟩
        case round =>
          obtain ⟨e, he, rfl, hDq, hin⟩ := hrel
          have m0 := (hDq.below (B := p + 1)).cell (p := ⟨p, 0, none⟩) (Nat.lt_succ_self p) |>.trans N0.out
          have m1 := (hDq.below (B := p + 1)).cell (p := ⟨p, 1, none⟩) (Nat.lt_succ_self p) |>.trans N1.out
          have m2 := ((hDq.below (B := B)).cell (p := ⟨bb, off + k, none⟩) hbB).trans G1.out
          have HDq := Lib.hid hDq
          clear hDq
          by_cases het : e < ys.length
          · obtain ⟨b3, off3, rfl, _, hc3⟩ := (R1.out.below (HDq.out.below (B := B)) (Nat.le_refl _)) (by omega)
            have g3 := hc3 e het
            clear hc3
            cases hst : Reg.stB b (ys.getD e 0)
            · have HF2 := Lib.hid (HF.out (allInB_no het hst))
              clear HF HN hin
              generalize ys.getD e 0 = x at *
              go_wp2
              go_quiet ((go_at_call 71; exact Calls.quiet_of_same (Reg.l02State_qb hst (by omega) _)))
              go_wp2
              go_ret
              exact ⟨ret_bool HF2.out.symm, HDq.out.next _⟩
            · have hin2 : Hid (∀ i, i < e + 1 → inR (ys.getD i 0) 0 ((2 : Int) ^ b - 1) = true) := Lib.hid fun i hi => by
                rcases Nat.lt_or_ge i e with h | h
                · exact hin.out i h
                · rw [show i = e by omega]; exact hst
              clear hin
              generalize ys.getD e 0 = x at *
              go_wp2
              go_quiet ((go_at_call 71; exact Calls.quiet_of_same (Reg.l02State_qb hst (by omega) _)))
              go_wp2
              go_roundw
              case rel => exact ⟨e + 1, by omega, by go_num, HDq.out.next _, hin2⟩
              case measure => simp [intOf]; omega
          · obtain rfl : e = ys.length := by omega
            have HN2 := Lib.hid (HN.out (allInB_of hin.out))
            clear HN HF hin
            go_wp2
            go_roundw
            case rel => exact ⟨k + 1, by omega, by go_num, HDq.out, HN2⟩
            case measure => simp [intOf]; omega
      · have HF := Lib.hid (all_no (f := rowB b b) [] hlt (by unfold rowB; rw [beq_eq_false_iff_ne.2 hl]; rfl))
        have hl' : ¬ ((xss.getD k []).length : Int) = (b : Int) := by omega
        generalize (xss.getD k []).length = n at *
        go_wp2
        go_quiet (fail)
        go_wp2
        go_ret
        exact ⟨ret_bool HF.out.symm, HD.out.next _⟩
    · obtain rfl : k = xss.length := by omega
      have HF := Lib.hid (all_of (f := rowB b b) [] hall.out)
      go_wp2
      go_ret
      exact ⟨ret_bool HF.out.symm, HD.out⟩


theorem l10Is_any (p : Nat) (A : Option Addr) (c B : Nat) (bits : Int) (xss : List (List Int)) (w : World) (hx : RdII w B A xss) (n0 : w.cell? ⟨p, 0, none⟩ = some (.int .i64 bits)) (n1 : w.cell? ⟨p, 1, none⟩ = some (.slice A xss.length c)) (hl : xss.length ≤ 1048576) (hm : tot xss ≤ 1048576) :
    Calls Try.prog 60 #[.pointer (some ⟨p, 0, none⟩)] w (ListRet (netB bits xss) w) := by
  cases i1 : inR bits 0 6
  · have HF := Lib.hid (show netB bits xss = false by simp [netB, i1])
    clear hx
    go_enter Try.func60, Try.ntmps60
    go_wp2_with (go_at_call 44; refine (l00In_any _ _ _ _).mono ?_; rintro e w' ⟨rfl, rfl⟩)
    go_ret
    exact ⟨ret_bool HF.out.symm, Drawn.refl _⟩
  · obtain ⟨b1, b2⟩ := inR_true i1
    obtain ⟨b, rfl⟩ := Int.eq_ofNat_of_zero_le b1
    cases i2 : inR (xss.length : Int) 1 4
    · have HF := Lib.hid (show netB b xss = false by simp [netB, i1, i2])
      clear hx
      go_enter Try.func60, Try.ntmps60
      go_wp2_with (go_at_call 44; refine (l00In_any _ _ _ _).mono ?_; rintro e w' ⟨rfl, rfl⟩)
      go_ret
      exact ⟨ret_bool HF.out.symm, Drawn.refl _⟩
    · obtain ⟨l1, l2⟩ := inR_true i2
      have h := l10Is_body p A c B b xss w hx n0 n1 (by omega) (by omega) (by omega) hm
      have e : netB b xss = xss.all (rowB b b) := by unfold netB; rw [i1, i2]; simp
      rw [e]; exact h

/-! ### The program's answer -/
set_option maxRecDepth 100000 in
set_option maxHeartbeats 2000000 in
theorem closureN_any (b0 n c B b : Nat) (A : Option Addr) (xs : List Int) (w : World) (h0 : w.cell? ⟨b0, 0, none⟩ = some (.int .i64 (b : Int))) (hx : RdI w B A xs) (hB : B ≤ w.heap.size) (hn : xs.length = n) (hm : n ≤ 1048576) (hb : b ≤ 6) :
    Calls Try.prog 81 #[.slice A n c, .pointer (some ⟨b0, 0, none⟩)] w fun e w' => e = .returned (.bool (!rowB b b xs)) ∧ Below w.heap.size w w' := by
  obtain ⟨p1, p2⟩ := pw_bd6 hb
  by_cases hl : n = b
  · have hl' : ((n : Int) != (b : Int)) = false := by rw [hl]; simp
    have HF := Lib.hid (show rowB b b xs = allInB xs 0 ((2 : Int) ^ b - 1) by simp [rowB, hn, hl])
    subst hn
    have HC := Lib.hid (fun (W : World) (hW : Below w.heap.size w W) => allIn_any A c B xs 0 ((2 : Int) ^ b - 1) W (hx.below hW hB) (Nat.le_trans hB hW.size) (by omega))
    clear hx
    have hcl : ((xs.length : Int) == (b : Int)) = true := by simp [hl]
    clear hl
    have hblt := block_lt_of_cell h0
    have HLn := Lib.hid (fun (W : World) => lenI_any A xs.length c W (by omega))
    go_enter Try.func81, Try.ntmps81
    go_wp2
    have hw1 : IntKind.i64.wrap ((2 : Int) ^ b) = (2 : Int) ^ b := by rw [IntKind.wrap_i64]; omega
    have hw2 : IntKind.i64.wrap ((2 : Int) ^ b - 1) = (2 : Int) ^ b - 1 := by rw [IntKind.wrap_i64]; omega
    (refine wp_region_below (by kernel_rfl) (by kernel_rfl) ?_; (repeat (refine wpQuiet_step (fun K hK => ?_); go_simp; first | (refine hK _ ?_; clear hK K) | (apply Exists.intro; refine ⟨fun wq hq => ?_, hK _ ?_⟩; (first | rfl | (have e0 := (hq.cell (p := ⟨b0, 0, none⟩) hblt).trans h0; first | (go_simp; done) | (go_simp; rfl) | (first | (go_at_call 46; refine (HLn.out _).mono ?_; rintro e w' ⟨rfl, rfl⟩; exact ⟨rfl, hq⟩) | (go_at_call 76; refine (HC.out _ hq).mono ?_; rintro e w1 ⟨rfl, hb1⟩; exact ⟨rfl, Base.Below.nextA hq hb1⟩)))); clear hK K))); refine wpQuiet_nil ?_; intro wq hq)
    go_wp2
    go_ret
    exact ⟨ret_bool (by rw [HF.out]), hq⟩
  · have HF := Lib.hid (show rowB b b xs = false by unfold rowB; rw [beq_eq_false_iff_ne.2 (by omega : xs.length ≠ b)]; rfl)
    have hl' : ((n : Int) != (b : Int)) = true := by simp; omega
    clear hx
    go_enter Try.func81, Try.ntmps81
    go_wp2
    go_quiet ((go_at_call 46; exact Calls.quiet_of_same ((lenI_any _ _ _ _ (by omega)).mono fun _ _ h => ⟨h.1, h.2.symm⟩)))
    go_wp2
    go_ret
    exact ⟨ret_bool (by rw [HF.out]; rfl), below_drewN (Below.refl _ _) _⟩
set_option maxHeartbeats 1000000 in
theorem indexN_any (b0 c B b : Nat) (A : Option Addr) (xss : List (List Int)) (w : World) (h0 : w.cell? ⟨b0, 0, none⟩ = some (.int .i64 (b : Int)))
    (hb0 : b0 < w.heap.size) (hx : RdII w B A xss) (hB : B ≤ w.heap.size) (hl : xss.length ≤ 1048576) (hm : tot xss ≤ 1048576) (hb : b ≤ 6) :
    Calls Try.prog 90 #[.slice A xss.length c, .func (Fn.func 81) #[] #[.pointer (some ⟨b0, 0, none⟩)]] w (IdxRet2 (xss.all (rowB b b)) w) := by
  have HX := Lib.hid hx
  have HLen := Lib.hid (fun j => len_le_tot xss j)
  clear hx
  go_enter Try.func90, Try.ntmps90
  go_wp2
  go_loopw [5, 8] (fun _ i wr => ∃ k : Nat, k ≤ xss.length ∧ i = .int .i64 (k : Int) ∧ Below w.heap.size w wr ∧ Hid (∀ j, j < k → rowB b b (xss.getD j []) = true)) (fun _ i _ => xss.length - (intOf i).toNat)
  case atStart => exact ⟨0, Nat.zero_le _, rfl, Below.refl _ _, Lib.hid fun j hj => absurd hj (Nat.not_lt_zero j)⟩
  case round =>
    obtain ⟨k, hk, rfl, hbel, hall⟩ := hrel
    by_cases hlt : k < xss.length
    · have e0 := (hbel.cell (p := ⟨b0, 0, none⟩) hb0).trans h0
      obtain ⟨pb, poff, rfl, _, hc⟩ := (HX.out.below hbel hB) (by omega)
      obtain ⟨A1, c1, g1, r1⟩ := hc k hlt
      have hlen := HLen.out k hlt
      have hsz := hbel.size
      have HCl := Lib.hid (closureN_any b0 (xss.getD k []).length c1 B b A1 (xss.getD k []) wr e0 r1 (by omega) rfl (by omega) hb)
      have HBel := Lib.hid hbel
      clear hc r1 e0 hbel
      cases hr : rowB b b (xss.getD k [])
      · have hf := Lib.hid (all_no (f := rowB b b) [] hlt hr)
        rw [hr] at HCl
        have HR := Lib.hid hr
        clear hr
        generalize xss.getD k [] = ys at *
        go_wp2_with fail
        refine HCl.out.mono ?_
        rintro e w1 ⟨rfl, hw1⟩
        have HW1 := Lib.hid hw1
        clear hw1
        go_wp2
        go_ret
        exact ⟨(k : Int), rfl, .inr ⟨by omega, hf.out⟩, Base.Below.nextA HBel.out HW1.out⟩
      · have hn : Hid (∀ j, j < k + 1 → rowB b b (xss.getD j []) = true) := Lib.hid fun j hj => by
          rcases Nat.lt_or_ge j k with h | h
          · exact hall.out j h
          · rw [show j = k by omega]; exact hr
        rw [hr] at HCl
        have HR := Lib.hid hr
        clear hr hall
        generalize xss.getD k [] = ys at *
        go_wp2_with fail
        refine HCl.out.mono ?_
        rintro e w1 ⟨rfl, hw1⟩
        have HW1 := Lib.hid (Base.Below.nextA HBel.out hw1)
        clear hw1
        go_wp2
        go_roundw
        case rel => exact ⟨k + 1, by omega, by go_num, HW1.out, hn⟩
        case measure => simp [intOf]; omega
    · obtain rfl : k = xss.length := by omega
      have HBel := Lib.hid hbel
      clear hbel
      go_wp2
      go_ret
      exact ⟨-1, rfl, .inl ⟨rfl, all_of [] hall.out⟩, HBel.out⟩
theorem containsN_any (b0 c B b : Nat) (A : Option Addr) (xss : List (List Int)) (w : World) (h0 : w.cell? ⟨b0, 0, none⟩ = some (.int .i64 (b : Int)))
    (hb0 : b0 < w.heap.size) (hx : RdII w B A xss) (hB : B ≤ w.heap.size) (hl : xss.length ≤ 1048576) (hm : tot xss ≤ 1048576) (hb : b ≤ 6) :
    Calls Try.prog 74 #[.slice A xss.length c, .func (Fn.func 81) #[] #[.pointer (some ⟨b0, 0, none⟩)]] w fun e w' => e = .returned (.bool (!xss.all (rowB b b))) ∧ Below w.heap.size w w' := by
  have hc := Lib.hid (indexN_any b0 c B b A xss w h0 hb0 hx hB hl hm hb)
  clear hx
  go_enter Try.func74, Try.ntmps74
  go_wp2_with fail
  refine hc.out.mono ?_
  rintro e w' ⟨r, rfl, ⟨rfl, hb⟩ | ⟨hr, hb⟩, hw⟩
  all_goals
    have HW := Lib.hid hw
    clear hw
    go_wp2
    go_ret
    exact ⟨ret_bool (by simp [hb]), HW.out⟩


set_option maxHeartbeats 1000000 in
theorem implValidNet_any (A : Option Addr) (c B : Nat) (bits : Int) (xss : List (List Int)) (w : World) (hx : RdII w B A xss) (hB : B ≤ w.heap.size) (hl : xss.length ≤ 1048576) (hm : tot xss ≤ 1048576) :
    Calls Try.prog 58 #[.agg #[.int .i64 bits, .slice A xss.length c]] w fun e w' => e = .returned (.bool (netB bits xss)) ∧ Below w.heap.size w w' := by
  have hb2 : Below w.heap.size w (w.alloc (.cells #[.int .i64 bits, .slice A xss.length c] 49)) := (Below.refl _ _).alloc (Nat.le_refl _) _
  have HB2 := Lib.hid hb2
  clear hb2
  cases i1 : inR bits 0 6
  · have HF := Lib.hid (show netB bits xss = false by simp [netB, i1])
    clear hx
    go_enter Try.func58, Try.ntmps58
    go_wp2_with (first | (go_at_call 73; refine (isNetBits_any _ _).mono ?_; rintro e w' ⟨rfl, rfl⟩) | (go_at_call 45; refine (inRange_any _ _ _ _).mono ?_; rintro e w' ⟨rfl, rfl⟩))
    go_ret
    exact ⟨ret_bool HF.out.symm, HB2.out⟩
  · obtain ⟨b1, b2⟩ := inR_true i1
    obtain ⟨b, rfl⟩ := Int.eq_ofNat_of_zero_le b1
    cases i2 : inR (xss.length : Int) 1 4
    · have HF := Lib.hid (show netB b xss = false by simp [netB, i1, i2])
      clear hx
      go_enter Try.func58, Try.ntmps58
      go_wp2_with (first | (go_at_call 73; refine (isNetBits_any _ _).mono ?_; rintro e w' ⟨rfl, rfl⟩) | (go_at_call 45; refine (inRange_any _ _ _ _).mono ?_; rintro e w' ⟨rfl, rfl⟩) | (go_at_call 54; refine (lenS_any _ _ _ _ (by omega)).mono ?_; rintro e w' ⟨rfl, rfl⟩))
      go_ret
      exact ⟨ret_bool HF.out.symm, HB2.out⟩
    · have HF := Lib.hid (show netB b xss = xss.all (rowB b b) by unfold netB; rw [i1, i2]; simp)
      have HC := Lib.hid (containsN_any w.heap.size c B b A xss (w.alloc (.cells #[.int .i64 (b : Int), .slice A xss.length c] 49)) (by simp) (by simp) (hx.below HB2.out hB) (by simp; omega) hl hm (by omega))
      clear hx
      go_enter Try.func58, Try.ntmps58
      go_wp2_with (first | (go_at_call 73; refine (isNetBits_any _ _).mono ?_; rintro e w' ⟨rfl, rfl⟩) | (go_at_call 45; refine (inRange_any _ _ _ _).mono ?_; rintro e w' ⟨rfl, rfl⟩) | (go_at_call 54; refine (lenS_any _ _ _ _ (by omega)).mono ?_; rintro e w' ⟨rfl, rfl⟩) | (go_at_call 74; refine HC.out.mono ?_; rintro e w1 ⟨rfl, hw1⟩))
      go_ret
      exact ⟨ret_bool (by rw [HF.out]), HB2.out.trans (hw1.mono (by simp))⟩

end Go.Proofs.Ytjkcdnfmmfpbjaa.NetV

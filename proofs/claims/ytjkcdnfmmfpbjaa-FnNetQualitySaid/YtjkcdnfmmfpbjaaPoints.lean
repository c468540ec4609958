/- Whether lists are points with some bits, of the program and of the reference. -/
import Derived.Test.YtjkcdnfmmfpbjaaAllIn
import Derived.Test.YtjkcdnfmmfpbjaaRegSpec
import Derived.Test.YtjkcdnfmmfpbjaaMem
namespace Go.Proofs.Ytjkcdnfmmfpbjaa.Pts
open Go.RowKit Go.Proofs.Ytjkcdnfmmfpbjaa Go.Proofs.Ytjkcdnfmmfpbjaa.Base Go.Proofs.Ytjkcdnfmmfpbjaa.Mem Go.Proofs.Ytjkcdnfmmfpbjaa.AllIn
set_option linter.unusedVariables false

/-- a row of a point list: as long as the first one, all numbers of so many bits -/
def rowB (L b : Nat) (xs : List Int) : Bool := (xs.length == L) && allInB xs 0 ((2 : Int) ^ b - 1)
def ptsB (xss : List (List Int)) (bits : Int) : Bool :=
  inR bits 0 6 && (inR (xss.length : Int) 1 64 && (inR ((xss.getD 0 []).length : Int) 1 4 && xss.all (rowB (xss.getD 0 []).length bits.toNat)))
theorem all_of {α : Type} {xs : List α} {f : α → Bool} (d : α) (h : ∀ i, i < xs.length → f (xs.getD i d) = true) : xs.all f = true := by
  refine List.all_eq_true.2 fun x hx => ?_
  obtain ⟨i, hi', rfl⟩ := List.getElem_of_mem hx
  have := h i hi'
  simpa [List.getD, hi'] using this
theorem all_no {α : Type} {xs : List α} {f : α → Bool} (d : α) {i : Nat} (h : i < xs.length) (hx : f (xs.getD i d) = false) : xs.all f = false := by
  cases h' : xs.all f
  · rfl
  · have := List.all_eq_true.1 h' (xs.getD i d) (by simp [List.getD, h])
    rw [hx] at this; exact this.symm
theorem all_at {α : Type} {xs : List α} {f : α → Bool} (d : α) {i : Nat} (h : i < xs.length) (ha : xs.all f = true) : f (xs.getD i d) = true :=
  List.all_eq_true.1 ha (xs.getD i d) (by simp [List.getD, h])
theorem ptsB_true {xss : List (List Int)} {bits : Int} (h : ptsB xss bits = true) : 0 ≤ bits ∧ bits ≤ 6 ∧ 1 ≤ xss.length ∧ xss.length ≤ 64 ∧ 1 ≤ (xss.getD 0 []).length ∧ (xss.getD 0 []).length ≤ 4 ∧ xss.all (rowB (xss.getD 0 []).length bits.toNat) = true := by
  simp only [ptsB, Bool.and_eq_true] at h
  have h1 := inR_true h.1
  have h2 := inR_true h.2.1
  have h3 := inR_true h.2.2.1
  exact ⟨h1.1, h1.2, by omega, by omega, by omega, by omega, h.2.2.2⟩
theorem pw_bd6 {b : Nat} (h : b ≤ 6) : 1 ≤ (2 : Int) ^ b ∧ (2 : Int) ^ b ≤ 64 := by
  have h1 : 2 ^ b ≤ 2 ^ 6 := Nat.pow_le_pow_right (by decide) h
  have h2 : 0 < 2 ^ b := Nat.two_pow_pos b
  have e : ((2 ^ b : Nat) : Int) = (2 : Int) ^ b := by simp
  rw [← e]; omega

theorem l10Bits_any (n : Int) (w : World) : Calls Try.prog 70 #[.int .i64 n] w fun e w' => e = .returned (.bool (inR n 0 6)) ∧ w = w' := by
  go_enter Try.func70, Try.ntmps70
  go_wp2_with (go_at_call 44; refine (l00In_any _ _ _ _).mono ?_; rintro e w' ⟨rfl, rfl⟩)
  go_ret
  exact ⟨rfl, rfl⟩
theorem isNetBits_any (n : Int) (w : World) : Calls Try.prog 73 #[.int .i64 n] w fun e w' => e = .returned (.bool (inR n 0 6)) ∧ w = w' := by
  go_enter Try.func73, Try.ntmps73
  go_wp2_with (go_at_call 45; refine (inRange_any _ _ _ _).mono ?_; rintro e w' ⟨rfl, rfl⟩)
  go_ret
  exact ⟨rfl, rfl⟩

/-- the reference's answer, where the heads are in order -/
def ListRet (r : Bool) (w : World) (e : Ending) (w' : World) : Prop := e = .returned (.bool r) ∧ Drawn w w'
set_option maxHeartbeats 2000000 in
theorem l10List_body (A : Option Addr) (c B b : Nat) (xss : List (List Int)) (w : World) (hx : RdII w B A xss) (hb : b ≤ 6) (h1 : 1 ≤ xss.length) (h2 : xss.length ≤ 64) (h3 : 1 ≤ (xss.getD 0 []).length) (h4 : (xss.getD 0 []).length ≤ 4) (hm : tot xss ≤ 1048576) :
    Calls Try.prog 50 #[.slice A xss.length c, .int .i64 b] w (ListRet (xss.all (rowB (xss.getD 0 []).length b)) w) := by
  have i1 := inR_yes (n := (b : Int)) (lo := 0) (hi := 6) (by omega)
  have i2 := inR_yes (n := (xss.length : Int)) (lo := 1) (hi := 64) (by omega)
  have i3 := inR_yes (n := ((xss.getD 0 []).length : Int)) (lo := 1) (hi := 4) (by omega)
  obtain ⟨p1, p2⟩ := pw_bd6 hb
  obtain ⟨bb, off, rfl, hbB, hc⟩ := hx (by omega)
  obtain ⟨A0, c0, g0, r0⟩ := hc 0 (by omega)
  rw [Nat.add_zero] at g0
  have HC := Lib.hid hc
  clear hc hx
  have HLen := Lib.hid (fun j => len_le_tot xss j)
  have h1' : 0 < xss.length := by omega
  generalize (xss.getD 0 []).length = L at *
  go_enter Try.func50, Try.ntmps50
  go_wp2_with (first | (go_at_call 70; refine (l10Bits_any _ _).mono ?_; rintro e w' ⟨rfl, rfl⟩) | (go_at_call 44; refine (l00In_any _ _ _ _).mono ?_; rintro e w' ⟨rfl, rfl⟩))
  go_loopw [5, 6] (fun i _ wr => ∃ k : Nat, k ≤ xss.length ∧ i = .int .i64 (k : Int) ∧ Drawn w wr ∧ Hid (∀ j, j < k → rowB L b (xss.getD j []) = true)) (fun i _ _ => xss.length - (intOf i).toNat)
  case atStart => exact ⟨0, Nat.zero_le _, rfl, Drawn.refl _, Lib.hid fun j hj => absurd hj (Nat.not_lt_zero j)⟩
  case round =>
    obtain ⟨k, hk, rfl, hD, hall⟩ := hrel
    have HD := Lib.hid hD
    have g0' := ((hD.below (B := B)).cell (p := ⟨bb, off, none⟩) hbB).trans g0
    clear hD g0
    by_cases hlt : k < xss.length
    · obtain ⟨A1, c1, g1, r1⟩ := HC.out k hlt
      have g1' := ((HD.out.below (B := B)).cell (p := ⟨bb, off + k, none⟩) hbB).trans g1
      have r1' := r1.below (HD.out.below (B := B)) (Nat.le_refl _)
      have hlen := HLen.out k hlt
      clear g1 r1
      by_cases hl : (xss.getD k []).length = L
      · have HN : Hid (allInB (xss.getD k []) 0 ((2 : Int) ^ b - 1) = true → ∀ j, j < k + 1 → rowB L b (xss.getD j []) = true) := Lib.hid fun ha j hj => by
          rcases Nat.lt_or_ge j k with h | h
          · exact hall.out j h
          · rw [show j = k by omega]
            unfold rowB
            rw [hl, ha]; simp
        have HF : Hid (allInB (xss.getD k []) 0 ((2 : Int) ^ b - 1) = false → xss.all (rowB L b) = false) := Lib.hid fun ha => all_no [] hlt (by unfold rowB; rw [hl, ha]; simp)
        clear hall
        generalize hys : xss.getD k [] = ys at *
        clear hys
        obtain rfl := hl
        go_wp2
        go_quiet (fail)
        go_wp2
        go_loop [6] (fun d => ∃ e : Nat, e ≤ ys.length ∧ d = .int .i64 (e : Int) ∧ Hid (∀ i, i < e → inR (ys.getD i 0) 0 ((2 : Int) ^ b - 1) = true)) (fun d => ys.length - (intOf d).toNat)
        case atStart => exact ⟨0, Nat.zero_le _, rfl, Lib.hid fun i hi => absurd hi (Nat.not_lt_zero i)⟩
        case round =>
          obtain ⟨e, he, rfl, hin⟩ := hrel
          by_cases het : e < ys.length
          · obtain ⟨b3, off3, rfl, _, hc3⟩ := r1' (by omega)
            have g3 := hc3 e het
            clear hc3 r1'
            cases hst : Reg.stB b (ys.getD e 0)
            · have HF2 := Lib.hid (HF.out (allInB_no het hst))
              clear HF HN hin
              generalize ys.getD e 0 = x at *
              go_wp2_with (go_at_call 71; refine (Reg.l02State_any b _ (by omega) _).mono ?_; rintro e w' ⟨rfl, rfl⟩)
              go_ret
              exact ⟨ret_bool HF2.out.symm, HD.out.next _⟩
            · have hin2 : Hid (∀ i, i < e + 1 → inR (ys.getD i 0) 0 ((2 : Int) ^ b - 1) = true) := Lib.hid fun i hi => by
                rcases Nat.lt_or_ge i e with h | h
                · exact hin.out i h
                · rw [show i = e by omega]; exact hst
              clear hin
              generalize ys.getD e 0 = x at *
              go_wp2_with (go_at_call 71; refine (Reg.l02State_any b _ (by omega) _).mono ?_; rintro e w' ⟨rfl, rfl⟩)
              go_round
              case rel => exact ⟨e + 1, by omega, by go_num, hin2⟩
              case measure => simp [intOf]; omega
          · obtain rfl : e = ys.length := by omega
            have HN2 := Lib.hid (HN.out (allInB_of hin.out))
            clear HN HF hin r1'
            go_wp2
            go_roundw
            case rel => exact ⟨k + 1, by omega, by go_num, HD.out.next _, HN2⟩
            case measure => simp [intOf]; omega
      · have HF := Lib.hid (all_no (f := rowB L b) [] hlt (by unfold rowB; rw [beq_eq_false_iff_ne.2 hl]; rfl))
        have hl' : ¬ ((xss.getD k []).length : Int) = (L : Int) := by omega
        generalize (xss.getD k []).length = n at *
        go_wp2
        go_quiet (fail)
        go_wp2
        go_ret
        exact ⟨ret_bool HF.out.symm, HD.out.next _⟩
    · obtain rfl : k = xss.length := by omega
      have HF := Lib.hid (all_of (f := rowB L b) [] hall.out)
      go_wp2
      go_ret
      exact ⟨ret_bool HF.out.symm, HD.out⟩

set_option maxHeartbeats 1000000 in
theorem l10List_any (A : Option Addr) (c B : Nat) (bits : Int) (xss : List (List Int)) (w : World) (hx : RdII w B A xss) (hl : xss.length ≤ 1048576) (hm : tot xss ≤ 1048576) :
    Calls Try.prog 50 #[.slice A xss.length c, .int .i64 bits] w (ListRet (ptsB xss bits) w) := by
  cases i1 : inR bits 0 6
  · have HF := Lib.hid (show ptsB xss bits = false by simp [ptsB, i1])
    clear hx
    go_enter Try.func50, Try.ntmps50
    go_wp2_with (first | (go_at_call 70; refine (l10Bits_any _ _).mono ?_; rintro e w' ⟨rfl, rfl⟩) | (go_at_call 44; refine (l00In_any _ _ _ _).mono ?_; rintro e w' ⟨rfl, rfl⟩))
    go_ret
    exact ⟨ret_bool HF.out.symm, Drawn.refl _⟩
  · obtain ⟨b1, b2⟩ := inR_true i1
    obtain ⟨b, rfl⟩ := Int.eq_ofNat_of_zero_le b1
    cases i2 : inR (xss.length : Int) 1 64
    · have HF := Lib.hid (show ptsB xss b = false by simp [ptsB, i1, i2])
      clear hx
      go_enter Try.func50, Try.ntmps50
      go_wp2_with (first | (go_at_call 70; refine (l10Bits_any _ _).mono ?_; rintro e w' ⟨rfl, rfl⟩) | (go_at_call 44; refine (l00In_any _ _ _ _).mono ?_; rintro e w' ⟨rfl, rfl⟩))
      go_ret
      exact ⟨ret_bool HF.out.symm, Drawn.refl _⟩
    · obtain ⟨l1, l2⟩ := inR_true i2
      cases i3 : inR ((xss.getD 0 []).length : Int) 1 4
      · have HF := Lib.hid (show ptsB xss b = false by unfold ptsB; rw [i1, i2, i3]; rfl)
        obtain ⟨bb, off, rfl, hbB, hc⟩ := hx (by omega)
        obtain ⟨A0, c0, g0, r0⟩ := hc 0 (by omega)
        rw [Nat.add_zero] at g0
        have h1' : 0 < xss.length := by omega
        have hL := len_le_tot xss 0 h1'
        clear hc r0
        generalize (xss.getD 0 []).length = L at *
        go_enter Try.func50, Try.ntmps50
        go_wp2_with (first | (go_at_call 70; refine (l10Bits_any _ _).mono ?_; rintro e w' ⟨rfl, rfl⟩) | (go_at_call 44; refine (l00In_any _ _ _ _).mono ?_; rintro e w' ⟨rfl, rfl⟩))
        go_ret
        exact ⟨ret_bool HF.out.symm, Drawn.refl _⟩
      · obtain ⟨m1, m2⟩ := inR_true i3
        have h := l10List_body A c B b xss w hx (by omega) (by omega) (by omega) (by omega) (by omega) hm
        have e : ptsB xss b = xss.all (rowB (xss.getD 0 []).length b) := by unfold ptsB; rw [i1, i2, i3]; simp
        rw [e]; exact h

/-! ### The program's answer -/
theorem closureP_any (b0 b1 L n c c0 pb poff pn pc B b : Nat) (A A0 : Option Addr) (xs : List Int) (w : World) (h0 : w.cell? ⟨b0, 0, none⟩ = some (.slice (some ⟨pb, poff, none⟩) pn pc)) (h1 : w.cell? ⟨b1, 0, none⟩ = some (.int .i64 (b : Int)))
    (hpn : 0 < pn) (hp : w.cell? ⟨pb, poff, none⟩ = some (.slice A0 L c0)) (hx : RdI w B A xs) (hB : B ≤ w.heap.size) (hn : xs.length = n) (hm : n ≤ 1048576) (hL : L ≤ 4) (hb : b ≤ 6) :
    Calls Try.prog 75 #[.slice A n c, .pointer (some ⟨b0, 0, none⟩), .pointer (some ⟨b1, 0, none⟩)] w fun e w' => e = .returned (.bool (!rowB L b xs)) ∧ Below w.heap.size w w' := by
  obtain ⟨p1, p2⟩ := pw_bd6 hb
  by_cases hl : n = L
  · have hl' : ((n : Int) != (L : Int)) = false := by rw [hl]; simp
    have HF := Lib.hid (show rowB L b xs = allInB xs 0 ((2 : Int) ^ b - 1) by simp [rowB, hn, hl])
    subst hn
    have HC := Lib.hid (allIn_any A c B xs 0 ((2 : Int) ^ b - 1) w hx hB (by omega))
    clear hx
    have hcl : ((xs.length : Int) == (L : Int)) = true := by simp [hl]
    have Hl := Lib.hid hl
    clear hl
    go_enter Try.func75, Try.ntmps75
    go_wp2_with fail
    refine HC.out.mono ?_
    rintro e w1 ⟨rfl, hb1⟩
    go_wp2
    go_ret
    exact ⟨ret_bool (by rw [HF.out]), hb1⟩
  · have HF := Lib.hid (show rowB L b xs = false by unfold rowB; rw [beq_eq_false_iff_ne.2 (by omega : xs.length ≠ L)]; rfl)
    have hl' : ((n : Int) != (L : Int)) = true := by simp; omega
    clear hx
    go_enter Try.func75, Try.ntmps75
    go_wp2
    go_ret
    exact ⟨ret_bool (by rw [HF.out]; rfl), Below.refl _ _⟩

def IdxRet2 (b : Bool) (w : World) (e : Ending) (w' : World) : Prop := ∃ r : Int, e = .returned (.int .i64 r) ∧ ((r = -1 ∧ b = true) ∨ (0 ≤ r ∧ b = false)) ∧ Below w.heap.size w w'
set_option maxHeartbeats 1000000 in
theorem indexP_any (b0 b1 L c0 pb poff pc B b : Nat) (A0 : Option Addr) (xss : List (List Int)) (w : World) (h0 : w.cell? ⟨b0, 0, none⟩ = some (.slice (some ⟨pb, poff, none⟩) xss.length pc)) (h1 : w.cell? ⟨b1, 0, none⟩ = some (.int .i64 (b : Int)))
    (hb0 : b0 < w.heap.size) (hb1 : b1 < w.heap.size) (hpb : pb < w.heap.size) (hpn : 0 < xss.length) (hp : w.cell? ⟨pb, poff, none⟩ = some (.slice A0 L c0)) (hx : RdII w B (some ⟨pb, poff, none⟩) xss) (hB : B ≤ w.heap.size) (hl : xss.length ≤ 1048576) (hm : tot xss ≤ 1048576) (hL : L ≤ 4) (hb : b ≤ 6) :
    Calls Try.prog 90 #[.slice (some ⟨pb, poff, none⟩) xss.length pc, .func (Fn.func 75) #[] #[.pointer (some ⟨b0, 0, none⟩), .pointer (some ⟨b1, 0, none⟩)]] w (IdxRet2 (xss.all (rowB L b)) w) := by
  have HX := Lib.hid hx
  have HLen := Lib.hid (fun j => len_le_tot xss j)
  clear hx
  go_enter Try.func90, Try.ntmps90
  go_wp2
  go_loopw [5, 8] (fun _ i wr => ∃ k : Nat, k ≤ xss.length ∧ i = .int .i64 (k : Int) ∧ Below w.heap.size w wr ∧ Hid (∀ j, j < k → rowB L b (xss.getD j []) = true)) (fun _ i _ => xss.length - (intOf i).toNat)
  case atStart => exact ⟨0, Nat.zero_le _, rfl, Below.refl _ _, Lib.hid fun j hj => absurd hj (Nat.not_lt_zero j)⟩
  case round =>
    obtain ⟨k, hk, rfl, hbel, hall⟩ := hrel
    by_cases hlt : k < xss.length
    · have e0 := (hbel.cell (p := ⟨b0, 0, none⟩) hb0).trans h0
      have e1 := (hbel.cell (p := ⟨b1, 0, none⟩) hb1).trans h1
      have e2 := (hbel.cell (p := ⟨pb, poff, none⟩) hpb).trans hp
      obtain ⟨b', off', heq, _, hc⟩ := (HX.out.below hbel hB) (by omega)
      injection heq with heq
      injection heq with q1 q2 _
      subst q1 q2
      obtain ⟨A1, c1, g1, r1⟩ := hc k hlt
      have hlen := HLen.out k hlt
      have hsz := hbel.size
      have HCl := Lib.hid (closureP_any b0 b1 L (xss.getD k []).length c1 c0 pb poff xss.length pc B b A1 A0 (xss.getD k []) wr e0 e1 hpn e2 r1 (by omega) rfl (by omega) hL hb)
      have HBel := Lib.hid hbel
      clear hc r1 e0 e1 e2 hbel
      cases hr : rowB L b (xss.getD k [])
      · have hf := Lib.hid (all_no (f := rowB L b) [] hlt hr)
        rw [hr] at HCl
        have HR := Lib.hid hr
        clear hr
        generalize xss.getD k [] = ys at *
        go_wp2_with fail
        refine HCl.out.mono ?_
        rintro e w1 ⟨rfl, hw1⟩
        have HW1 := Lib.hid hw1
        clear hw1
        go_wp2
        go_ret
        exact ⟨(k : Int), rfl, .inr ⟨by omega, hf.out⟩, Base.Below.nextA HBel.out HW1.out⟩
      · have hn : Hid (∀ j, j < k + 1 → rowB L b (xss.getD j []) = true) := Lib.hid fun j hj => by
          rcases Nat.lt_or_ge j k with h | h
          · exact hall.out j h
          · rw [show j = k by omega]; exact hr
        rw [hr] at HCl
        have HR := Lib.hid hr
        clear hr hall
        generalize xss.getD k [] = ys at *
        go_wp2_with fail
        refine HCl.out.mono ?_
        rintro e w1 ⟨rfl, hw1⟩
        have HW1 := Lib.hid (Base.Below.nextA HBel.out hw1)
        clear hw1
        go_wp2
        go_roundw
        case rel => exact ⟨k + 1, by omega, by go_num, HW1.out, hn⟩
        case measure => simp [intOf]; omega
    · obtain rfl : k = xss.length := by omega
      have HBel := Lib.hid hbel
      clear hbel
      go_wp2
      go_ret
      exact ⟨-1, rfl, .inl ⟨rfl, all_of [] hall.out⟩, HBel.out⟩
theorem containsP_any (b0 b1 L c0 pb poff pc B b : Nat) (A0 : Option Addr) (xss : List (List Int)) (w : World) (h0 : w.cell? ⟨b0, 0, none⟩ = some (.slice (some ⟨pb, poff, none⟩) xss.length pc)) (h1 : w.cell? ⟨b1, 0, none⟩ = some (.int .i64 (b : Int)))
    (hb0 : b0 < w.heap.size) (hb1 : b1 < w.heap.size) (hpb : pb < w.heap.size) (hpn : 0 < xss.length) (hp : w.cell? ⟨pb, poff, none⟩ = some (.slice A0 L c0)) (hx : RdII w B (some ⟨pb, poff, none⟩) xss) (hB : B ≤ w.heap.size) (hl : xss.length ≤ 1048576) (hm : tot xss ≤ 1048576) (hL : L ≤ 4) (hb : b ≤ 6) :
    Calls Try.prog 74 #[.slice (some ⟨pb, poff, none⟩) xss.length pc, .func (Fn.func 75) #[] #[.pointer (some ⟨b0, 0, none⟩), .pointer (some ⟨b1, 0, none⟩)]] w fun e w' => e = .returned (.bool (!xss.all (rowB L b))) ∧ Below w.heap.size w w' := by
  have hc := Lib.hid (indexP_any b0 b1 L c0 pb poff pc B b A0 xss w h0 h1 hb0 hb1 hpb hpn hp hx hB hl hm hL hb)
  clear hx
  go_enter Try.func74, Try.ntmps74
  go_wp2_with fail
  refine hc.out.mono ?_
  rintro e w' ⟨r, rfl, ⟨rfl, hb⟩ | ⟨hr, hb⟩, hw⟩
  all_goals
    have HW := Lib.hid hw
    clear hw
    go_wp2
    go_ret
    exact ⟨ret_bool (by simp [hb]), HW.out⟩

set_option maxHeartbeats 1000000 in
theorem implIsPoints_any (A : Option Addr) (c B : Nat) (bits : Int) (xss : List (List Int)) (w : World) (hx : RdII w B A xss) (hB : B ≤ w.heap.size) (hl : xss.length ≤ 1048576) (hm : tot xss ≤ 1048576) :
    Calls Try.prog 53 #[.slice A xss.length c, .int .i64 bits] w fun e w' => e = .returned (.bool (ptsB xss bits)) ∧ Below w.heap.size w w' := by
  have hb2 : Below w.heap.size w ((w.alloc (.cells #[.slice A xss.length c] 42)).alloc (.cells #[.int .i64 bits] 2)) := ((Below.refl _ _).alloc (Nat.le_refl _) _).alloc (by simp) _
  have HB2 := Lib.hid hb2
  clear hb2
  cases i1 : inR bits 0 6
  · have HF := Lib.hid (show ptsB xss bits = false by simp [ptsB, i1])
    clear hx
    go_enter Try.func53, Try.ntmps53
    go_wp2_with (first | (go_at_call 73; refine (isNetBits_any _ _).mono ?_; rintro e w' ⟨rfl, rfl⟩) | (go_at_call 45; refine (inRange_any _ _ _ _).mono ?_; rintro e w' ⟨rfl, rfl⟩))
    go_ret
    exact ⟨ret_bool HF.out.symm, HB2.out⟩
  · obtain ⟨b1, b2⟩ := inR_true i1
    obtain ⟨b, rfl⟩ := Int.eq_ofNat_of_zero_le b1
    cases i2 : inR (xss.length : Int) 1 64
    · have HF := Lib.hid (show ptsB xss b = false by simp [ptsB, i1, i2])
      clear hx
      go_enter Try.func53, Try.ntmps53
      go_wp2_with (first | (go_at_call 73; refine (isNetBits_any _ _).mono ?_; rintro e w' ⟨rfl, rfl⟩) | (go_at_call 45; refine (inRange_any _ _ _ _).mono ?_; rintro e w' ⟨rfl, rfl⟩) | (go_at_call 54; refine (lenS_any _ _ _ _ (by omega)).mono ?_; rintro e w' ⟨rfl, rfl⟩))
      go_ret
      exact ⟨ret_bool HF.out.symm, HB2.out⟩
    · obtain ⟨l1, l2⟩ := inR_true i2
      have h1' : 0 < xss.length := by omega
      have hL := len_le_tot xss 0 h1'
      obtain ⟨bb, off, rfl, hbB, hc⟩ := hx h1'
      obtain ⟨A0, c0, g0, r0⟩ := hc 0 h1'
      rw [Nat.add_zero] at g0
      have hx' : RdII w B (some ⟨bb, off, none⟩) xss := fun _ => ⟨bb, off, rfl, hbB, hc⟩
      have HX := Lib.hid hx'
      have hbw : bb < w.heap.size := by omega
      clear hx hx' hc r0
      cases i3 : inR ((xss.getD 0 []).length : Int) 1 4
      · have HF := Lib.hid (show ptsB xss b = false by unfold ptsB; rw [i1, i2, i3]; rfl)
        generalize (xss.getD 0 []).length = L at *
        go_enter Try.func53, Try.ntmps53
        go_wp2_with (first | (go_at_call 73; refine (isNetBits_any _ _).mono ?_; rintro e w' ⟨rfl, rfl⟩) | (go_at_call 45; refine (inRange_any _ _ _ _).mono ?_; rintro e w' ⟨rfl, rfl⟩) | (go_at_call 54; refine (lenS_any _ _ _ _ (by omega)).mono ?_; rintro e w' ⟨rfl, rfl⟩) | (go_at_call 46; refine (lenI_any _ _ _ _ (by omega)).mono ?_; rintro e w' ⟨rfl, rfl⟩))
        go_ret
        exact ⟨ret_bool HF.out.symm, HB2.out⟩
      · obtain ⟨m1, m2⟩ := inR_true i3
        have HF := Lib.hid (show ptsB xss b = xss.all (rowB (xss.getD 0 []).length b) by unfold ptsB; rw [i1, i2, i3]; simp)
        generalize (xss.getD 0 []).length = L at *
        have HC := Lib.hid (containsP_any w.heap.size (w.heap.size + 1) L c0 bb off c B b A0 xss ((w.alloc (.cells #[.slice (some ⟨bb, off, none⟩) xss.length c] 42)).alloc (.cells #[.int .i64 (b : Int)] 2)) (by simp) (by simp) (by simp; omega) (by simp) (by simp; omega) h1' (by rw [HB2.out.cell (p := ⟨bb, off, none⟩) hbw]; exact g0) (HX.out.below HB2.out hB) (by simp; omega) hl hm (by omega) (by omega))
        go_enter Try.func53, Try.ntmps53
        go_wp2_with (first | (go_at_call 73; refine (isNetBits_any _ _).mono ?_; rintro e w' ⟨rfl, rfl⟩) | (go_at_call 45; refine (inRange_any _ _ _ _).mono ?_; rintro e w' ⟨rfl, rfl⟩) | (go_at_call 54; refine (lenS_any _ _ _ _ (by omega)).mono ?_; rintro e w' ⟨rfl, rfl⟩) | (go_at_call 46; refine (lenI_any _ _ _ _ (by omega)).mono ?_; rintro e w' ⟨rfl, rfl⟩) | (go_at_call 74; refine HC.out.mono ?_; rintro e w1 ⟨rfl, hw1⟩))
        go_ret
        exact ⟨ret_bool (by rw [HF.out]), HB2.out.trans (hw1.mono (by simp; omega))⟩
end Go.Proofs.Ytjkcdnfmmfpbjaa.Pts

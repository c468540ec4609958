/- A number read from its decimal text: the reference. -/
import Derived.Test.YtogadldnkhdjbaaDoorVal
import Derived.Test.YtogadldnkhdjbaaDoorRec
namespace Go.Proofs.YtogadldnkhdjbaaDoor.Val
open Go.RowKit Go.Proofs.YtogadldnkhdjbaaDoor Go.Proofs.YtogadldnkhdjbaaDoor.Base Go.Proofs.YtogadldnkhdjbaaDoor.Mem Go.Proofs.YtogadldnkhdjbaaDoor.Dec
set_option linter.unusedVariables false
def GrRet (e : List UInt8) (w : World) (en : Ending) (w' : World) : Prop := ∃ (v : Int) (b : Bool), en = .returned (.tuple #[.int .i64 v, .bool b]) ∧ (b = true → Lib.itoa v = e ∧ -1000000000000000000 ≤ v ∧ v ≤ 1000000000000000000) ∧ (b = false → ∀ v', ¬ isVal e v') ∧ Below w.heap.size w w'
/-- what stands behind the sign -/
def Rest (e l : List UInt8) (sgn : Bool) : Prop := ∀ v', isVal e v' → ∃ u : Nat, l = Lib.decDigits u ∧ u ≤ 1000000000000000 ∧ v' = (if sgn = true then -(u : Int) else (u : Int))
theorem itoa_pos (u : Nat) : Lib.itoa ((u : Nat) : Int) = Lib.decDigits u := Lib.itoa_nonneg u
theorem dec_head (u : Nat) : ∃ c r, Lib.decDigits u = c :: r ∧ 48 ≤ c.toNat ∧ c.toNat ≤ 57 := by
  have h1 := dec_ne u
  have h2 := (digs_dec u).1
  generalize Lib.decDigits u = l at *
  cases l with
  | nil => simp at h1
  | cons c r => exact ⟨c, r, rfl, h2 c List.mem_cons_self⟩
theorem rest_plus {e : List UInt8} (h : ∀ c r, e = c :: r → c.toNat ≠ 45) : Rest e e false := fun v' ⟨h1, h2, h3⟩ => by
  by_cases hn : v' < 0
  · obtain ⟨u, rfl⟩ : ∃ u : Nat, v' = -(u : Int) := ⟨(-v').toNat, by omega⟩
    rw [Lib.itoa_neg u (by omega)] at h1
    exact absurd rfl (h _ _ h1.symm)
  · obtain ⟨u, rfl⟩ := Int.eq_ofNat_of_zero_le (show 0 ≤ v' by omega)
    refine ⟨u, by rw [← itoa_pos]; exact h1.symm, by omega, rfl⟩
theorem rest_minus {e l : List UInt8} (h : e = 45 :: l) : Rest e l true := fun v' ⟨h1, h2, h3⟩ => by
  by_cases hn : v' < 0
  · obtain ⟨u, rfl⟩ : ∃ u : Nat, v' = -(u : Int) := ⟨(-v').toNat, by omega⟩
    rw [Lib.itoa_neg u (by omega), h] at h1
    injection h1 with _ h1
    exact ⟨u, h1.symm, by omega, rfl⟩
  · obtain ⟨u, rfl⟩ := Int.eq_ofNat_of_zero_le (show 0 ≤ v' by omega)
    rw [itoa_pos] at h1
    obtain ⟨c, r, e1, e2, e3⟩ := dec_head u
    rw [e1, h] at h1
    injection h1 with h1 _
    rw [h1] at e2
    exact absurd e2 (by decide)
theorem rest_len {e l : List UInt8} {sgn : Bool} (h : Rest e l sgn) (hl : l.length < 1 ∨ 19 < l.length) : ∀ v', ¬ isVal e v' := fun v' hv => by
  obtain ⟨u, rfl, hu, _⟩ := h v' hv
  have := dec_ne u
  have := dec_short (u := u) (by omega)
  omega
theorem rest_bad {e l : List UInt8} {sgn : Bool} (h : Rest e l sgn) {k : Nat} (hk : k < l.length) (hx : (l[k]'hk).toNat < 48 ∨ 57 < (l[k]'hk).toNat) : ∀ v', ¬ isVal e v' := fun v' hv => by
  obtain ⟨u, rfl, hu, _⟩ := h v' hv
  have := (digs_dec u).1 _ (List.getElem_mem hk)
  omega
theorem rest_big {e l : List UInt8} {sgn : Bool} (h : Rest e l sgn) {k : Nat} (hk : 100000000000000000 < foldD 0 (l.take k)) : ∀ v', ¬ isVal e v' := fun v' hv => by
  obtain ⟨u, rfl, hu, _⟩ := h v' hv
  have := foldD_take (Lib.decDigits u) k
  rw [(digs_dec u).2] at this
  omega
theorem rest_end {e l : List UInt8} {sgn : Bool} (h : Rest e l sgn) {v' : Int} (hv : isVal e v') : v' = (if sgn = true then -((foldD 0 l : Nat) : Int) else ((foldD 0 l : Nat) : Int)) := by
  obtain ⟨u, rfl, hu, e⟩ := h v' hv
  rw [(digs_dec u).2]; exact e
set_option maxHeartbeats 2000000 in
set_option maxRecDepth 100000 in
theorem great_any (s : ByteArray) (hs : s.size ≤ 1048576) (w : World) : Calls Tryd.prog 79 #[.string s] w (GrRet s.data.toList w) := by
  have hsz : s.data.toList.length = s.size := by rw [Array.length_toList]; rfl
  obtain ⟨e, he⟩ : ∃ e, s.data.toList = e := ⟨_, rfl⟩
  rw [he] at hsz ⊢
  by_cases hneg : ∃ h : 0 < s.size, (s[0]'h).toNat = 45
  · obtain ⟨hp, hx⟩ := hneg
    obtain ⟨l, hl⟩ : ∃ l, e = 45 :: l := by
      have e2 : s.data.toList[0]? = some (s[0]'hp) := by
        show s.data.toList[0]? = some (s.data[0])
        rw [Array.getElem?_toList, Array.getElem?_eq_getElem hp]
      rw [he] at e2
      cases e with
      | nil => simp at e2
      | cons c r =>
        refine ⟨r, ?_⟩
        have e3 : c = s[0]'hp := by simpa using e2
        have e4 : c = 45 := by rw [e3]; exact UInt8.toNat_inj.1 hx
        rw [e4]
    have HRest : Hid (Rest e l true) := Lib.hid (rest_minus hl)
    obtain ⟨R, hR⟩ : ∃ R, R = s.extract 1 s.size := ⟨_, rfl⟩
    have hRl : R.data.toList = l := by
      rw [hR, RecJ.ext_tx, list_tx, List.take_of_length_le (by rw [he, hsz]; exact Nat.le_refl _), he, hl]; rfl
    have hRs : l.length = R.size := by rw [← hRl, Array.length_toList]; rfl
    have hls : l.length + 1 = s.size := by rw [← hsz, hl]; rfl
    have HX : Hid (∀ k (h : k < R.size) (h2 : k < l.length), (R[k]'h).toNat = (l[k]'h2).toNat) := Lib.hid fun k h h2 => by subst hRl; rfl
    have HSz := Lib.hid hRs
    have hRlt : R.size < s.size := by omega
    have HRR := Lib.hid hR
    have hxi : ((45 : Int) == 45) = true := by decide
    by_cases hlen : R.size < 1 ∨ 19 < R.size
    · have HN := Lib.hid (rest_len HRest.out (by rw [hRs]; exact hlen))
      have hss : s.size - 1 < 1 ∨ 19 < s.size - 1 := by omega
      clear HX hsz hl hRl hRs hls hR
      go_enter Tryd.func79, Tryd.ntmps79
      rcases hss with hss | hss
      all_goals
        go_wp2
        go_ret2
        exact ⟨0, false, rfl, fun h => (by cases h), fun _ => HN.out, Below.refl _ _⟩
    · have hss : 1 ≤ s.size - 1 ∧ s.size - 1 ≤ 19 := by omega
      clear hsz hl hRl hRs hls hR
      go_enter Tryd.func79, Tryd.ntmps79
      go_wp2
      rw [← HRR.out]
      go_loop [5, 6] (fun v i => ∃ k : Nat, k ≤ R.size ∧ i = .int .i64 (k : Int) ∧ v = .int .i64 (foldD 0 (l.take k) : Nat) ∧ foldD 0 (l.take k) ≤ 1000000000000000009) (fun _ i => R.size - (intOf i).toNat)
      case atStart => exact ⟨0, Nat.zero_le _, rfl, rfl, by simp [foldD]⟩
      case round =>
        obtain ⟨k, hk, rfl, rfl, hfb⟩ := hrel
        by_cases hlt : k < R.size
        · obtain ⟨x, hx⟩ : ∃ x, (R[k]'hlt).toNat = x := ⟨_, rfl⟩
          have hke : k < l.length := by rw [HSz.out]; exact hlt
          have HXe : Hid ((l[k]'hke).toNat = x) := Lib.hid ((HX.out k hlt hke).symm.trans hx)
          have HSt := Lib.hid (foldD_step hke)
          rw [HXe.out] at HSt
          have HBad : Hid ((x < 48 ∨ 57 < x) → ∀ v', ¬ isVal e v') := Lib.hid fun h => rest_bad HRest.out hke (by rw [HXe.out]; exact h)
          have HBig := Lib.hid (fun h => rest_big HRest.out (k := k) h)
          obtain ⟨n, hn⟩ : ∃ n, foldD 0 (l.take k) = n := ⟨_, rfl⟩
          rw [hn] at hfb HSt HBig ⊢
          obtain ⟨n2, hn2⟩ : ∃ n2, n2 = foldD 0 (l.take (k + 1)) := ⟨_, rfl⟩
          rw [← hn2] at HSt
          have HN2 := Lib.hid hn2
          have hx256 : x < 256 := by rw [← hx]; exact (R[k]'hlt).toNat_lt
          clear hn hn2 hke HXe
          by_cases hx1 : x < 48
          · have HN := Lib.hid (HBad.out (.inl hx1))
            go_wp2
            go_ret2
            exact ⟨0, false, rfl, fun h => (by cases h), fun _ => HN.out, Below.refl _ _⟩
          · by_cases hx2 : 57 < x
            · have HN := Lib.hid (HBad.out (.inr hx2))
              go_wp2
              go_ret2
              exact ⟨0, false, rfl, fun h => (by cases h), fun _ => HN.out, Below.refl _ _⟩
            · by_cases hb : 100000000000000000 < n
              · have HN := Lib.hid (HBig.out hb)
                go_wp2
                go_ret2
                exact ⟨0, false, rfl, fun h => (by cases h), fun _ => HN.out, Below.refl _ _⟩
              · obtain ⟨d, hd⟩ : ∃ d, x = 48 + d := ⟨x - 48, by omega⟩
                subst hd
                have hd9 : d ≤ 9 := by omega
                have HS2 : Hid (n2 = n * 10 + d) := Lib.hid (by rw [HSt.out]; omega)
                clear HSt HBad HBig
                go_wp2
                go_round
                case rel => exact ⟨k + 1, hlt, by go_num, by rw [← HN2.out, HS2.out]; go_num, by rw [← HN2.out, HS2.out]; omega⟩
                case measure => simp [intOf]; omega
        · obtain rfl : k = R.size := by omega
          have HT : Hid (foldD 0 (l.take R.size) = foldD 0 l) := Lib.hid (by rw [List.take_of_length_le (by rw [HSz.out]; exact Nat.le_refl _)])
          obtain ⟨n, hn⟩ : ∃ n, foldD 0 l = n := ⟨_, rfl⟩
          have HV : Hid (∀ v', isVal e v' → v' = (-((n : Nat) : Int))) := Lib.hid fun v' h => by have := rest_end HRest.out h; rw [hn] at this; simpa using this
          rw [HT.out] at hfb ⊢
          rw [hn] at hfb ⊢
          clear hn HT
          have HR := Lib.hid (fun w => l00In_any (-((n : Nat) : Int)) (-1000000000000000000) 1000000000000000000 w)
          by_cases hin : -1000000000000000000 ≤ (-((n : Nat) : Int)) ∧ (-((n : Nat) : Int)) ≤ 1000000000000000000
          · rw [inR_yes hin] at HR
            have HD := Lib.hid (fun w => l01DecZ_any (-((n : Nat) : Int)) (by omega) (by omega) w)
            go_wp2_with fail
            refine (HR.out _).mono ?_
            rintro e' w' ⟨rfl, rfl⟩
            go_wp2_with fail
            refine (HD.out _).mono ?_
            rintro e' w2 ⟨rfl, hb2⟩
            have HB2 := Lib.hid hb2
            clear hb2
            by_cases hq : Lib.itoa (-((n : Nat) : Int)) = e
            · have e1 : tx (Lib.itoa (-((n : Nat) : Int))) = s := by rw [hq, ← he]
              rw [e1]
              have HY := Lib.hid hq
              have hbe : (s.toList == s.toList) = true := by simp
              clear hq e1
              go_wp2
              go_ret2
              exact ⟨_, true, rfl, fun _ => ⟨HY.out, hin⟩, fun h => (by cases h), HB2.out⟩
            · have e1 : ((tx (Lib.itoa (-((n : Nat) : Int)))).toList == s.toList) = false := beq_eq_false_iff_ne.2 (fun h => hq (by rw [ByteArray.toList_eq, ByteArray.toList_eq, list_tx, he] at h; exact h))
              have HN : Hid (∀ v', ¬ isVal e v') := Lib.hid fun v' h => by
                have e2 := HV.out v' h
                subst e2
                exact hq h.1
              clear hq
              generalize tx (Lib.itoa (-((n : Nat) : Int))) = d at *
              go_wp2
              go_ret2
              exact ⟨_, false, rfl, fun h => (by cases h), fun _ => HN.out, HB2.out⟩
          · have hno : inR (-((n : Nat) : Int)) (-1000000000000000000) 1000000000000000000 = false := by
              cases h : inR (-((n : Nat) : Int)) (-1000000000000000000) 1000000000000000000 with
              | false => rfl
              | true => exact absurd (inR_true h) hin
            rw [hno] at HR
            have HN : Hid (∀ v', ¬ isVal e v') := Lib.hid fun v' h => by
              have e2 := HV.out v' h
              subst e2
              exact hin ⟨by have := h.2.1; omega, by have := h.2.2; omega⟩
            clear hno
            go_wp2_with fail
            refine (HR.out _).mono ?_
            rintro e' w' ⟨rfl, rfl⟩
            go_wp2
            go_ret2
            exact ⟨_, false, rfl, fun h => (by cases h), fun _ => HN.out, Below.refl _ _⟩
  · have HRest : Hid (Rest e e false) := Lib.hid (rest_plus fun c r hcr hc => hneg (by
      have h0 : 0 < s.size := by rw [← hsz, hcr]; simp
      refine ⟨h0, ?_⟩
      have : s[0]'h0 = c := by
        have e1 : s.data.toList[0]? = some c := by rw [he, hcr]; rfl
        have e2 : s.data.toList[0]? = some (s[0]'h0) := by
          show s.data.toList[0]? = some (s.data[0])
          rw [Array.getElem?_toList, Array.getElem?_eq_getElem h0]
        rw [e1] at e2; injection e2 with e2; exact e2.symm
      rw [this]; exact hc))
    have HX : Hid (∀ k (h : k < s.size) (h2 : k < e.length), (s[k]'h).toNat = (e[k]'h2).toNat) := Lib.hid fun k h h2 => by subst he; rfl
    have HSz := Lib.hid hsz
    by_cases hl : s.size < 1 ∨ 19 < s.size
    · have HN := Lib.hid (rest_len HRest.out (by rw [hsz]; exact hl))
      have h0 : 0 < s.size → ∃ x, x ≠ 45 ∧ ∃ h : 0 < s.size, (s[0]'h).toNat = x := fun h => ⟨_, fun e => hneg ⟨h, e⟩, h, rfl⟩
      clear hneg HX hsz
      rcases hl with hl | hl
      · go_enter Tryd.func79, Tryd.ntmps79
        go_wp2
        go_ret2
        exact ⟨0, false, rfl, fun h => (by cases h), fun _ => HN.out, Below.refl _ _⟩
      · obtain ⟨x, hx45, hh, hx⟩ := h0 (by omega)
        clear h0
        have hxi : ((x : Int) == 45) = false := beq_eq_false_iff_ne.2 (by omega)
        go_enter Tryd.func79, Tryd.ntmps79
        go_wp2
        go_ret2
        exact ⟨0, false, rfl, fun h => (by cases h), fun _ => HN.out, Below.refl _ _⟩
    · have hp : 0 < s.size := by omega
      obtain ⟨x, hx⟩ : ∃ x, (s[0]'hp).toNat = x := ⟨_, rfl⟩
      have hx45 : x ≠ 45 := fun e => hneg ⟨hp, hx.trans e⟩
      have hxi : ((x : Int) == 45) = false := beq_eq_false_iff_ne.2 (by omega)
      clear hneg hsz
      go_enter Tryd.func79, Tryd.ntmps79
      go_wp2
      clear hx hxi
      go_loop [5, 6] (fun v i => ∃ k : Nat, k ≤ s.size ∧ i = .int .i64 (k : Int) ∧ v = .int .i64 (foldD 0 (e.take k) : Nat) ∧ foldD 0 (e.take k) ≤ 1000000000000000009) (fun _ i => s.size - (intOf i).toNat)
      case atStart => exact ⟨0, Nat.zero_le _, rfl, rfl, by simp [foldD]⟩
      case round =>
        obtain ⟨k, hk, rfl, rfl, hfb⟩ := hrel
        by_cases hlt : k < s.size
        · obtain ⟨x, hx⟩ : ∃ x, (s[k]'hlt).toNat = x := ⟨_, rfl⟩
          have hke : k < e.length := by rw [HSz.out]; exact hlt
          have HXe : Hid ((e[k]'hke).toNat = x) := Lib.hid ((HX.out k hlt hke).symm.trans hx)
          have HSt := Lib.hid (foldD_step hke)
          rw [HXe.out] at HSt
          have HBad : Hid ((x < 48 ∨ 57 < x) → ∀ v', ¬ isVal e v') := Lib.hid fun h => rest_bad HRest.out hke (by rw [HXe.out]; exact h)
          have HBig := Lib.hid (fun h => rest_big HRest.out (k := k) h)
          obtain ⟨n, hn⟩ : ∃ n, foldD 0 (e.take k) = n := ⟨_, rfl⟩
          rw [hn] at hfb HSt HBig ⊢
          obtain ⟨n2, hn2⟩ : ∃ n2, n2 = foldD 0 (e.take (k + 1)) := ⟨_, rfl⟩
          rw [← hn2] at HSt
          have HN2 := Lib.hid hn2
          have hx256 : x < 256 := by rw [← hx]; exact (s[k]'hlt).toNat_lt
          clear hn hn2 hke HXe
          by_cases hx1 : x < 48
          · have HN := Lib.hid (HBad.out (.inl hx1))
            go_wp2
            go_ret2
            exact ⟨0, false, rfl, fun h => (by cases h), fun _ => HN.out, Below.refl _ _⟩
          · by_cases hx2 : 57 < x
            · have HN := Lib.hid (HBad.out (.inr hx2))
              go_wp2
              go_ret2
              exact ⟨0, false, rfl, fun h => (by cases h), fun _ => HN.out, Below.refl _ _⟩
            · by_cases hb : 100000000000000000 < n
              · have HN := Lib.hid (HBig.out hb)
                go_wp2
                go_ret2
                exact ⟨0, false, rfl, fun h => (by cases h), fun _ => HN.out, Below.refl _ _⟩
              · obtain ⟨d, hd⟩ : ∃ d, x = 48 + d := ⟨x - 48, by omega⟩
                subst hd
                have hd9 : d ≤ 9 := by omega
                have HS2 : Hid (n2 = n * 10 + d) := Lib.hid (by rw [HSt.out]; omega)
                clear HSt HBad HBig
                go_wp2
                go_round
                case rel => exact ⟨k + 1, hlt, by go_num, by rw [← HN2.out, HS2.out]; go_num, by rw [← HN2.out, HS2.out]; omega⟩
                case measure => simp [intOf]; omega
        · obtain rfl : k = s.size := by omega
          have HT : Hid (foldD 0 (e.take s.size) = foldD 0 e) := Lib.hid (by rw [List.take_of_length_le (by rw [HSz.out]; exact Nat.le_refl _)])
          obtain ⟨n, hn⟩ : ∃ n, foldD 0 e = n := ⟨_, rfl⟩
          have HV : Hid (∀ v', isVal e v' → v' = ((n : Nat) : Int)) := Lib.hid fun v' h => by have := rest_end HRest.out h; rw [hn] at this; simpa using this
          rw [HT.out] at hfb ⊢
          rw [hn] at hfb ⊢
          clear hn HT
          have HR := Lib.hid (fun w => l00In_any ((n : Nat) : Int) (-1000000000000000000) 1000000000000000000 w)
          by_cases hin : -1000000000000000000 ≤ ((n : Nat) : Int) ∧ ((n : Nat) : Int) ≤ 1000000000000000000
          · rw [inR_yes hin] at HR
            have HD := Lib.hid (fun w => l01DecZ_any ((n : Nat) : Int) (by omega) (by omega) w)
            go_wp2_with fail
            refine (HR.out _).mono ?_
            rintro e' w' ⟨rfl, rfl⟩
            go_wp2_with fail
            refine (HD.out _).mono ?_
            rintro e' w2 ⟨rfl, hb2⟩
            have HB2 := Lib.hid hb2
            clear hb2
            by_cases hq : Lib.itoa ((n : Nat) : Int) = e
            · have e1 : tx (Lib.itoa ((n : Nat) : Int)) = s := by rw [hq, ← he]
              rw [e1]
              have HY := Lib.hid hq
              have hbe : (s.toList == s.toList) = true := by simp
              clear hq e1
              go_wp2
              go_ret2
              exact ⟨_, true, rfl, fun _ => ⟨HY.out, hin⟩, fun h => (by cases h), HB2.out⟩
            · have e1 : ((tx (Lib.itoa ((n : Nat) : Int))).toList == s.toList) = false := beq_eq_false_iff_ne.2 (fun h => hq (by rw [ByteArray.toList_eq, ByteArray.toList_eq, list_tx, he] at h; exact h))
              have HN : Hid (∀ v', ¬ isVal e v') := Lib.hid fun v' h => by
                have e2 := HV.out v' h
                subst e2
                exact hq h.1
              clear hq
              generalize tx (Lib.itoa ((n : Nat) : Int)) = d at *
              go_wp2
              go_ret2
              exact ⟨_, false, rfl, fun h => (by cases h), fun _ => HN.out, HB2.out⟩
          · have hno : inR ((n : Nat) : Int) (-1000000000000000000) 1000000000000000000 = false := by
              cases h : inR ((n : Nat) : Int) (-1000000000000000000) 1000000000000000000 with
              | false => rfl
              | true => exact absurd (inR_true h) hin
            rw [hno] at HR
            have HN : Hid (∀ v', ¬ isVal e v') := Lib.hid fun v' h => by
              have e2 := HV.out v' h
              subst e2
              exact hin ⟨by have := h.2.1; omega, by have := h.2.2; omega⟩
            clear hno
            go_wp2_with fail
            refine (HR.out _).mono ?_
            rintro e' w' ⟨rfl, rfl⟩
            go_wp2
            go_ret2
            exact ⟨_, false, rfl, fun h => (by cases h), fun _ => HN.out, Below.refl _ _⟩
/-- texts of numbers differ -/
theorem itoa_inj {a b : Int} (h1 : -1000000000000000 ≤ a ∧ a ≤ 1000000000000000) (h2 : -1000000000000000000 ≤ b) (h3 : b ≤ 1000000000000000000) (h : Lib.itoa a = Lib.itoa b) : a = b := by
  have key : ∀ u v : Nat, Lib.decDigits u = Lib.decDigits v → u = v := fun u v h => by
    have e1 := (digs_dec u).2
    have e2 := (digs_dec v).2
    rw [h] at e1
    omega
  by_cases ha : a < 0
  · obtain ⟨u, rfl⟩ : ∃ u : Nat, a = -(u : Int) := ⟨(-a).toNat, by omega⟩
    by_cases hb : b < 0
    · obtain ⟨v, rfl⟩ : ∃ v : Nat, b = -(v : Int) := ⟨(-b).toNat, by omega⟩
      rw [Lib.itoa_neg u (by omega), Lib.itoa_neg v (by omega)] at h
      injection h with _ h
      rw [key u v h]
    · obtain ⟨v, rfl⟩ := Int.eq_ofNat_of_zero_le (show 0 ≤ b by omega)
      rw [Lib.itoa_neg u (by omega), itoa_pos] at h
      obtain ⟨c, r, e1, e2, e3⟩ := dec_head v
      rw [e1] at h
      injection h with h _
      rw [← h] at e2
      exact absurd e2 (by decide)
  · obtain ⟨u, rfl⟩ := Int.eq_ofNat_of_zero_le (show 0 ≤ a by omega)
    by_cases hb : b < 0
    · obtain ⟨v, rfl⟩ : ∃ v : Nat, b = -(v : Int) := ⟨(-b).toNat, by omega⟩
      rw [Lib.itoa_neg v (by omega), itoa_pos] at h
      obtain ⟨c, r, e1, e2, e3⟩ := dec_head u
      rw [e1] at h
      injection h with h _
      rw [h] at e2
      exact absurd e2 (by decide)
    · obtain ⟨v, rfl⟩ := Int.eq_ofNat_of_zero_le (show 0 ≤ b by omega)
      rw [itoa_pos, itoa_pos] at h
      rw [key u v h]
theorem value_any (s : ByteArray) (hs : s.size ≤ 1048576) (w : World) : Calls Tryd.prog 57 #[.string s] w (ValRet s.data.toList w) := by
  have HG := Lib.hid (great_any s hs w)
  generalize s.data.toList = e at *
  go_enter Tryd.func57, Tryd.ntmps57
  go_wp2_with fail
  refine HG.out.mono ?_
  rintro en w1 ⟨v, b, rfl, h1, h2, hb⟩
  have HB := Lib.hid hb
  clear hb
  cases b with
  | false =>
    have HN := Lib.hid (h2 rfl)
    clear h1 h2
    go_wp2
    go_ret2
    exact ⟨0, false, rfl, fun h => (by cases h), fun _ => ⟨rfl, HN.out⟩, HB.out⟩
  | true =>
    obtain ⟨g1, g2, g3⟩ := h1 rfl
    have HR := Lib.hid (fun w => l00In_any v (-1000000000000000) 1000000000000000 w)
    clear h1 h2
    by_cases hin : -1000000000000000 ≤ v ∧ v ≤ 1000000000000000
    · rw [inR_yes hin] at HR
      have HY : Hid (isVal e v) := Lib.hid ⟨g1, hin⟩
      clear g1
      go_wp2_with fail
      refine (HR.out _).mono ?_
      rintro e' w' ⟨rfl, rfl⟩
      go_wp2
      go_ret2
      exact ⟨v, true, rfl, fun _ => HY.out, fun h => (by cases h), HB.out⟩
    · have hno : inR v (-1000000000000000) 1000000000000000 = false := by
        cases h : inR v (-1000000000000000) 1000000000000000 with
        | false => rfl
        | true => exact absurd (inR_true h) hin
      rw [hno] at HR
      have HN : Hid (∀ v', ¬ isVal e v') := Lib.hid fun v' h => by
        obtain ⟨c, d, h2⟩ : ∃ c d, (c = v' ∧ d = v) := ⟨_, _, rfl, rfl⟩
        have : v = v' := by
          have q1 := h.1.trans g1.symm
          exact (itoa_inj (by have := h.2; omega) g2 g3 q1).symm
        subst this
        exact hin h.2
      clear g1 hno
      go_wp2_with fail
      refine (HR.out _).mono ?_
      rintro e' w' ⟨rfl, rfl⟩
      go_wp2
      go_ret2
      exact ⟨0, false, rfl, fun h => (by cases h), fun _ => ⟨rfl, HN.out⟩, HB.out⟩
end Go.Proofs.YtogadldnkhdjbaaDoor.Val

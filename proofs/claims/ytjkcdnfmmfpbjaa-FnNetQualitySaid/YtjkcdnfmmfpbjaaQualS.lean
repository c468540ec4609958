/- Mixing a side of a net by a lower matrix does not change its quality: plain. -/
import Derived.Test.YtjkcdnfmmfpbjaaQualL
import Derived.Test.YtjkcdnfmmfpbjaaScrW
namespace Go.Proofs.Ytjkcdnfmmfpbjaa.QualS
open Go.Proofs.Ytjkcdnfmmfpbjaa Go.Proofs.Ytjkcdnfmmfpbjaa.Base Go.Proofs.Ytjkcdnfmmfpbjaa.Mem Go.Proofs.Ytjkcdnfmmfpbjaa.AllIn Go.Proofs.Ytjkcdnfmmfpbjaa.Pts Go.Proofs.Ytjkcdnfmmfpbjaa.NetV Go.Proofs.Ytjkcdnfmmfpbjaa.NetP Go.Proofs.Ytjkcdnfmmfpbjaa.Shift Go.Proofs.Ytjkcdnfmmfpbjaa.Scr Go.Proofs.Ytjkcdnfmmfpbjaa.RankM Go.Proofs.Ytjkcdnfmmfpbjaa.QualM Go.Proofs.Ytjkcdnfmmfpbjaa.Ways Go.Proofs.Ytjkcdnfmmfpbjaa.Rank Go.Proofs.Ytjkcdnfmmfpbjaa.QualL
set_option linter.unusedVariables false
theorem _root_.Go.Proofs.Ytjkcdnfmmfpbjaa.QualM.Tri.refl (A : List Nat) : Tri A A := ⟨rfl, fun k _ => by rw [Nat.xor_self]; exact .zero⟩
theorem getD_take {A : List Nat} {n k : Nat} (h : k < n) : (A.take n).getD k 0 = A.getD k 0 := by simp [List.getD, h]
theorem _root_.Go.Proofs.Ytjkcdnfmmfpbjaa.QualM.Tri.take {A B : List Nat} (h : Tri A B) (n : Nat) : Tri (A.take n) (B.take n) :=
  ⟨by rw [List.length_take, List.length_take, h.len], fun k hk => by
    rw [List.length_take] at hk
    rw [List.take_take, Nat.min_eq_left (by omega), getD_take (by omega), getD_take (by omega)]
    exact h.sum k (by omega)⟩
theorem _root_.Go.Proofs.Ytjkcdnfmmfpbjaa.QualM.Tri.app {A A' B B' : List Nat} (h : Tri A A') (g : Tri B B') : Tri (A ++ B) (A' ++ B') :=
  ⟨by rw [List.length_append, List.length_append, h.len, g.len], fun k hk => by
    rw [List.length_append] at hk
    by_cases hl : k < A.length
    · rw [app_lt hl, app_lt (by rw [h.len]; exact hl), List.take_append_of_le_length (by omega)]
      exact h.sum k hl
    · have e1 : (A ++ B).getD k 0 = B.getD (k - A.length) 0 := by simp [List.getD, List.getElem?_append_right (by omega : A.length ≤ k)]
      have e2 : (A' ++ B').getD k 0 = B'.getD (k - A.length) 0 := by
        have := h.len
        simp [List.getD, List.getElem?_append_right (by omega : A'.length ≤ k), this]
      rw [e1, e2]
      refine (g.sum (k - A.length) (by omega)).mono fun r hr => ?_
      rw [show k = A.length + (k - A.length) by omega, List.take_append]
      refine List.mem_append_right _ ?_
      rw [show A.length + (k - A.length) - A.length = k - A.length by omega]
      exact hr⟩
theorem tri_tks : ∀ (Ms Ms' : List (List Nat)) (cs : List Nat), Ms'.length = Ms.length → (∀ d, d < Ms.length → Tri (Ms.getD d []) (Ms'.getD d [])) → Tri (tks Ms cs) (tks Ms' cs)
  | [], [], cs, _, _ => Tri.refl _
  | [], _ :: _, _, h, _ => by simp at h
  | _ :: _, [], _, h, _ => by simp at h
  | M :: Ms, M' :: Ms', [], _, _ => Tri.refl _
  | M :: Ms, M' :: Ms', c :: cs, hl, h => by
    have h0 := h 0 (by simp)
    simp only [List.getD_cons_zero] at h0
    exact (h0.take c).app (tri_tks Ms Ms' cs (by simpa using hl) fun d hd => by
      have := h (d + 1) (by simpa using hd)
      simpa using this)
theorem tri_quality {b t : Nat} {Ms Ms' : List (List Nat)} (hl : Ms'.length = Ms.length) (h : ∀ d, d < Ms.length → Tri (Ms.getD d []) (Ms'.getD d [])) (hq : IsQ b Ms t) : IsQ b Ms' t := by
  have key : ∀ left, IndFor Ms left [] ↔ IndFor Ms' left [] := fun left => by
    unfold IndFor
    rw [hl]
    constructor
    · intro g cs h1 h2
      have := g cs h1 h2
      rw [List.nil_append] at this ⊢
      exact (tri_tks Ms Ms' cs hl h).ind.1 this
    · intro g cs h1 h2
      have := g cs h1 h2
      rw [List.nil_append] at this ⊢
      exact (tri_tks Ms Ms' cs hl h).ind.2 this
  exact ⟨hq.1, (key _).1 hq.2.1, fun s hs hi => hq.2.2 s hs ((key _).2 hi)⟩
theorem comb_sp (m : Nat) (rows : List Int) : ∀ k, k ≤ rows.length → 0 ≤ comb m rows k ∧ Sp ((nats rows).take k) (comb m rows k).toNat
  | 0, _ => ⟨by simp [comb], by simp only [comb]; exact .zero⟩
  | k + 1, hk => by
    obtain ⟨h1, h2⟩ := comb_sp m rows k (by omega)
    have e := take_snoc (rows := nats rows) (i := k) (by rw [nats_len]; omega)
    have h3 : Sp ((nats rows).take (k + 1)) (comb m rows k).toNat := h2.mono fun r hr => by rw [e]; exact List.mem_append_left _ hr
    unfold comb
    split
    · refine ⟨by unfold Shift.xorI; omega, ?_⟩
      unfold Shift.xorI
      rw [Int.toNat_natCast]
      exact .step h3 (by rw [e, nats_get]; exact List.mem_append_right _ (List.mem_singleton.2 rfl))
    · exact ⟨h1, h3⟩
theorem comb_above (m : Nat) (rows : List Int) (i : Nat) (h : ∀ j, i ≤ j → m.testBit j = false) : ∀ d, comb m rows (i + d) = comb m rows i
  | 0 => rfl
  | d + 1 => by
    rw [← Nat.add_assoc, comb, h (i + d) (by omega)]
    simp only [Bool.false_eq_true, if_false]
    exact comb_above m rows i h d
theorem comb_tri {rows : List Int} {i : Nat} {m : Int} (hi : i < rows.length) (h0 : ∀ j, j < rows.length → 0 ≤ rows.getD j 0) (hm : inR m ((2 : Int) ^ i) (2 * (2 : Int) ^ i - 1) = true) :
    Sp ((nats rows).take i) ((comb m.toNat rows rows.length).toNat ^^^ (nats rows).getD i 0) := by
  obtain ⟨h1, h2⟩ := inR_true hm
  have ep : ((2 ^ i : Nat) : Int) = (2 : Int) ^ i := by simp
  have hlo : 2 ^ i ≤ m.toNat := by omega
  have hhi : m.toNat < 2 ^ (i + 1) := by rw [Nat.pow_succ]; omega
  have hbit : m.toNat.testBit i = true := by
    obtain ⟨y, hy⟩ : ∃ y, m.toNat = 2 ^ i + y := ⟨m.toNat - 2 ^ i, by omega⟩
    have hyl : y < 2 ^ i := by rw [Nat.pow_succ] at hhi; omega
    rw [hy, low_add hyl, Nat.testBit_xor, Nat.testBit_two_pow_self, Nat.testBit_lt_two_pow hyl]; rfl
  obtain ⟨d, hd⟩ : ∃ d, rows.length = i + 1 + d := ⟨rows.length - (i + 1), by omega⟩
  rw [hd, comb_above m.toNat rows (i + 1) (fun j hj => Nat.testBit_lt_two_pow (Nat.lt_of_lt_of_le hhi (Nat.pow_le_pow_right (by decide) hj))) d]
  obtain ⟨g1, g2⟩ := comb_sp m.toNat rows i (by omega)
  rw [comb, hbit, if_pos rfl, nats_get]
  unfold Shift.xorI
  rw [Int.toNat_natCast, Nat.xor_assoc, Nat.xor_self, Nat.xor_zero]
  exact g2
theorem sc_quality {bits side : Int} {b t : Nat} {xss : List (List Int)} {lower : List Int} (hb : bits = (b : Int)) (h : scB bits xss side lower = true) (hq : IsQ b (natss xss) t) : IsQ b (natss (scL xss side.toNat lower)) t := by
  subst hb
  simp only [scB, Bool.and_eq_true, decide_eq_true_eq] at h
  obtain ⟨hn, hs, hl, hlow⟩ := h
  obtain ⟨_, _, _, _, n5⟩ := netB_true hn
  rw [Int.toNat_natCast] at n5
  refine tri_quality (by rw [natss_len, natss_len, scL_len]) (fun d hd => ?_) hq
  rw [natss_len] at hd
  rw [natss_get, natss_get, scL_at _ _ _ _ hd]
  obtain ⟨r1, r2⟩ := row_of n5 hd
  split
  · refine ⟨by rw [nats_len, nats_len, mixR_len]; omega, fun k hk => ?_⟩
    rw [nats_len] at hk
    have e : (nats (mixR (xss.getD d []) lower)).getD k 0 = (comb (lower.getD k 0).toNat (xss.getD d []) (xss.getD d []).length).toNat := by
      rw [nats_get, mixR_at _ _ _ (by omega)]
    rw [e]
    exact comb_tri hk (fun j hj => (r2 j (by omega)).1) (lowB_at hlow (by omega))
  · exact Tri.refl _
end Go.Proofs.Ytjkcdnfmmfpbjaa.QualS

/- The points of a net are even for cuts exactly if the rows that the cuts take are independent: plain. -/
import Derived.Test.YtjkcdnfmmfpbjaaQualM
import Derived.Test.YtjkcdnfmmfpbjaaWays
import Derived.Test.YtjkcdnfmmfpbjaaShMath
import Derived.Test.YtjkcdnfmmfpbjaaRank
namespace Go.Proofs.Ytjkcdnfmmfpbjaa.QualL
open Go.Proofs.Ytjkcdnfmmfpbjaa Go.Proofs.Ytjkcdnfmmfpbjaa.Base Go.Proofs.Ytjkcdnfmmfpbjaa.Mem Go.Proofs.Ytjkcdnfmmfpbjaa.AllIn Go.Proofs.Ytjkcdnfmmfpbjaa.Pts Go.Proofs.Ytjkcdnfmmfpbjaa.Cuts Go.Proofs.Ytjkcdnfmmfpbjaa.Box Go.Proofs.Ytjkcdnfmmfpbjaa.Shift Go.Proofs.Ytjkcdnfmmfpbjaa.NetV Go.Proofs.Ytjkcdnfmmfpbjaa.NetP Go.Proofs.Ytjkcdnfmmfpbjaa.ShM Go.Proofs.Ytjkcdnfmmfpbjaa.RankM Go.Proofs.Ytjkcdnfmmfpbjaa.QualM Go.Proofs.Ytjkcdnfmmfpbjaa.Ways Go.Proofs.Ytjkcdnfmmfpbjaa.Rank
set_option linter.unusedVariables false
/-- numbers of the program as naturals -/
def nats (xs : List Int) : List Nat := xs.map Int.toNat
def natss (xss : List (List Int)) : List (List Nat) := xss.map nats
theorem nats_len (xs : List Int) : (nats xs).length = xs.length := by simp [nats]
theorem natss_len (xss : List (List Int)) : (natss xss).length = xss.length := by simp [natss]
theorem nats_get (xs : List Int) (i : Nat) : (nats xs).getD i 0 = (xs.getD i 0).toNat := by
  by_cases h : i < xs.length
  · simp [nats, List.getD, h]
  · simp [nats, List.getD, h]
theorem natss_get (xss : List (List Int)) (i : Nat) : (natss xss).getD i [] = nats (xss.getD i []) := by
  by_cases h : i < xss.length
  · simp [natss, List.getD, h]
  · simp [natss, List.getD, h, nats]
theorem ofN_nats {xs : List Int} (h : ∀ i, i < xs.length → 0 ≤ xs.getD i 0) : ofN (nats xs) = xs := by
  refine List.ext_getElem (by simp [ofN, nats]) fun i h1 h2 => ?_
  have := h i h2
  simp [List.getD, h2] at this
  simp [ofN, nats]
  omega
theorem hits_cnt (f : Nat → Nat) (q : Nat) : ∀ n, hits f q n = ((cnt (fun k => f k == q) n : Nat) : Int)
  | 0 => rfl
  | n + 1 => by
    rw [hits, cnt, hits_cnt f q n]
    by_cases h : f n = q <;> simp [h]
theorem numTo_code (k : Nat) (xs : List Int) : ∀ j, j ≤ xs.length → numTo k xs j = code k ((nats xs).take j)
  | 0, _ => rfl
  | j + 1, h => by
    rw [numTo, numTo_code k xs j (by omega), RankM.take_snoc (by rw [nats_len]; omega), code_snoc, nats_get]
    unfold pr
    rfl
theorem hits_congr {f g : Nat → Nat} (q : Nat) : ∀ n, (∀ i, i < n → f i = g i) → hits f q n = hits g q n
  | 0, _ => rfl
  | n + 1, h => by rw [hits, hits, hits_congr q n (fun i hi => h i (by omega)), h n (by omega)]
theorem sumTo_nats {cs : List Int} (h : ∀ j, j < cs.length → 0 ≤ cs.getD j 0) : ∀ d, d ≤ cs.length → (sumTo cs d).toNat = ((nats cs).take d).sum ∧ 0 ≤ sumTo cs d
  | 0, _ => by simp [sumTo]
  | d + 1, hd => by
    have ih := sumTo_nats h d (by omega)
    have h1 := h d (by omega)
    rw [sumTo, RankM.take_snoc (by rw [nats_len]; omega), nats_get]
    simp only [List.sum_append, List.sum_cons, List.sum_nil]
    omega
theorem box_code {b k : Nat} {xss : List (List Int)} {cs : List Int} (hr : ∀ d, d < xss.length → (xss.getD d []).length = b) (hc : ∀ j, j < cs.length → 0 ≤ cs.getD j 0 ∧ cs.getD j 0 ≤ b) :
    ∀ d, d ≤ cs.length → d ≤ xss.length → boxTo b (numL k xss) cs d = code k (tks ((natss xss).take d) ((nats cs).take d)) ∧ (tks ((natss xss).take d) ((nats cs).take d)).length = ((nats cs).take d).sum
  | 0, _, _ => by simp [boxTo, tks, code_nil]
  | d + 1, h1, h2 => by
    obtain ⟨ih1, ih2⟩ := box_code (k := k) hr hc d (by omega) (by omega)
    have hcd := hc d (by omega)
    have hrd := hr d (by omega)
    have e1 : (numL k xss).getD d 0 = ((numTo k (xss.getD d []) b : Nat) : Int) := by
      rw [← hrd]
      have hl : d < xss.length := by omega
      simp [numL, List.getD, hl]
    obtain ⟨c, hc1⟩ := Int.eq_ofNat_of_zero_le hcd.1
    have hcb : c ≤ b := by omega
    rw [boxTo, ih1, e1, hc1, tks_snoc _ _ _ (by rw [natss_len]; omega) (by rw [nats_len]; omega), code_append, natss_get, nats_get, hc1]
    simp only [Int.toNat_natCast]
    have hlen : (nats (xss.getD d [])).length = b := by rw [nats_len, hrd]
    have e2 : numTo k (xss.getD d []) b / 2 ^ (b - c) = code k ((nats (xss.getD d [])).take c) := by
      rw [numTo_code _ _ _ (by omega), List.take_of_length_le (by omega), code_take _ _ _ (by omega), hlen]
    have e3 : ((nats (xss.getD d [])).take c).length = c := by rw [List.length_take, hlen]; omega
    have hlt := code_lt k _ ((nats (xss.getD d [])).take c) rfl
    rw [e3] at hlt
    refine ⟨?_, ?_⟩
    · rw [e2, e3]
      have := Nat.two_pow_add_eq_or_of_lt hlt (code k (tks (List.take d (natss xss)) (List.take d (nats cs))))
      rw [Nat.mul_comm, ← this, Nat.mul_comm]
    · rw [List.length_append, ih2, e3, RankM.take_snoc (by rw [nats_len]; omega), nats_get, hc1]
      simp
theorem even_ind {b : Nat} {xss : List (List Int)} {cs : List Int} (hb : b ≤ 6) (hv : xss.all (rowB b b) = true) (hl : cs.length = xss.length) (hc : ∀ j, j < cs.length → 0 ≤ cs.getD j 0 ∧ cs.getD j 0 ≤ b) :
    evenL (cntL b (netL xss (2 ^ b)) cs (2 ^ b)) = true ↔ Ind (tks (natss xss) (nats cs)) := by
  have hr : ∀ d, d < xss.length → (xss.getD d []).length = b := fun d hd => (row_of hv hd).1
  have hR : ∀ r, r ∈ tks (natss xss) (nats cs) → r < 2 ^ b := by
    have key : ∀ (Ms : List (List Nat)) (cs : List Nat), (∀ M, M ∈ Ms → ∀ r, r ∈ M → r < 2 ^ b) → ∀ r, r ∈ tks Ms cs → r < 2 ^ b := by
      intro Ms
      induction Ms with
      | nil => intro cs _ r hr; rw [tks_nil] at hr; cases hr
      | cons M Ms ih =>
        intro cs h r hr
        cases cs with
        | nil => cases hr
        | cons c cs =>
          rcases List.mem_append.1 hr with g | g
          · exact h M (by simp) r (List.mem_of_mem_take g)
          · exact ih cs (fun M' hM' => h M' (by simp [hM'])) r g
    refine key _ _ fun M hM r hr => ?_
    obtain ⟨xs, hxs, rfl⟩ := List.mem_map.1 hM
    obtain ⟨x, hx, rfl⟩ := List.mem_map.1 hr
    obtain ⟨d, hd, e⟩ := List.mem_iff_getElem.1 hxs
    obtain ⟨j, hj, e'⟩ := List.mem_iff_getElem.1 hx
    have h1 := row_of hv hd
    have e2 : xss.getD d [] = xs := by simp [List.getD, hd, e]
    rw [e2] at h1
    have h2 := h1.2 j (by omega)
    have e3 : xs.getD j 0 = x := by simp [List.getD, hj, e']
    rw [e3] at h2
    have h3 := nat_lt h2.1 h2.2
    exact h3
  have hbc := fun k => box_code (k := k) hr hc cs.length (Nat.le_refl _) (by omega)
  have et1 : (natss xss).take cs.length = natss xss := List.take_of_length_le (by rw [natss_len]; omega)
  have et2 : (nats cs).take cs.length = nats cs := List.take_of_length_le (by rw [nats_len]; omega)
  rw [et1, et2] at hbc
  have hsum := (sumTo_nats (fun j hj => (hc j hj).1) cs.length (Nat.le_refl _)).1
  rw [et2, ← (hbc 0).2] at hsum
  have hget : ∀ q, q < 2 ^ (sumTo cs cs.length).toNat → (cntL b (netL xss (2 ^ b)) cs (2 ^ b)).getD q 0 = ((cnt (fun k => code k (tks (natss xss) (nats cs)) == q) (2 ^ b) : Nat) : Int) := fun q hq => by
    rw [cntL_hits _ _ _ q hq, ← hits_cnt]
    refine hits_congr q _ fun i hi => ?_
    have : (netL xss (2 ^ b)).getD i [] = numL i xss := by simp [netL, List.getD, hi]
    rw [this]
    exact (hbc i).1
  rw [evenL_iff, cntL_len, ← even_iff hb hR, ← hsum]
  constructor
  · intro h v hv2
    have h1 := h v hv2
    rw [hget v hv2, hget 0 (Nat.two_pow_pos _)] at h1
    exact Int.ofNat.inj h1
  · intro h v hv2
    rw [hget v hv2, hget 0 (Nat.two_pow_pos _), h v hv2]
end Go.Proofs.Ytjkcdnfmmfpbjaa.QualL

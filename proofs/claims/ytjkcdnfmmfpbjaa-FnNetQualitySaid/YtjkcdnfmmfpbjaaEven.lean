/- Points that are even for cuts, and the counts of boxes: the laws. -/
import Derived.Test.YtjkcdnfmmfpbjaaBox
import Derived.Test.YtjkcdnfmmfpbjaaOpen
namespace Go.Proofs.Ytjkcdnfmmfpbjaa.Box
open Go.RowKit Go.Proofs.Ytjkcdnfmmfpbjaa Go.Proofs.Ytjkcdnfmmfpbjaa.Base Go.Proofs.Ytjkcdnfmmfpbjaa.Mem Go.Proofs.Ytjkcdnfmmfpbjaa.AllIn Go.Proofs.Ytjkcdnfmmfpbjaa.Pts Go.Proofs.Ytjkcdnfmmfpbjaa.RevNet Go.Proofs.Ytjkcdnfmmfpbjaa.Bits Go.Proofs.Ytjkcdnfmmfpbjaa.Cuts Go.Proofs.Ytjkcdnfmmfpbjaa.Cpy
set_option linter.unusedVariables false
def minTo (xs : List Int) : Nat → Int
  | 0 => xs.getD 0 0
  | k + 1 => if xs.getD k 0 < minTo xs k then xs.getD k 0 else minTo xs k
def maxTo (xs : List Int) : Nat → Int
  | 0 => xs.getD 0 0
  | k + 1 => if maxTo xs k < xs.getD k 0 then xs.getD k 0 else maxTo xs k
theorem minTo_le (xs : List Int) : ∀ k, minTo xs k ≤ xs.getD 0 0 ∧ ∀ i, i < k → minTo xs k ≤ xs.getD i 0
  | 0 => ⟨Int.le_refl _, fun i h => absurd h (Nat.not_lt_zero i)⟩
  | k + 1 => by
    obtain ⟨h1, h2⟩ := minTo_le xs k
    rw [minTo]
    split
    · refine ⟨by omega, fun i hi => ?_⟩
      rcases Nat.lt_or_ge i k with h | h
      · have := h2 i h; omega
      · rw [show i = k by omega]; exact Int.le_refl _
    · refine ⟨h1, fun i hi => ?_⟩
      rcases Nat.lt_or_ge i k with h | h
      · exact h2 i h
      · rw [show i = k by omega]; omega
theorem maxTo_ge (xs : List Int) : ∀ k, xs.getD 0 0 ≤ maxTo xs k ∧ ∀ i, i < k → xs.getD i 0 ≤ maxTo xs k
  | 0 => ⟨Int.le_refl _, fun i h => absurd h (Nat.not_lt_zero i)⟩
  | k + 1 => by
    obtain ⟨h1, h2⟩ := maxTo_ge xs k
    rw [maxTo]
    split
    · refine ⟨by omega, fun i hi => ?_⟩
      rcases Nat.lt_or_ge i k with h | h
      · have := h2 i h; omega
      · rw [show i = k by omega]; exact Int.le_refl _
    · refine ⟨h1, fun i hi => ?_⟩
      rcases Nat.lt_or_ge i k with h | h
      · exact h2 i h
      · rw [show i = k by omega]; omega
theorem ends_same {xs : List Int} {v : Int} : ∀ k, (∀ i, i < k → xs.getD i 0 = v) → xs.getD 0 0 = v → minTo xs k = v ∧ maxTo xs k = v
  | 0, _, h => ⟨h, h⟩
  | k + 1, h, h0 => by
    obtain ⟨h1, h2⟩ := ends_same k (fun i hi => h i (by omega)) h0
    have h3 := h k (by omega)
    rw [minTo, maxTo, h1, h2, h3]
    simp
def evenL (xs : List Int) : Bool := xs.all fun x => x == xs.getD 0 0
theorem evenL_eq (xs : List Int) : (minTo xs xs.length == maxTo xs xs.length) = evenL xs := by
  obtain ⟨m1, m2⟩ := minTo_le xs xs.length
  obtain ⟨n1, n2⟩ := maxTo_ge xs xs.length
  cases h : evenL xs with
  | true =>
    have ha : ∀ i, i < xs.length → xs.getD i 0 = xs.getD 0 0 := fun i hi => by
      have := all_at 0 hi (show xs.all (fun x => x == xs.getD 0 0) = true from h)
      simpa using this
    obtain ⟨h1, h2⟩ := ends_same xs.length ha rfl
    rw [h1, h2]; simp
  | false =>
    refine beq_eq_false_iff_ne.2 fun e => ?_
    have : evenL xs = true := all_of 0 fun i hi => by
      have h1 := m2 i hi
      have h2 := n2 i hi
      rw [beq_iff_eq]; omega
    rw [h] at this; cases this
set_option maxHeartbeats 400000 in
theorem sliceMin_any (A : Option Addr) (c B : Nat) (xs : List Int) (w : World) (hx : RdI w B A xs) (h0 : 0 < xs.length) (hl : xs.length ≤ 1048576) :
    Calls Try.prog 67 #[.slice A xs.length c] w fun e w' => e = .returned (.int .i64 (minTo xs xs.length)) ∧ w = w' := by
  obtain ⟨b, off, rfl, _, hc⟩ := hx h0
  have g0 := hc 0 h0
  rw [Nat.add_zero] at g0
  have HC := Lib.hid hc
  have HM : Hid (minTo xs 1 = xs.getD 0 0) := Lib.hid (by simp [minTo])
  clear hc hx
  generalize xs.getD 0 0 = x0 at *
  have hnl : ¬ (xs.length : Int) < 1 := by omega
  go_enter Try.func67, Try.ntmps67
  go_wp2_with fail
  go_loop [3, 4] (fun m i => ∃ k : Nat, k + 1 ≤ xs.length ∧ i = .int .i64 ((k : Int) + 1) ∧ m = .int .i64 (minTo xs (k + 1))) (fun _ i => xs.length + 1 - (intOf i).toNat)
  case atStart => exact ⟨0, h0, rfl, by rw [HM.out]⟩
  case round =>
    obtain ⟨k, hk, rfl, rfl⟩ := hrel
    by_cases hlt : k + 1 < xs.length
    · have g := HC.out (k + 1) hlt
      have HS : Hid (minTo xs (k + 1 + 1) = if xs.getD (k + 1) 0 < minTo xs (k + 1) then xs.getD (k + 1) 0 else minTo xs (k + 1)) := Lib.hid rfl
      generalize xs.getD (k + 1) 0 = y at *
      generalize minTo xs (k + 1) = m at *
      have hi0 : (k : Int) + 1 < xs.length := by omega
      by_cases hym : y < m
      · rw [if_pos hym] at HS
        go_wp2
        go_round
        case rel => exact ⟨k + 1, hlt, by go_num, by rw [HS.out]⟩
        case measure => simp [intOf]; omega
      · rw [if_neg hym] at HS
        go_wp2
        go_round
        case rel => exact ⟨k + 1, hlt, by go_num, by rw [HS.out]⟩
        case measure => simp [intOf]; omega
    · have hke : k + 1 = xs.length := by omega
      have hi0 : ¬ (k : Int) + 1 < xs.length := by omega
      have HK := Lib.hid hke
      clear hke
      go_wp2
      go_ret
      exact ⟨ret_int (by rw [HK.out]), rfl⟩
set_option maxHeartbeats 400000 in
theorem sliceMax_any (A : Option Addr) (c B : Nat) (xs : List Int) (w : World) (hx : RdI w B A xs) (h0 : 0 < xs.length) (hl : xs.length ≤ 1048576) :
    Calls Try.prog 68 #[.slice A xs.length c] w fun e w' => e = .returned (.int .i64 (maxTo xs xs.length)) ∧ w = w' := by
  obtain ⟨b, off, rfl, _, hc⟩ := hx h0
  have g0 := hc 0 h0
  rw [Nat.add_zero] at g0
  have HC := Lib.hid hc
  have HM : Hid (maxTo xs 1 = xs.getD 0 0) := Lib.hid (by simp [maxTo])
  clear hc hx
  generalize xs.getD 0 0 = x0 at *
  have hnl : ¬ (xs.length : Int) < 1 := by omega
  go_enter Try.func68, Try.ntmps68
  go_wp2_with fail
  go_loop [3, 4] (fun m i => ∃ k : Nat, k + 1 ≤ xs.length ∧ i = .int .i64 ((k : Int) + 1) ∧ m = .int .i64 (maxTo xs (k + 1))) (fun _ i => xs.length + 1 - (intOf i).toNat)
  case atStart => exact ⟨0, h0, rfl, by rw [HM.out]⟩
  case round =>
    obtain ⟨k, hk, rfl, rfl⟩ := hrel
    by_cases hlt : k + 1 < xs.length
    · have g := HC.out (k + 1) hlt
      have HS : Hid (maxTo xs (k + 1 + 1) = if maxTo xs (k + 1) < xs.getD (k + 1) 0 then xs.getD (k + 1) 0 else maxTo xs (k + 1)) := Lib.hid rfl
      generalize xs.getD (k + 1) 0 = y at *
      generalize maxTo xs (k + 1) = m at *
      have hi0 : (k : Int) + 1 < xs.length := by omega
      by_cases hym : m < y
      · rw [if_pos hym] at HS
        go_wp2
        go_round
        case rel => exact ⟨k + 1, hlt, by go_num, by rw [HS.out]⟩
        case measure => simp [intOf]; omega
      · rw [if_neg hym] at HS
        go_wp2
        go_round
        case rel => exact ⟨k + 1, hlt, by go_num, by rw [HS.out]⟩
        case measure => simp [intOf]; omega
    · have hke : k + 1 = xs.length := by omega
      have hi0 : ¬ (k : Int) + 1 < xs.length := by omega
      have HK := Lib.hid hke
      clear hke
      go_wp2
      go_ret
      exact ⟨ret_int (by rw [HK.out]), rfl⟩
/-- even counts -/
def evenB (xss : List (List Int)) (bits : Int) (ys : List Int) : Bool := cutsB xss bits ys && evenL (boxR xss bits ys)
theorem boxR_pos {xss : List (List Int)} {bits : Int} {ys : List Int} (h : cutsB xss bits ys = true) : 0 < (boxR xss bits ys).length := by
  rw [boxR, if_pos h, cntL_len]
  exact Nat.two_pow_pos _
set_option maxHeartbeats 1000000 in
theorem implEven_any (A A' : Option Addr) (c c' B : Nat) (bits : Int) (xss : List (List Int)) (ys : List Int) (w : World) (hx : RdII w B A xss) (hy : RdI w B A' ys) (hB : B ≤ w.heap.size) (hl : xss.length ≤ 1048576) (hm : tot xss ≤ 1048576) (hly : ys.length ≤ 1048576) :
    Calls Try.prog 39 #[.slice A xss.length c, .int .i64 bits, .slice A' ys.length c'] w fun e w' => e = .returned (.bool (evenB xss bits ys)) ∧ Below w.heap.size w w' := by
  have HV := Lib.hid (implBox_any A A' c c' B bits xss ys w hx hy hB hl hm hly)
  have hbd := boxR_bd xss bits ys
  have hpos := fun h => boxR_pos (xss := xss) (bits := bits) (ys := ys) h
  have HE : Hid (evenB xss bits ys = (cutsB xss bits ys && evenL (boxR xss bits ys))) := Lib.hid rfl
  clear hx hy
  generalize evenB xss bits ys = ev at *
  generalize boxR xss bits ys = R at *
  cases hp : cutsB xss bits ys with
  | false =>
    rw [hp] at HE HV
    clear hpos hp
    go_enter Try.func39, Try.ntmps39
    go_wp2_with fail
    refine HV.out.mono ?_
    rintro e w1 ⟨A1, c1, rfl, o1, b1⟩
    have B1 := Lib.hid b1
    clear o1 b1
    go_wp2
    go_ret
    exact ⟨ret_bool (by rw [HE.out]; rfl), B1.out⟩
  | true =>
    rw [hp] at HE HV
    have hpos := hpos hp
    clear hp
    have HQ := Lib.hid (evenL_eq R)
    go_enter Try.func39, Try.ntmps39
    go_wp2_with fail
    refine HV.out.mono ?_
    rintro e w1 ⟨A1, c1, rfl, o1, b1⟩
    have B1 := Lib.hid b1
    have O1 := Lib.hid o1.rd
    clear o1 b1
    go_wp2_with fail
    refine (sliceMin_any A1 c1 _ R w1 O1.out hpos (by omega)).mono ?_
    rintro e w' ⟨rfl, rfl⟩
    go_wp2_with fail
    refine (sliceMax_any A1 c1 _ R w1 O1.out hpos (by omega)).mono ?_
    rintro e w' ⟨rfl, rfl⟩
    go_wp2
    go_ret
    exact ⟨ret_bool (by rw [HE.out, ← HQ.out]; rfl), B1.out⟩
/-! ### The law (laws_gen.py) -/
end Go.Proofs.Ytjkcdnfmmfpbjaa.Box

/- Plain mathematics: the ways to write a number as a sum, and rows taken off matrices. No program in sight. -/
import Derived.Test.YtjkcdnfmmfpbjaaRankMath
set_option linter.unusedVariables false
namespace Go.Proofs.Ytjkcdnfmmfpbjaa.Ways
open Go.Proofs.Ytjkcdnfmmfpbjaa.RankM
/-- a list with one more number behind it, so that the sum is at most, or at last just, the total -/
def ext (total : Nat) (last : Bool) (cs : List Nat) : List (List Nat) :=
  ((List.range (total - cs.sum + 1)).filter fun x => !(last && decide (x < total - cs.sum))).map fun x => cs ++ [x]
def wayL (total parts : Nat) : Nat → List (List Nat)
  | 0 => [[]]
  | k + 1 => (wayL total parts k).flatMap (ext total (decide (k + 1 = parts)))
theorem mem_ext {total : Nat} {last : Bool} {cs ds : List Nat} : ds ∈ ext total last cs ↔ ∃ x, x ≤ total - cs.sum ∧ (last = true → x = total - cs.sum) ∧ ds = cs ++ [x] := by
  unfold ext
  simp only [List.mem_map, List.mem_filter, List.mem_range]
  constructor
  · rintro ⟨x, ⟨h1, h2⟩, rfl⟩
    refine ⟨x, by omega, fun hl => ?_, rfl⟩
    subst hl
    simp only [Bool.true_and, Bool.not_eq_true', decide_eq_false_iff_not] at h2
    omega
  · rintro ⟨x, h1, h2, rfl⟩
    refine ⟨x, ⟨by omega, ?_⟩, rfl⟩
    cases last
    · rfl
    · have := h2 rfl
      simp only [Bool.true_and, Bool.not_eq_true', decide_eq_false_iff_not]
      omega
theorem ext_len (total : Nat) (last : Bool) (cs : List Nat) : (ext total last cs).length ≤ total + 1 := by
  unfold ext
  rw [List.length_map]
  refine Nat.le_trans (List.length_filter_le _ _) ?_
  rw [List.length_range]; omega
theorem flat_len {f : List Nat → List (List Nat)} {m : Nat} (hf : ∀ c, (f c).length ≤ m) : ∀ L : List (List Nat), (L.flatMap f).length ≤ m * L.length
  | [] => by simp
  | a :: L => by
    have := flat_len hf L
    have := hf a
    rw [List.flatMap_cons, List.length_append, List.length_cons, Nat.mul_add]
    omega
theorem wayL_len (total parts : Nat) (h : total ≤ 6) : ∀ k, (wayL total parts k).length ≤ 7 ^ k
  | 0 => by simp [wayL]
  | k + 1 => by
    rw [wayL, Nat.pow_succ]
    refine Nat.le_trans (flat_len (m := 7) (fun c => Nat.le_trans (ext_len _ _ _) (by omega)) _) ?_
    have := wayL_len total parts h k
    omega
theorem wayL_mem (total parts : Nat) : ∀ k, k ≤ parts → ∀ cs, cs ∈ wayL total parts k ↔ cs.length = k ∧ cs.sum ≤ total ∧ (k = parts → k ≠ 0 → cs.sum = total)
  | 0, _, cs => by
    rw [wayL, List.mem_singleton]
    constructor
    · rintro rfl; exact ⟨rfl, by simp, fun _ h => absurd rfl h⟩
    · intro h; exact List.eq_nil_of_length_eq_zero h.1
  | k + 1, hk, cs => by
    rw [wayL, List.mem_flatMap]
    constructor
    · rintro ⟨ds, h1, h2⟩
      obtain ⟨g1, g2, _⟩ := (wayL_mem total parts k (by omega) ds).1 h1
      obtain ⟨x, e1, e2, rfl⟩ := mem_ext.1 h2
      simp only [List.length_append, List.length_cons, List.length_nil, List.sum_append, List.sum_cons, List.sum_nil]
      refine ⟨by omega, by omega, fun hp _ => ?_⟩
      have := e2 (by simpa using hp)
      omega
    · rintro ⟨h1, h2, h3⟩
      obtain ⟨ds, x, rfl⟩ : ∃ ds x, cs = ds ++ [x] := by
        refine ⟨cs.dropLast, cs.getLast (by intro e; subst e; simp at h1), (List.dropLast_concat_getLast _).symm⟩
      simp only [List.length_append, List.length_cons, List.length_nil, List.sum_append, List.sum_cons, List.sum_nil] at h1 h2 h3
      refine ⟨ds, (wayL_mem total parts k (by omega) ds).2 ⟨by omega, by omega, fun hp hk => absurd hp (by omega)⟩, mem_ext.2 ⟨x, by omega, fun hl => ?_, rfl⟩⟩
      have := h3 (by simpa using hl) (by omega)
      omega
theorem wayL_all {total parts : Nat} (h : 0 < parts) (cs : List Nat) : cs ∈ wayL total parts parts ↔ cs.length = parts ∧ cs.sum = total := by
  rw [wayL_mem total parts parts (Nat.le_refl _)]
  constructor
  · rintro ⟨h1, _, h3⟩; exact ⟨h1, h3 rfl (by omega)⟩
  · rintro ⟨h1, h2⟩; exact ⟨h1, by omega, fun _ _ => h2⟩
/-- the first rows of matrices -/
def tks : List (List Nat) → List Nat → List Nat
  | M :: Ms, c :: cs => M.take c ++ tks Ms cs
  | _, _ => []
theorem tks_nil (cs : List Nat) : tks [] cs = [] := by cases cs <;> rfl
theorem tks_snoc : ∀ (Ms : List (List Nat)) (cs : List Nat) (d : Nat), d < Ms.length → d < cs.length → tks (Ms.take (d + 1)) (cs.take (d + 1)) = tks (Ms.take d) (cs.take d) ++ (Ms.getD d []).take (cs.getD d 0)
  | [], _, d, h, _ => by simp at h
  | _ :: _, [], d, _, h => by simp at h
  | M :: Ms, c :: cs, 0, _, _ => by simp [tks, List.getD]
  | M :: Ms, c :: cs, d + 1, h1, h2 => by
    have := tks_snoc Ms cs d (by simpa using h1) (by simpa using h2)
    simp only [List.take_succ_cons, tks, this, List.append_assoc]
    simp [List.getD]
theorem tks_le : ∀ (Ms : List (List Nat)) (cs : List Nat), (tks Ms cs).length ≤ cs.sum
  | [], cs => by rw [tks_nil]; simp
  | _ :: _, [] => by simp [tks]
  | M :: Ms, c :: cs => by
    have := tks_le Ms cs
    simp only [tks, List.length_append, List.length_take, List.sum_cons]
    omega
/-- the first rows of matrices, for all ways to divide a number of them, are independent together with some -/
def IndFor (Ms : List (List Nat)) (left : Nat) (rows : List Nat) : Prop := ∀ cs : List Nat, cs.length = Ms.length → cs.sum = left → Ind (rows ++ tks Ms cs)
theorem indFor_one (M : List Nat) (left : Nat) (rows : List Nat) : IndFor [M] left rows ↔ Ind (rows ++ M.take left) := by
  constructor
  · intro h
    have := h [left] rfl (by simp)
    simpa [tks] using this
  · intro h cs hl hs
    obtain ⟨c, rfl⟩ : ∃ c, cs = [c] := List.length_eq_one_iff.1 hl
    obtain rfl : c = left := by simpa using hs
    simpa [tks] using h
theorem indFor_more (M : List Nat) (Ms : List (List Nat)) (left : Nat) (rows : List Nat) : IndFor (M :: Ms) left rows ↔ ∀ many, many ≤ left → IndFor Ms (left - many) (rows ++ M.take many) := by
  constructor
  · intro h many hm cs hl hs
    have := h (many :: cs) (by simp [hl]) (by simp [hs]; omega)
    simpa [tks] using this
  · intro h cs hl hs
    cases cs with
    | nil => simp at hl
    | cons c cs =>
      have := h c (by simp at hs; omega) cs (by simpa using hl) (by simp at hs; omega)
      simpa [tks] using this
theorem indFor_zero (Ms : List (List Nat)) : IndFor Ms 0 [] := fun cs hl hs => by
  have := tks_le Ms cs
  have e : tks Ms cs = [] := List.eq_nil_of_length_eq_zero (by omega)
  rw [e]; exact Ind.nil
theorem indFor_ways {Ms : List (List Nat)} (h : 0 < Ms.length) (left : Nat) : IndFor Ms left [] ↔ ∀ cs ∈ wayL left Ms.length Ms.length, Ind (tks Ms cs) := by
  constructor
  · intro k cs hc
    obtain ⟨h1, h2⟩ := (wayL_all h cs).1 hc
    have := k cs h1 h2
    simpa using this
  · intro k cs hl hs
    have := k cs ((wayL_all h cs).2 ⟨hl, hs⟩)
    simpa using this
/-- the quality of a net -/
def IsQ (b : Nat) (Ms : List (List Nat)) (t : Nat) : Prop := t ≤ b ∧ IndFor Ms (b - t) [] ∧ ∀ s, s < t → ¬ IndFor Ms (b - s) []
theorem IsQ.uniq {b : Nat} {Ms : List (List Nat)} {s t : Nat} (h : IsQ b Ms s) (k : IsQ b Ms t) : s = t := by
  rcases Nat.lt_trichotomy s t with g | g | g
  · exact absurd h.2.1 (k.2.2 s g)
  · exact g
  · exact absurd k.2.1 (h.2.2 t g)
end Go.Proofs.Ytjkcdnfmmfpbjaa.Ways

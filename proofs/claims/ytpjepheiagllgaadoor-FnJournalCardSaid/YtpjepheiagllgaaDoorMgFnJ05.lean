/- The journal of lines, of the reference. -/
import Derived.Test.YtpjepheiagllgaaDoorMgFnJ02
import Derived.Test.YtpjepheiagllgaaDoorMgFnJ04
import Derived.Laws.Concat
namespace Go.Proofs.YtpjepheiagllgaaDoor.Jour
open Go.RowKit Go.Proofs.YtpjepheiagllgaaDoor Go.Proofs.YtpjepheiagllgaaDoor.Base Go.Proofs.YtpjepheiagllgaaDoor.Mem Go.Proofs.YtpjepheiagllgaaDoor.Dec Go.Proofs.YtpjepheiagllgaaDoor.LabM
set_option linter.unusedVariables false
def lineJ (c : Nat) (s : ByteArray) : List UInt8 := Lib.decDigits c ++ [32] ++ s.data.toList ++ [10]
def getT (ss : List ByteArray) (i : Nat) : ByteArray := ss.getD i ByteArray.empty
def ckTo (ss : List ByteArray) : Nat → Nat
 | 0 => 0
 | i + 1 => chk (ckTo ss i) (getT ss i)
theorem ckTo_lt (ss : List ByteArray) : ∀ i, ckTo ss i < 999983
 | 0 => by show 0 < 999983; decide
 | i + 1 => chk_lt (ckTo_lt ss i) _
def jourTo (ss : List ByteArray) : Nat → List UInt8
 | 0 => []
 | i + 1 => jourTo ss i ++ lineJ (ckTo ss (i + 1)) (getT ss i)
def sumJ (ss : List ByteArray) : Nat → Nat
 | 0 => 0
 | i + 1 => sumJ ss i + ((getT ss i).size + 3)
theorem dec_len {u : Nat} (h : u < 1000000) : 1 ≤ (Lib.decDigits u).length ∧ (Lib.decDigits u).length ≤ 6 := by
 rw [Lib.decDigits_length]
 refine ⟨Lib.nDigits_pos u, ?_⟩
 rw [← Lib.decDigits_length]
 by_cases h0 : u = 0
 ·subst h0; rw [Lib.decDigits_one (by decide)]; simp
 ·rw [← rd_rev u (by omega), List.length_reverse]
  exact rd_len 6 u h
theorem lineJ_len (c : Nat) (s : ByteArray) (h : c < 1000000) : s.size + 3 ≤ (lineJ c s).length ∧ (lineJ c s).length ≤ s.size + 8 := by
 have := dec_len h
 have hs : s.data.toList.length = s.size := by rw [Array.length_toList]; rfl
 simp only [lineJ, List.length_append, List.length_cons, List.length_nil, hs]
 omega
theorem jourTo_len (ss : List ByteArray) : ∀ i, sumJ ss i ≤ (jourTo ss i).length ∧ (jourTo ss i).length ≤ 3 * sumJ ss i
 | 0 => by simp [sumJ, jourTo]
 | i + 1 => by
  have h1 := jourTo_len ss i
  have h2 := lineJ_len (ckTo ss (i + 1)) (getT ss i) (by have := ckTo_lt ss (i + 1); omega)
  rw [sumJ, jourTo, List.length_append]
  omega
theorem jourTo_mono (ss : List ByteArray) {i : Nat} : ∀ n, i ≤ n → (jourTo ss i).length ≤ (jourTo ss n).length
  | 0, h => by obtain rfl : i = 0 := by omega
               exact Nat.le_refl _
  | n + 1, h => by
    by_cases e : i = n + 1
    · subst e; exact Nat.le_refl _
    · have := jourTo_mono ss (i := i) n (by omega)
      rw [jourTo, List.length_append]; omega
theorem sumJ_mono (ss : List ByteArray) {i : Nat} : ∀ n, i ≤ n → sumJ ss i ≤ sumJ ss n
  | 0, h => by obtain rfl : i = 0 := by omega
               exact Nat.le_refl _
  | n + 1, h => by
    by_cases e : i = n + 1
    · subst e; exact Nat.le_refl _
    · have := sumJ_mono ss (i := i) n (by omega)
      rw [sumJ]; omega
def nlIn (s : ByteArray) : Nat → Bool
 | 0 => false
 | i + 1 => nlIn s i || (if h : i < s.size then decide ((s[i]'h).toNat = 10) else false)
theorem nlIn_yes {s : ByteArray} {i : Nat} (h : nlIn s i = true) : ∀ n, i ≤ n → nlIn s n = true
  | 0, hn => by obtain rfl : i = 0 := by omega
                exact h
  | n + 1, hn => by
    by_cases e : i = n + 1
    · subst e; exact h
    · rw [nlIn, nlIn_yes h n (by omega)]; rfl
def nlB (s : ByteArray) : Bool := nlIn s s.size
def nlTo (ss : List ByteArray) : Nat → Bool
 | 0 => false
 | i + 1 => nlTo ss i || nlB (getT ss i)
theorem nlTo_yes {ss : List ByteArray} {i : Nat} (h : nlTo ss i = true) : ∀ n, i ≤ n → nlTo ss n = true
  | 0, hn => by obtain rfl : i = 0 := by omega
                exact h
  | n + 1, hn => by
    by_cases e : i = n + 1
    · subst e; exact h
    · rw [nlTo, nlTo_yes h n (by omega)]; rfl
def jourB (ss : List ByteArray) : Bool := !nlTo ss ss.length && decide ((jourTo ss ss.length).length ≤ 4000)
def jourR (ss : List ByteArray) : List UInt8 := if jourB ss = true then jourTo ss ss.length else []
theorem jourB_nl {ss : List ByteArray} {i : Nat} (hi : i ≤ ss.length) (h : nlTo ss i = true) : jourB ss = false := by rw [jourB, nlTo_yes h _ hi]; rfl
theorem jourB_len {ss : List ByteArray} {i : Nat} (hi : i ≤ ss.length) (h : 4000 < (jourTo ss i).length) : jourB ss = false := by
 have := jourTo_mono ss _ hi
 rw [jourB, decide_eq_false (by omega), Bool.and_false]
theorem jourB_yes {ss : List ByteArray} (h : nlTo ss ss.length = false) (h2 : (jourTo ss ss.length).length ≤ 4000) : jourB ss = true := by rw [jourB, h, decide_eq_true h2]; rfl
theorem strAdd {a b c : ByteArray} (h : a ++ b = c) (hs : a.size + b.size ≤ 9223372036854775807) (w : World) : (Op.stringOp .add a b).run Tryd.prog w = .ok (.string c) w := by
 rw [run_string_add_sum w a b (by omega), h]
def JourRet (ss : List ByteArray) (w : World) (e : Ending) (w' : World) : Prop := e = .returned (.tuple #[.string (tx (jourR ss)), .bool (jourB ss)]) ∧ Below w.heap.size w w'
theorem JourRet.no {ss : List ByteArray} {w w' : World} (h : jourB ss = false) (hb : Below w.heap.size w w') : JourRet ss w (.returned (.tuple #[.string { data := #[] }, .bool false])) w' := by
 refine ⟨?_, hb⟩
 rw [jourR, h]
 rfl
end Go.Proofs.YtpjepheiagllgaaDoor.Jour

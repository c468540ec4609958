/- A journal that is recovered: the reference. -/
import Derived.Test.YtogadldnkhdjbaaDoorRec
namespace Go.Proofs.YtogadldnkhdjbaaDoor.RecJ
open Go.RowKit Go.Proofs.YtogadldnkhdjbaaDoor Go.Proofs.YtogadldnkhdjbaaDoor.Base Go.Proofs.YtogadldnkhdjbaaDoor.Mem Go.Proofs.YtogadldnkhdjbaaDoor.Dec Go.Proofs.YtogadldnkhdjbaaDoor.LabM Go.Proofs.YtogadldnkhdjbaaDoor.Jour
set_option linter.unusedVariables false
theorem cut_no (s : ByteArray) (c : UInt8) (w : World) (h : At s.data.toList c none) :
    Calls Tryd.prog 31 #[.string s, .string ⟨#[c]⟩] w fun e w' => e = .returned (.tuple #[.string s, .string { data := #[] }, .bool false]) ∧ w = w' := by
  go_enter Tryd.func31, Tryd.ntmps31
  go_wp2_with (go_at_call 55; refine (cutIn_no s c _ h).mono ?_; rintro e w' ⟨rfl, rfl⟩)
  go_ret3
  exact ⟨rfl, rfl⟩
theorem cut_yes (s : ByteArray) (c : UInt8) (o : Nat) (w : World) (h : At s.data.toList c (some o)) (hs : s.size ≤ 1048576) :
    Calls Tryd.prog 31 #[.string s, .string ⟨#[c]⟩] w fun e w' => e = .returned (.tuple #[.string (tx (s.data.toList.take o)), .string (tx (s.data.toList.drop (o + 1))), .bool true]) ∧ ∃ n, w' = w.drewN n := by
  have HC := Lib.hid (cutIn_yes s c o w h hs)
  generalize tx (s.data.toList.take o) = a at *
  generalize tx (s.data.toList.drop (o + 1)) = b at *
  go_enter Tryd.func31, Tryd.ntmps31
  go_wp2_with (go_at_call 55; refine HC.out.mono ?_; rintro e w' ⟨rfl, n, rfl⟩)
  go_ret3
  exact ⟨rfl, n, rfl⟩
/-- texts of lists of bytes -/
def txs (ls : List (List UInt8)) : List ByteArray := ls.map tx
theorem txs_len (ls : List (List UInt8)) : (txs ls).length = ls.length := by simp [txs]
theorem txs_get (ls : List (List UInt8)) (i : Nat) (h : i < ls.length) : (txs ls).getD i ByteArray.empty = tx (ls.getD i []) := by simp [txs, List.getD, h]
/-- lines that are found -/
def LnTo (s : ByteArray) (w : World) (v fv iv : Value) (wr : World) : Prop :=
  ∃ (f i : Nat) (D : List (List UInt8)), f ≤ i ∧ i ≤ s.size ∧ D.length ≤ i ∧ fv = .int .i64 (f : Int) ∧ iv = .int .i64 (i : Int) ∧ Hid (linesR s.data.toList = D ++ linesR (s.data.toList.drop f)) ∧ Hid (∀ j, f ≤ j → j < i → s.data.toList[j]? ≠ some 10) ∧
    Hid (wr.ownsRow w.heap.size 9 1 v D.length (texts (txs D))) ∧ Hid (Below w.heap.size w wr)
theorem own_txt {w3 : World} {B : Nat} {v' : Value} {D : List (List UInt8)} {x : List UInt8} (h : w3.ownsRow B 9 1 v' (D.length + 1) (texts (txs D) ++ [.string (tx x)])) : w3.ownsRow B 9 1 v' (D ++ [x]).length (texts (txs (D ++ [x]))) := by
  have e : texts (txs (D ++ [x])) = texts (txs D) ++ [.string (tx x)] := by simp [texts, txs]
  rw [e]
  simpa using h
theorem grow_below {w wr w3 : World} {v : Value} {n : Nat} {xs : List Value} {o : Obj} {e : TypeId} (hO : wr.ownsRow w.heap.size e 1 v n xs) (hb : Below w.heap.size w wr) (h2 : (wr.alloc o).grownBy w3 v.ownBlock) : Below w.heap.size w w3 :=
  hb.trans (((Below.refl wr.heap.size wr).alloc (Nat.le_refl _) _ |>.mono hb.size).trans (grown_below h2 (fun g e => by obtain ⟨_, _, q, _⟩ := ownsRow_block hO e; exact q) (by have := hb.size; simp; omega)))
/-- lines as l11Lines returns them -/
def LinesRet (s : ByteArray) (w : World) (e : Ending) (w' : World) : Prop := ∃ (A : Option Addr) (c : Nat) (rest : ByteArray), e = .returned (.tuple #[.slice A (linesR s.data.toList).length c, .string rest]) ∧ RdT w' w'.heap.size A (txs (linesR s.data.toList)) ∧ Below w.heap.size w w'
/-! ### What is recovered -/
noncomputable def recO (t : ByteArray) : List (List UInt8) × Nat := if t.size ≤ 4000 then recL 0 (linesR t.data.toList) else ([], 0)
def RecRet (t : ByteArray) (w : World) (e : Ending) (w' : World) : Prop := ∃ (A : Option Addr) (c : Nat), e = .returned (.tuple #[.slice A (recO t).1.length c, .int .i64 ((recO t).2 : Nat), .bool (decide (t.size ≤ 4000))]) ∧ OwnT w' w.heap.size (.slice A (recO t).1.length c) (txs (recO t).1) ∧ Below w.heap.size w w'
theorem RecRet.no {t : ByteArray} {w : World} (h : 4000 < t.size) : RecRet t w (.returned (.tuple #[.slice none 0 0, .int .i64 0, .bool false])) w := by
  have e : recO t = ([], 0) := by rw [recO, if_neg (by omega)]
  refine ⟨none, 0, ?_, ?_, Below.refl _ _⟩
  · rw [e, decide_eq_false (by omega)]; rfl
  · rw [e]; exact World.ownsRow_nil _ _ _ _
theorem RecRet.yes {t : ByteArray} {w w' : World} {A : Option Addr} {c u : Nat} {D : List (List UInt8)} (h : t.size ≤ 4000) (hR : recL 0 (linesR t.data.toList) = (D, u)) (hO : w'.ownsRow w.heap.size 9 1 (.slice A D.length c) D.length (texts (txs D))) (hb : Below w.heap.size w w') :
    RecRet t w (.returned (.tuple #[.slice A D.length c, .int .i64 (u : Int), .bool true])) w' := by
  have e : recO t = (D, u) := by rw [recO, if_pos h, hR]
  refine ⟨A, c, ?_, ?_, hb⟩
  · rw [e, decide_eq_true h]
  · rw [e]; unfold OwnT; rw [txs_len]; exact hO
/-- what is recovered so far -/
def RcTo (w : World) (R : List (List UInt8) × Nat) (ls : List (List UInt8)) (i c u : Nat) (v : Value) (wr : World) : Prop :=
  ∃ D : List (List UInt8), D.length ≤ i ∧ Hid (R = (D ++ (recL c (ls.drop i)).1, u + (recL c (ls.drop i)).2)) ∧ Hid (wr.ownsRow w.heap.size 9 1 v D.length (texts (txs D))) ∧ Hid (Below w.heap.size w wr)
theorem byte_at {s : ByteArray} {i x : Nat} (h : i < s.size) (hx : (s[i]'h).toNat = x) : s.data.toList[i]? = some (UInt8.ofNat x) := by
  have hsz : s.data.toList.length = s.size := by rw [Array.length_toList]; rfl
  rw [← hx, List.getElem?_eq_getElem (by omega)]
  congr 1
  apply UInt8.toNat_inj.1
  simp
  rfl
end Go.Proofs.YtogadldnkhdjbaaDoor.RecJ

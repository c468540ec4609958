/- A journal that is recovered: texts that are cut, lines; the reference. -/
import Derived.Test.YtpjepheiagllgaaDoorMgFnJ06
namespace Go.Proofs
open Go.Shelf
def YtpjepheiagllgaaDoor.lays219_ren : Go.Shelf.Ren := ⟨fun | 219 => 43 | 217 => 50 | 225 => 51 | 224 => 52 | 267 => 53 | 266 => 56 | 314 => 57 | n => n, fun | 9 => 9 | 3 => 3 | 4 => 4 | 5 => 5 | 46 => 74 | 146 => 99 | 51 => 93 | n => n, fun | 1 => 1 | n => n⟩
theorem YtpjepheiagllgaaDoor.lays219 : Go.Proofs.Lays.n219 Tryd.prog YtpjepheiagllgaaDoor.lays219_ren := {
 mixed := by kernel_rfl
 f217 := Tryd.func50.trans (congrArg some (by kernel_rfl))
 f219 := Tryd.func43.trans (congrArg some (by kernel_rfl))
 f224 := Tryd.func52.trans (congrArg some (by kernel_rfl))
 f225 := Tryd.func51.trans (congrArg some (by kernel_rfl))
 f266 := Tryd.func56.trans (congrArg some (by kernel_rfl))
 f267 := Tryd.func53.trans (congrArg some (by kernel_rfl))
 f314 := Tryd.func57.trans (congrArg some (by kernel_rfl))
 t3 := Tryd.underlying3
 a3 := Tryd.isAgg3
 z3 := Tryd.sizeOf3
 v3 := Tryd.zeroValue3
 t4 := Tryd.underlying4
 a4 := Tryd.isAgg4
 z4 := Tryd.sizeOf4
 v4 := Tryd.zeroValue4
 t5 := Tryd.underlying5
 a5 := Tryd.isAgg5
 z5 := Tryd.sizeOf5
 v5 := Tryd.zeroValue5
 t9 := Tryd.underlying9
 a9 := Tryd.isAgg9
 z9 := Tryd.sizeOf9
 v9 := Tryd.zeroValue9
 t46 := Tryd.underlying74
 a46 := Tryd.isAgg74
 z46 := Tryd.sizeOf74
 v46 := Tryd.zeroValue74
 t51 := Tryd.underlying93
 a51 := Tryd.isAgg93
 z51 := Tryd.sizeOf93
 v51 := Tryd.zeroValue93
 t146 := Tryd.underlying99
 a146 := Tryd.isAgg99
 z146 := Tryd.sizeOf99
 v146 := Tryd.zeroValue99
 g1 := by kernel_rfl }
end Go.Proofs
namespace Go.Proofs.YtpjepheiagllgaaDoor.RecJ
open Go.RowKit Go.Proofs.YtpjepheiagllgaaDoor Go.Proofs.YtpjepheiagllgaaDoor.Base Go.Proofs.YtpjepheiagllgaaDoor.Mem Go.Proofs.YtpjepheiagllgaaDoor.Dec Go.Proofs.YtpjepheiagllgaaDoor.LabM Go.Proofs.YtpjepheiagllgaaDoor.Jour
set_option linter.unusedVariables false
theorem ext_tx (s : ByteArray) (a b : Nat) : s.extract a b = tx ((s.data.toList.take b).drop a) := by
 apply tx_ext
 rw [list_tx]
 rw [List.drop_take]
 simp [ByteArray.extract, ByteArray.copySlice]
inductive At (l : List UInt8) (c : UInt8) : Option Nat → Prop
 | no : Lib.indexByte l c = -1 → At l c none
 | yes {o : Nat} : Lib.indexByte l c = o → o < l.length → At l c (some o)
theorem at_any (l : List UInt8) (c : UInt8) : At l c none ∨ ∃ o, At l c (some o) := by
 by_cases h : Lib.indexByte l c = -1
 ·exact .inl (.no h)
 ·have h0 := Lib.indexByte_ge l c
  obtain ⟨o, ho⟩ := Int.eq_ofNat_of_zero_le (show 0 ≤ Lib.indexByte l c by omega)
  exact .inr ⟨o, .yes ho (List.getElem?_eq_some_iff.1 (Lib.indexByte_some ho).1).1⟩
theorem At.of {l : List UInt8} {c : UInt8} {o : Nat} (h : l[o]? = some c) (k : ∀ j, j < o → l[j]? ≠ some c) : At l c (some o) := by
 rcases at_any l c with h1 | ⟨p, h1⟩
 ·cases h1 with
  | no e => exact absurd h (Lib.indexByte_none e o)
 ·have hp := h1
  cases h1 with
  | yes e hlt =>
   obtain ⟨e1, e2⟩ := Lib.indexByte_some e
   have : p = o := by
    rcases Nat.lt_trichotomy p o with q | q | q
    ·exact absurd e1 (k p q)
    ·exact q
    ·exact absurd h (e2 o q)
   rw [← this]; exact hp
theorem At.none_of {l : List UInt8} {c : UInt8} (k : ∀ j, j < l.length → l[j]? ≠ some c) : At l c none := by
 rcases at_any l c with h1 | ⟨p, h1⟩
 ·exact h1
 ·cases h1 with
  | yes e hlt => exact absurd (Lib.indexByte_some e).1 (k p hlt)
noncomputable def posOf (l : List UInt8) (c : UInt8) : Option Nat := if Lib.indexByte l c = -1 then none else some (Lib.indexByte l c).toNat
theorem At.pos {l : List UInt8} {c : UInt8} {a : Option Nat} (h : At l c a) : posOf l c = a := by
 cases h with
 | no e => rw [posOf, if_pos e]
 | yes e _ => rw [posOf, if_neg (by omega), e]; rfl
theorem pos_at (l : List UInt8) (c : UInt8) : At l c (posOf l c) := by
 rcases at_any l c with h | ⟨o, h⟩
 ·rw [h.pos]; exact h
 ·rw [h.pos]; exact h
def chkL (c : Nat) (l : List UInt8) : Nat := chk c (tx l)
noncomputable def recL : Nat → List (List UInt8) → List (List UInt8) × Nat
 | _, [] => ([], 0)
 | c, e :: r => match posOf e 32 with
  | none => ([], 0)
  | some p => if Lib.decDigits (chkL c (e.drop (p + 1))) = e.take p then
    (e.drop (p + 1) :: (recL (chkL c (e.drop (p + 1))) r).1, e.length + 1 + (recL (chkL c (e.drop (p + 1))) r).2) else ([], 0)
noncomputable def linesR (l : List UInt8) : List (List UInt8) := match h : posOf l 10 with
 | none => []
 | some o => l.take o :: linesR (l.drop (o + 1))
termination_by l.length
decreasing_by
 have := pos_at l 10
 rw [h] at this
 cases this with
 | yes e hlt => rw [List.length_drop]; omega
theorem linesR_no {l : List UInt8} (h : At l 10 none) : linesR l = [] := by
 rw [linesR]
 split
 ·rfl
 ·rename_i o ho
  rw [h.pos] at ho; cases ho
theorem linesR_yes {l : List UInt8} {o : Nat} (h : At l 10 (some o)) : linesR l = l.take o :: linesR (l.drop (o + 1)) := by
 rw [linesR]
 split
 ·rename_i ho
  rw [h.pos] at ho; cases ho
 ·rename_i p hp
  rw [h.pos] at hp; cases hp; rfl
theorem recL_no {c : Nat} {e : List UInt8} {r : List (List UInt8)} (h : At e 32 none) : recL c (e :: r) = ([], 0) := by rw [recL, h.pos]
theorem recL_bad {c p : Nat} {e : List UInt8} {r : List (List UInt8)} (h : At e 32 (some p)) (k : Lib.decDigits (chkL c (e.drop (p + 1))) ≠ e.take p) : recL c (e :: r) = ([], 0) := by
 rw [recL, h.pos]
 simp only [if_neg k]
theorem recL_yes {c p : Nat} {e : List UInt8} {r : List (List UInt8)} (h : At e 32 (some p)) (k : Lib.decDigits (chkL c (e.drop (p + 1))) = e.take p) : recL c (e :: r) = (e.drop (p + 1) :: (recL (chkL c (e.drop (p + 1))) r).1, e.length + 1 + (recL (chkL c (e.drop (p + 1))) r).2) := by
 rw [recL, h.pos]
 simp only [if_pos k]
set_option maxHeartbeats 2000000 in
set_option maxRecDepth 100000 in
theorem cutIn_no (s : ByteArray) (c : UInt8) (w : World) (h : At s.data.toList c none) :
  Calls Tryd.prog 32 #[.string s, .string ⟨#[c]⟩] w fun e w' => e = .returned (.tuple #[.string s, .string { data := #[] }, .bool false]) ∧ w = w' := by
 have hx : Lib.indexByte s.data.toList c = -1 := by cases h with | no e => exact e
 go_enter Tryd.func32, Tryd.ntmps32
 go_wp2_with (go_at_call 43; refine (Any.stringslite_Index_one YtpjepheiagllgaaDoor.lays219 s c _).mono ?_; rintro e w' ⟨rfl, rfl⟩; rw [hx])
 go_ret3
 exact ⟨rfl, rfl⟩
set_option maxHeartbeats 2000000 in
set_option maxRecDepth 100000 in
theorem cutIn_yes (s : ByteArray) (c : UInt8) (o : Nat) (w : World) (h : At s.data.toList c (some o)) (hs : s.size ≤ 1048576) :
  Calls Tryd.prog 32 #[.string s, .string ⟨#[c]⟩] w fun e w' => e = .returned (.tuple #[.string (tx (s.data.toList.take o)), .string (tx (s.data.toList.drop (o + 1))), .bool true]) ∧ ∃ n, w' = w.drewN n := by
 have hx : Lib.indexByte s.data.toList c = o := by cases h with | yes e _ => exact e
 have hsz : s.data.toList.length = s.size := by rw [Array.length_toList]; rfl
 have hlt : o < s.size := by rw [← hsz]; cases h with | yes _ e => exact e
 have c1 : (0 : Int) ≤ ↑o := by omega
 have c2 : (↑o : Int) ≤ ↑s.size := by omega
 have c3 : (0 : Int) ≤ ↑o + 1 := by omega
 have c4 : (↑o + 1 : Int) ≤ ↑s.size := by omega
 have mixed : Tryd.prog.follows .mixedOrders = true := by kernel_rfl
 have hw1 : IntKind.i64.wrap ((o : Int) + 1) = ((o + 1 : Nat) : Int) := by rw [IntKind.wrap_i64]; omega
 have hw2 : ((o : Int) + 1).toNat = o + 1 := by omega
 have E1 := Lib.hid (ext_tx s 0 o)
 have E2 := Lib.hid (ext_tx s (o + 1) s.size)
 have HSZ := Lib.hid hsz
 clear hsz
 go_enter Tryd.func32, Tryd.ntmps32
 go_wp2_with (go_at_call 43; refine (Any.stringslite_Index_one YtpjepheiagllgaaDoor.lays219 s c _).mono ?_; rintro e w' ⟨rfl, rfl⟩; rw [hx])
 go_region_o
 go_wp2
 go_ret3
 refine ⟨?_, 1, rfl⟩
 have e1 := E1.out
 have e2 := E2.out
 rw [List.drop_zero] at e1
 rw [List.take_of_length_le (by have := HSZ.out; omega)] at e2
 rw [← e1, ← e2]
 rfl
end Go.Proofs.YtpjepheiagllgaaDoor.RecJ
namespace Go.Proofs.YtpjepheiagllgaaDoor.RecJ
open Go.RowKit Go.Proofs.YtpjepheiagllgaaDoor Go.Proofs.YtpjepheiagllgaaDoor.Base Go.Proofs.YtpjepheiagllgaaDoor.Mem Go.Proofs.YtpjepheiagllgaaDoor.Dec Go.Proofs.YtpjepheiagllgaaDoor.LabM Go.Proofs.YtpjepheiagllgaaDoor.Jour
set_option linter.unusedVariables false
theorem cut_no (s : ByteArray) (c : UInt8) (w : World) (h : At s.data.toList c none) :
  Calls Tryd.prog 20 #[.string s, .string ⟨#[c]⟩] w fun e w' => e = .returned (.tuple #[.string s, .string { data := #[] }, .bool false]) ∧ w = w' := by
 go_enter Tryd.func20, Tryd.ntmps20
 go_wp2_with (go_at_call 32; refine (cutIn_no s c _ h).mono ?_; rintro e w' ⟨rfl, rfl⟩)
 go_ret3
 exact ⟨rfl, rfl⟩
theorem cut_yes (s : ByteArray) (c : UInt8) (o : Nat) (w : World) (h : At s.data.toList c (some o)) (hs : s.size ≤ 1048576) :
  Calls Tryd.prog 20 #[.string s, .string ⟨#[c]⟩] w fun e w' => e = .returned (.tuple #[.string (tx (s.data.toList.take o)), .string (tx (s.data.toList.drop (o + 1))), .bool true]) ∧ ∃ n, w' = w.drewN n := by
 have HC := Lib.hid (cutIn_yes s c o w h hs)
 generalize tx (s.data.toList.take o) = a at *
 generalize tx (s.data.toList.drop (o + 1)) = b at *
 go_enter Tryd.func20, Tryd.ntmps20
 go_wp2_with (go_at_call 32; refine HC.out.mono ?_; rintro e w' ⟨rfl, n, rfl⟩)
 go_ret3
 exact ⟨rfl, n, rfl⟩
def txs (ls : List (List UInt8)) : List ByteArray := ls.map tx
theorem txs_len (ls : List (List UInt8)) : (txs ls).length = ls.length := by simp [txs]
theorem txs_get (ls : List (List UInt8)) (i : Nat) (h : i < ls.length) : (txs ls).getD i ByteArray.empty = tx (ls.getD i []) := by simp [txs, List.getD, h]
theorem own_txt {w3 : World} {B : Nat} {v' : Value} {D : List (List UInt8)} {x : List UInt8} (h : w3.ownsRow B 9 1 v' (D.length + 1) (texts (txs D) ++ [.string (tx x)])) : w3.ownsRow B 9 1 v' (D ++ [x]).length (texts (txs (D ++ [x]))) := by
 have e : texts (txs (D ++ [x])) = texts (txs D) ++ [.string (tx x)] := by simp [texts, txs]
 rw [e]
 simpa using h
theorem grow_below {w wr w3 : World} {v : Value} {n : Nat} {xs : List Value} {o : Obj} {e : TypeId} (hO : wr.ownsRow w.heap.size e 1 v n xs) (hb : Below w.heap.size w wr) (h2 : (wr.alloc o).grownBy w3 v.ownBlock) : Below w.heap.size w w3 :=
 hb.trans (((Below.refl wr.heap.size wr).alloc (Nat.le_refl _) _ |>.mono hb.size).trans (grown_below h2 (fun g e => by obtain ⟨_, _, q, _⟩ := ownsRow_block hO e; exact q) (by have := hb.size; simp; omega)))
def LinesRet (s : ByteArray) (w : World) (e : Ending) (w' : World) : Prop := ∃ (A : Option Addr) (c : Nat) (rest : ByteArray), e = .returned (.tuple #[.slice A (linesR s.data.toList).length c, .string rest]) ∧ RdT w' w'.heap.size A (txs (linesR s.data.toList)) ∧ Below w.heap.size w w'
noncomputable def recO (t : ByteArray) : List (List UInt8) × Nat := if t.size ≤ 4000 then recL 0 (linesR t.data.toList) else ([], 0)
def RecRet (t : ByteArray) (w : World) (e : Ending) (w' : World) : Prop := ∃ (A : Option Addr) (c : Nat), e = .returned (.tuple #[.slice A (recO t).1.length c, .int .i64 ((recO t).2 : Nat), .bool (decide (t.size ≤ 4000))]) ∧ OwnT w' w.heap.size (.slice A (recO t).1.length c) (txs (recO t).1) ∧ Below w.heap.size w w'
theorem RecRet.no {t : ByteArray} {w : World} (h : 4000 < t.size) : RecRet t w (.returned (.tuple #[.slice none 0 0, .int .i64 0, .bool false])) w := by
 have e : recO t = ([], 0) := by rw [recO, if_neg (by omega)]
 refine ⟨none, 0, ?_, ?_, Below.refl _ _⟩
 ·rw [e, decide_eq_false (by omega)]; rfl
 ·rw [e]; exact World.ownsRow_nil _ _ _ _
theorem RecRet.yes {t : ByteArray} {w w' : World} {A : Option Addr} {c u : Nat} {D : List (List UInt8)} (h : t.size ≤ 4000) (hR : recL 0 (linesR t.data.toList) = (D, u)) (hO : w'.ownsRow w.heap.size 9 1 (.slice A D.length c) D.length (texts (txs D))) (hb : Below w.heap.size w w') :
  RecRet t w (.returned (.tuple #[.slice A D.length c, .int .i64 (u : Int), .bool true])) w' := by
 have e : recO t = (D, u) := by rw [recO, if_pos h, hR]
 refine ⟨A, c, ?_, ?_, hb⟩
 ·rw [e, decide_eq_true h]
 ·rw [e]; unfold OwnT; rw [txs_len]; exact hO
theorem byte_at {s : ByteArray} {i x : Nat} (h : i < s.size) (hx : (s[i]'h).toNat = x) : s.data.toList[i]? = some (UInt8.ofNat x) := by
 have hsz : s.data.toList.length = s.size := by rw [Array.length_toList]; rfl
 rw [← hx, List.getElem?_eq_getElem (by omega)]
 congr 1
 apply UInt8.toNat_inj.1
 simp
 rfl
end Go.Proofs.YtpjepheiagllgaaDoor.RecJ

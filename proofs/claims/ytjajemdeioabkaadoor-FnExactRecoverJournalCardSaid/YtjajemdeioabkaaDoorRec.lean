/- A journal that is recovered: texts that are cut, lines; the reference. -/
import Derived.Test.YtjajemdeioabkaaDoorJourI
namespace Go.Proofs
open Go.Shelf
def YtjajemdeioabkaaDoor.lays219_ren : Go.Shelf.Ren := ⟨fun | 219 => 58 | 217 => 64 | 225 => 65 | 224 => 66 | 267 => 67 | 266 => 70 | 314 => 71 | n => n, fun | 9 => 9 | 3 => 3 | 4 => 4 | 5 => 5 | 46 => 96 | 146 => 106 | 51 => 100 | n => n, fun | 1 => 1 | n => n⟩
theorem YtjajemdeioabkaaDoor.lays219 : Go.Proofs.Lays.n219 Tryd.prog YtjajemdeioabkaaDoor.lays219_ren := {
  mixed := by kernel_rfl
  f217 := Tryd.func64.trans (congrArg some (by kernel_rfl))
  f219 := Tryd.func58.trans (congrArg some (by kernel_rfl))
  f224 := Tryd.func66.trans (congrArg some (by kernel_rfl))
  f225 := Tryd.func65.trans (congrArg some (by kernel_rfl))
  f266 := Tryd.func70.trans (congrArg some (by kernel_rfl))
  f267 := Tryd.func67.trans (congrArg some (by kernel_rfl))
  f314 := Tryd.func71.trans (congrArg some (by kernel_rfl))
  t3 := Tryd.underlying3
  a3 := Tryd.isAgg3
  z3 := Tryd.sizeOf3
  v3 := Tryd.zeroValue3
  t4 := Tryd.underlying4
  a4 := Tryd.isAgg4
  z4 := Tryd.sizeOf4
  v4 := Tryd.zeroValue4
  t5 := Tryd.underlying5
  a5 := Tryd.isAgg5
  z5 := Tryd.sizeOf5
  v5 := Tryd.zeroValue5
  t9 := Tryd.underlying9
  a9 := Tryd.isAgg9
  z9 := Tryd.sizeOf9
  v9 := Tryd.zeroValue9
  t46 := Tryd.underlying96
  a46 := Tryd.isAgg96
  z46 := Tryd.sizeOf96
  v46 := Tryd.zeroValue96
  t51 := Tryd.underlying100
  a51 := Tryd.isAgg100
  z51 := Tryd.sizeOf100
  v51 := Tryd.zeroValue100
  t146 := Tryd.underlying106
  a146 := Tryd.isAgg106
  z146 := Tryd.sizeOf106
  v146 := Tryd.zeroValue106
  g1 := by kernel_rfl }
end Go.Proofs
namespace Go.Proofs.YtjajemdeioabkaaDoor.RecJ
open Go.RowKit Go.Proofs.YtjajemdeioabkaaDoor Go.Proofs.YtjajemdeioabkaaDoor.Base Go.Proofs.YtjajemdeioabkaaDoor.Mem Go.Proofs.YtjajemdeioabkaaDoor.Dec Go.Proofs.YtjajemdeioabkaaDoor.LabM Go.Proofs.YtjajemdeioabkaaDoor.Jour
set_option linter.unusedVariables false
/-! ### Plain texts -/
theorem ext_tx (s : ByteArray) (a b : Nat) : s.extract a b = tx ((s.data.toList.take b).drop a) := by
  apply tx_ext
  rw [list_tx]
  rw [List.drop_take]
  simp [ByteArray.extract, ByteArray.copySlice]
/-- the place of a byte -/
inductive At (l : List UInt8) (c : UInt8) : Option Nat → Prop
  | no : Lib.indexByte l c = -1 → At l c none
  | yes {o : Nat} : Lib.indexByte l c = o → o < l.length → At l c (some o)
theorem at_any (l : List UInt8) (c : UInt8) : At l c none ∨ ∃ o, At l c (some o) := by
  by_cases h : Lib.indexByte l c = -1
  · exact .inl (.no h)
  · have h0 := Lib.indexByte_ge l c
    obtain ⟨o, ho⟩ := Int.eq_ofNat_of_zero_le (show 0 ≤ Lib.indexByte l c by omega)
    exact .inr ⟨o, .yes ho (List.getElem?_eq_some_iff.1 (Lib.indexByte_some ho).1).1⟩
theorem At.uniq {l : List UInt8} {c : UInt8} {a b : Option Nat} (h : At l c a) (k : At l c b) : a = b := by
  cases h with
  | no h =>
    cases k with
    | no _ => rfl
    | yes k _ => omega
  | yes h _ =>
    cases k with
    | no k => omega
    | yes k _ => congr 1; omega
/-- a byte's place is known by what stands before it -/
theorem At.of {l : List UInt8} {c : UInt8} {o : Nat} (h : l[o]? = some c) (k : ∀ j, j < o → l[j]? ≠ some c) : At l c (some o) := by
  rcases at_any l c with h1 | ⟨p, h1⟩
  · cases h1 with
    | no e => exact absurd h (Lib.indexByte_none e o)
  · have hp := h1
    cases h1 with
    | yes e hlt =>
      obtain ⟨e1, e2⟩ := Lib.indexByte_some e
      have : p = o := by
        rcases Nat.lt_trichotomy p o with q | q | q
        · exact absurd e1 (k p q)
        · exact q
        · exact absurd h (e2 o q)
      rw [← this]; exact hp
theorem At.none_of {l : List UInt8} {c : UInt8} (k : ∀ j, j < l.length → l[j]? ≠ some c) : At l c none := by
  rcases at_any l c with h1 | ⟨p, h1⟩
  · exact h1
  · cases h1 with
    | yes e hlt => exact absurd (Lib.indexByte_some e).1 (k p hlt)
/-- where a byte stands first -/
noncomputable def posOf (l : List UInt8) (c : UInt8) : Option Nat := if Lib.indexByte l c = -1 then none else some (Lib.indexByte l c).toNat
theorem At.pos {l : List UInt8} {c : UInt8} {a : Option Nat} (h : At l c a) : posOf l c = a := by
  cases h with
  | no e => rw [posOf, if_pos e]
  | yes e _ => rw [posOf, if_neg (by omega), e]; rfl
theorem pos_at (l : List UInt8) (c : UInt8) : At l c (posOf l c) := by
  rcases at_any l c with h | ⟨o, h⟩
  · rw [h.pos]; exact h
  · rw [h.pos]; exact h
/-- the check number of a list of bytes -/
def chkL (c : Nat) (l : List UInt8) : Nat := chk c (tx l)
/-- what is recovered of lines -/
noncomputable def recL : Nat → List (List UInt8) → List (List UInt8) × Nat
  | _, [] => ([], 0)
  | c, e :: r => match posOf e 32 with
    | none => ([], 0)
    | some p => if Lib.decDigits (chkL c (e.drop (p + 1))) = e.take p then
        (e.drop (p + 1) :: (recL (chkL c (e.drop (p + 1))) r).1, e.length + 1 + (recL (chkL c (e.drop (p + 1))) r).2) else ([], 0)
/-- the lines of a text that end -/
noncomputable def linesR (l : List UInt8) : List (List UInt8) := match h : posOf l 10 with
  | none => []
  | some o => l.take o :: linesR (l.drop (o + 1))
termination_by l.length
decreasing_by
  have := pos_at l 10
  rw [h] at this
  cases this with
  | yes e hlt => rw [List.length_drop]; omega
theorem linesR_no {l : List UInt8} (h : At l 10 none) : linesR l = [] := by
  rw [linesR]
  split
  · rfl
  · rename_i o ho
    rw [h.pos] at ho; cases ho
theorem linesR_yes {l : List UInt8} {o : Nat} (h : At l 10 (some o)) : linesR l = l.take o :: linesR (l.drop (o + 1)) := by
  rw [linesR]
  split
  · rename_i ho
    rw [h.pos] at ho; cases ho
  · rename_i p hp
    rw [h.pos] at hp; cases hp; rfl
theorem recL_no {c : Nat} {e : List UInt8} {r : List (List UInt8)} (h : At e 32 none) : recL c (e :: r) = ([], 0) := by rw [recL, h.pos]
theorem recL_bad {c p : Nat} {e : List UInt8} {r : List (List UInt8)} (h : At e 32 (some p)) (k : Lib.decDigits (chkL c (e.drop (p + 1))) ≠ e.take p) : recL c (e :: r) = ([], 0) := by
  rw [recL, h.pos]
  simp only [if_neg k]
theorem recL_yes {c p : Nat} {e : List UInt8} {r : List (List UInt8)} (h : At e 32 (some p)) (k : Lib.decDigits (chkL c (e.drop (p + 1))) = e.take p) : recL c (e :: r) = (e.drop (p + 1) :: (recL (chkL c (e.drop (p + 1))) r).1, e.length + 1 + (recL (chkL c (e.drop (p + 1))) r).2) := by
  rw [recL, h.pos]
  simp only [if_pos k]
theorem linesR_len : ∀ (n : Nat) (l : List UInt8), l.length ≤ n → (linesR l).length ≤ l.length ∧ ∀ e, e ∈ linesR l → e.length ≤ l.length
  | 0, l, h => by
    obtain rfl : l = [] := List.eq_nil_of_length_eq_zero (by omega)
    rw [linesR_no (At.none_of (l := []) (c := 10) fun j hj => absurd hj (Nat.not_lt_zero j))]
    simp
  | n + 1, l, h => by
    rcases at_any l 10 with h1 | ⟨o, h1⟩
    · rw [linesR_no h1]; simp
    · rw [linesR_yes h1]
      cases h1 with
      | yes e hlt =>
        obtain ⟨i1, i2⟩ := linesR_len n (l.drop (o + 1)) (by rw [List.length_drop]; omega)
        rw [List.length_drop] at i1
        refine ⟨by rw [List.length_cons]; omega, fun x hx => ?_⟩
        rcases List.mem_cons.1 hx with rfl | hx
        · rw [List.length_take]; omega
        · have := i2 x hx; rw [List.length_drop] at this; omega
theorem recL_len : ∀ (ls : List (List UInt8)) (c : Nat), (recL c ls).1.length ≤ ls.length
  | [], c => by simp [recL]
  | e :: r, c => by
    rcases at_any e 32 with h | ⟨p, h⟩
    · rw [recL_no h]; simp
    · by_cases k : Lib.decDigits (chkL c (e.drop (p + 1))) = e.take p
      · rw [recL_yes h k]
        have := recL_len r (chkL c (e.drop (p + 1)))
        simp only [List.length_cons]; omega
      · rw [recL_bad h k]; simp
/-! ### strings.Cut at one byte -/
set_option maxHeartbeats 2000000 in
set_option maxRecDepth 100000 in
theorem cutIn_no (s : ByteArray) (c : UInt8) (w : World) (h : At s.data.toList c none) :
    Calls Tryd.prog 45 #[.string s, .string ⟨#[c]⟩] w fun e w' => e = .returned (.tuple #[.string s, .string { data := #[] }, .bool false]) ∧ w = w' := by
  have hx : Lib.indexByte s.data.toList c = -1 := by cases h with | no e => exact e
  go_enter Tryd.func45, Tryd.ntmps45
  go_wp2_with (go_at_call 58; refine (Any.stringslite_Index_one YtjajemdeioabkaaDoor.lays219 s c _).mono ?_; rintro e w' ⟨rfl, rfl⟩; rw [hx])
  go_ret3
  exact ⟨rfl, rfl⟩
set_option maxHeartbeats 2000000 in
set_option maxRecDepth 100000 in
theorem cutIn_yes (s : ByteArray) (c : UInt8) (o : Nat) (w : World) (h : At s.data.toList c (some o)) (hs : s.size ≤ 1048576) :
    Calls Tryd.prog 45 #[.string s, .string ⟨#[c]⟩] w fun e w' => e = .returned (.tuple #[.string (tx (s.data.toList.take o)), .string (tx (s.data.toList.drop (o + 1))), .bool true]) ∧ ∃ n, w' = w.drewN n := by
  have hx : Lib.indexByte s.data.toList c = o := by cases h with | yes e _ => exact e
  have hsz : s.data.toList.length = s.size := by rw [Array.length_toList]; rfl
  have hlt : o < s.size := by rw [← hsz]; cases h with | yes _ e => exact e
  have c1 : (0 : Int) ≤ ↑o := by omega
  have c2 : (↑o : Int) ≤ ↑s.size := by omega
  have c3 : (0 : Int) ≤ ↑o + 1 := by omega
  have c4 : (↑o + 1 : Int) ≤ ↑s.size := by omega
  have mixed : Tryd.prog.follows .mixedOrders = true := by kernel_rfl
  have hw1 : IntKind.i64.wrap ((o : Int) + 1) = ((o + 1 : Nat) : Int) := by rw [IntKind.wrap_i64]; omega
  have hw2 : ((o : Int) + 1).toNat = o + 1 := by omega
  have E1 := Lib.hid (ext_tx s 0 o)
  have E2 := Lib.hid (ext_tx s (o + 1) s.size)
  have HSZ := Lib.hid hsz
  clear hsz
  go_enter Tryd.func45, Tryd.ntmps45
  go_wp2_with (go_at_call 58; refine (Any.stringslite_Index_one YtjajemdeioabkaaDoor.lays219 s c _).mono ?_; rintro e w' ⟨rfl, rfl⟩; rw [hx])
  go_region_o
  go_wp2
  go_ret3
  refine ⟨?_, 1, rfl⟩
  have e1 := E1.out
  have e2 := E2.out
  rw [List.drop_zero] at e1
  rw [List.take_of_length_le (by have := HSZ.out; omega)] at e2
  rw [← e1, ← e2]
  rfl
end Go.Proofs.YtjajemdeioabkaaDoor.RecJ

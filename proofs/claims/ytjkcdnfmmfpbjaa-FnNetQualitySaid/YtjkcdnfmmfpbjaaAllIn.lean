/- allIn: whether all numbers of a list lie from one number to another; lengths. -/
import Derived.Test.YtjkcdnfmmfpbjaaMem
namespace Go.Proofs.Ytjkcdnfmmfpbjaa.AllIn
open Go.RowKit Go.Proofs.Ytjkcdnfmmfpbjaa Go.Proofs.Ytjkcdnfmmfpbjaa.Base Go.Proofs.Ytjkcdnfmmfpbjaa.Mem
set_option linter.unusedVariables false

def allInB (xs : List Int) (lo hi : Int) : Bool := xs.all fun x => inR x lo hi
theorem allInB_true {xs : List Int} {lo hi : Int} (h : allInB xs lo hi = true) (i : Nat) (hi' : i < xs.length) : lo ≤ xs.getD i 0 ∧ xs.getD i 0 ≤ hi := by
  have := List.all_eq_true.1 h (xs.getD i 0) (by simp [List.getD, hi'])
  exact inR_true this
theorem allInB_of {xs : List Int} {lo hi : Int} (h : ∀ i, i < xs.length → inR (xs.getD i 0) lo hi = true) : allInB xs lo hi = true := by
  refine List.all_eq_true.2 fun x hx => ?_
  obtain ⟨i, hi', rfl⟩ := List.getElem_of_mem hx
  have := h i hi'
  simpa [List.getD, hi'] using this
theorem allInB_no {xs : List Int} {lo hi : Int} {i : Nat} (h : i < xs.length) (hx : inR (xs.getD i 0) lo hi = false) : allInB xs lo hi = false := by
  cases h' : allInB xs lo hi
  · rfl
  · have := List.all_eq_true.1 h' (xs.getD i 0) (by simp [List.getD, h])
    rw [hx] at this; exact this.symm

theorem lenI_any (A : Option Addr) (n c : Nat) (w : World) (h : n ≤ 9223372036854775807) :
    Calls Try.prog 46 #[.slice A n c] w fun e w' => e = .returned (.int .i64 (n : Int)) ∧ w = w' := by
  go_enter Try.func46, Try.ntmps46
  go_wp2
  go_ret
  exact ⟨rfl, rfl⟩
theorem lenS_any (A : Option Addr) (n c : Nat) (w : World) (h : n ≤ 9223372036854775807) :
    Calls Try.prog 54 #[.slice A n c] w fun e w' => e = .returned (.int .i64 (n : Int)) ∧ w = w' := by
  go_enter Try.func54, Try.ntmps54
  go_wp2
  go_ret
  exact ⟨rfl, rfl⟩

theorem closure_any (b0 b1 : Nat) (x lo hi : Int) (w : World) (h0 : w.cell? ⟨b0, 0, none⟩ = some (.int .i64 lo)) (h1 : w.cell? ⟨b1, 0, none⟩ = some (.int .i64 hi)) :
    Calls Try.prog 92 #[.int .i64 x, .pointer (some ⟨b0, 0, none⟩), .pointer (some ⟨b1, 0, none⟩)] w fun e w' => e = .returned (.bool (!inR x lo hi)) ∧ w = w' := by
  go_enter Try.func92, Try.ntmps92
  go_wp2_with (go_at_call 45; refine (inRange_any _ _ _ _).mono ?_; rintro e w' ⟨rfl, rfl⟩)
  go_ret
  exact ⟨rfl, rfl⟩
def IdxRet (b : Bool) (w : World) (e : Ending) (w' : World) : Prop := ∃ r : Int, e = .returned (.int .i64 r) ∧ ((r = -1 ∧ b = true) ∨ (0 ≤ r ∧ b = false)) ∧ w = w'
set_option maxHeartbeats 400000 in
theorem index_any (A : Option Addr) (c B b0 b1 : Nat) (xs : List Int) (lo hi : Int) (w : World) (hx : RdI w B A xs) (hm : xs.length ≤ 9223372036854775807) (h0 : w.cell? ⟨b0, 0, none⟩ = some (.int .i64 lo)) (h1 : w.cell? ⟨b1, 0, none⟩ = some (.int .i64 hi)) :
    Calls Try.prog 100 #[.slice A xs.length c, .func (Fn.func 92) #[] #[.pointer (some ⟨b0, 0, none⟩), .pointer (some ⟨b1, 0, none⟩)]] w (IdxRet (allInB xs lo hi) w) := by
  go_enter Try.func100, Try.ntmps100
  go_wp2
  go_loop [5, 8] (fun _ i => ∃ k : Nat, k ≤ xs.length ∧ i = .int .i64 (k : Int) ∧ Hid (∀ j, j < k → inR (xs.getD j 0) lo hi = true)) (fun _ i => xs.length - (intOf i).toNat)
  case atStart => exact ⟨0, Nat.zero_le _, rfl, Lib.hid fun j hj => absurd hj (Nat.not_lt_zero j)⟩
  case round =>
    obtain ⟨k, hk, rfl, hall⟩ := hrel
    by_cases hlt : k < xs.length
    · obtain ⟨b, off, rfl, _, hc⟩ := hx (by omega)
      have g := hc k hlt
      clear hc hx
      cases hr : inR (xs.getD k 0) lo hi
      · have hf := Lib.hid (allInB_no hlt hr)
        generalize xs.getD k 0 = x at *
        go_wp2_with (go_at_call 92; refine (closure_any _ _ _ _ _ _ h0 h1).mono ?_; rintro e w' ⟨rfl, rfl⟩)
        go_ret
        exact ⟨(k : Int), rfl, .inr ⟨by omega, hf.out⟩, rfl⟩
      · have hn : Hid (∀ j, j < k + 1 → inR (xs.getD j 0) lo hi = true) := Lib.hid fun j hj => by
          rcases Nat.lt_or_ge j k with h | h
          · exact hall.out j h
          · obtain rfl : j = k := by omega
            exact hr
        clear hall
        generalize xs.getD k 0 = x at *
        go_wp2_with (go_at_call 92; refine (closure_any _ _ _ _ _ _ h0 h1).mono ?_; rintro e w' ⟨rfl, rfl⟩)
        go_round
        case rel => exact ⟨k + 1, by omega, by go_num, hn⟩
        case measure => simp [intOf]; omega
    · obtain rfl : k = xs.length := by omega
      clear hx
      go_wp2
      go_ret
      exact ⟨-1, rfl, .inl ⟨rfl, allInB_of hall.out⟩, rfl⟩
theorem contains_any (A : Option Addr) (c B b0 b1 : Nat) (xs : List Int) (lo hi : Int) (w : World) (hx : RdI w B A xs) (hm : xs.length ≤ 9223372036854775807) (h0 : w.cell? ⟨b0, 0, none⟩ = some (.int .i64 lo)) (h1 : w.cell? ⟨b1, 0, none⟩ = some (.int .i64 hi)) :
    Calls Try.prog 91 #[.slice A xs.length c, .func (Fn.func 92) #[] #[.pointer (some ⟨b0, 0, none⟩), .pointer (some ⟨b1, 0, none⟩)]] w fun e w' => e = .returned (.bool (!allInB xs lo hi)) ∧ w = w' := by
  have hc := Lib.hid (index_any A c B b0 b1 xs lo hi w hx hm h0 h1)
  clear hx
  go_enter Try.func91, Try.ntmps91
  go_wp2_with fail
  refine hc.out.mono ?_
  rintro e w' ⟨r, rfl, ⟨rfl, hb⟩ | ⟨hr, hb⟩, rfl⟩
  · go_wp2
    go_ret
    exact ⟨ret_bool (by simp [hb]), rfl⟩
  · go_wp2
    go_ret
    exact ⟨ret_bool (by simp [hb]), rfl⟩
theorem allIn_any (A : Option Addr) (c B : Nat) (xs : List Int) (lo hi : Int) (w : World) (hx : RdI w B A xs) (hB : B ≤ w.heap.size) (hm : xs.length ≤ 9223372036854775807) :
    Calls Try.prog 76 #[.slice A xs.length c, .int .i64 lo, .int .i64 hi] w fun e w' => e = .returned (.bool (allInB xs lo hi)) ∧ Below w.heap.size w w' := by
  have hb : Below w.heap.size w ((w.alloc (.cells #[.int .i64 lo] 2)).alloc (.cells #[.int .i64 hi] 2)) := ((Below.refl _ _).alloc (Nat.le_refl _) _).alloc (by simp) _
  have hx2 := Lib.hid (hx.below hb hB)
  clear hx
  have HB := Lib.hid hb
  clear hb
  go_enter Try.func76, Try.ntmps76
  go_wp2_with (go_at_call 91; refine (contains_any A c B _ _ xs lo hi _ hx2.out hm (by simp) (by simp)).mono ?_; rintro e w' ⟨rfl, rfl⟩)
  go_ret
  exact ⟨ret_bool (by simp), HB.out⟩
end Go.Proofs.Ytjkcdnfmmfpbjaa.AllIn

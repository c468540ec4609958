/- The journal of lines, of the reference. -/
import Derived.Test.YtjajemdeioabkaaDoorDecI
import Derived.Test.YtjajemdeioabkaaDoorLabM
import Derived.Laws.Concat
namespace Go.Proofs.YtjajemdeioabkaaDoor.Jour
open Go.RowKit Go.Proofs.YtjajemdeioabkaaDoor Go.Proofs.YtjajemdeioabkaaDoor.Base Go.Proofs.YtjajemdeioabkaaDoor.Mem Go.Proofs.YtjajemdeioabkaaDoor.Dec Go.Proofs.YtjajemdeioabkaaDoor.LabM
set_option linter.unusedVariables false
/-! ### Plain texts -/
/-- a journal's line -/
def lineJ (c : Nat) (s : ByteArray) : List UInt8 := Lib.decDigits c ++ [32] ++ s.data.toList ++ [10]
def getT (ss : List ByteArray) (i : Nat) : ByteArray := ss.getD i ByteArray.empty
/-- the check number behind so many lines -/
def ckTo (ss : List ByteArray) : Nat → Nat
  | 0 => 0
  | i + 1 => chk (ckTo ss i) (getT ss i)
theorem ckTo_lt (ss : List ByteArray) : ∀ i, ckTo ss i < 999983
  | 0 => by show 0 < 999983; decide
  | i + 1 => chk_lt (ckTo_lt ss i) _
/-- the journal of the first lines -/
def jourTo (ss : List ByteArray) : Nat → List UInt8
  | 0 => []
  | i + 1 => jourTo ss i ++ lineJ (ckTo ss (i + 1)) (getT ss i)
def sumJ (ss : List ByteArray) : Nat → Nat
  | 0 => 0
  | i + 1 => sumJ ss i + ((getT ss i).size + 3)
theorem dec_len {u : Nat} (h : u < 1000000) : 1 ≤ (Lib.decDigits u).length ∧ (Lib.decDigits u).length ≤ 6 := by
  rw [Lib.decDigits_length]
  refine ⟨Lib.nDigits_pos u, ?_⟩
  rw [← Lib.decDigits_length]
  by_cases h0 : u = 0
  · subst h0; rw [Lib.decDigits_one (by decide)]; simp
  · rw [← rd_rev u (by omega), List.length_reverse]
    exact rd_len 6 u h
theorem lineJ_len (c : Nat) (s : ByteArray) (h : c < 1000000) : s.size + 3 ≤ (lineJ c s).length ∧ (lineJ c s).length ≤ s.size + 8 := by
  have := dec_len h
  have hs : s.data.toList.length = s.size := by rw [Array.length_toList]; rfl
  simp only [lineJ, List.length_append, List.length_cons, List.length_nil, hs]
  omega
theorem jourTo_len (ss : List ByteArray) : ∀ i, sumJ ss i ≤ (jourTo ss i).length ∧ (jourTo ss i).length ≤ 3 * sumJ ss i
  | 0 => by simp [sumJ, jourTo]
  | i + 1 => by
    have h1 := jourTo_len ss i
    have h2 := lineJ_len (ckTo ss (i + 1)) (getT ss i) (by have := ckTo_lt ss (i + 1); omega)
    rw [sumJ, jourTo, List.length_append]
    omega
theorem jourTo_mono (ss : List ByteArray) {i : Nat} : ∀ n, i ≤ n → (jourTo ss i).length ≤ (jourTo ss n).length
  | 0, h => by obtain rfl : i = 0 := by omega
               exact Nat.le_refl _
  | n + 1, h => by
    by_cases e : i = n + 1
    · subst e; exact Nat.le_refl _
    · have := jourTo_mono ss (i := i) n (by omega)
      rw [jourTo, List.length_append]; omega
theorem sumJ_mono (ss : List ByteArray) {i : Nat} : ∀ n, i ≤ n → sumJ ss i ≤ sumJ ss n
  | 0, h => by obtain rfl : i = 0 := by omega
               exact Nat.le_refl _
  | n + 1, h => by
    by_cases e : i = n + 1
    · subst e; exact Nat.le_refl _
    · have := sumJ_mono ss (i := i) n (by omega)
      rw [sumJ]; omega
/-- a line holds a line's end -/
def nlIn (s : ByteArray) : Nat → Bool
  | 0 => false
  | i + 1 => nlIn s i || (if h : i < s.size then decide ((s[i]'h).toNat = 10) else false)
theorem nlIn_yes {s : ByteArray} {i : Nat} (h : nlIn s i = true) : ∀ n, i ≤ n → nlIn s n = true
  | 0, hn => by obtain rfl : i = 0 := by omega
                exact h
  | n + 1, hn => by
    by_cases e : i = n + 1
    · subst e; exact h
    · rw [nlIn, nlIn_yes h n (by omega)]; rfl
def nlB (s : ByteArray) : Bool := nlIn s s.size
def nlTo (ss : List ByteArray) : Nat → Bool
  | 0 => false
  | i + 1 => nlTo ss i || nlB (getT ss i)
theorem nlTo_yes {ss : List ByteArray} {i : Nat} (h : nlTo ss i = true) : ∀ n, i ≤ n → nlTo ss n = true
  | 0, hn => by obtain rfl : i = 0 := by omega
                exact h
  | n + 1, hn => by
    by_cases e : i = n + 1
    · subst e; exact h
    · rw [nlTo, nlTo_yes h n (by omega)]; rfl
def jourB (ss : List ByteArray) : Bool := !nlTo ss ss.length && decide ((jourTo ss ss.length).length ≤ 4000)
def jourR (ss : List ByteArray) : List UInt8 := if jourB ss = true then jourTo ss ss.length else []
theorem jourB_nl {ss : List ByteArray} {i : Nat} (hi : i ≤ ss.length) (h : nlTo ss i = true) : jourB ss = false := by rw [jourB, nlTo_yes h _ hi]; rfl
theorem jourB_len {ss : List ByteArray} {i : Nat} (hi : i ≤ ss.length) (h : 4000 < (jourTo ss i).length) : jourB ss = false := by
  have := jourTo_mono ss _ hi
  rw [jourB, decide_eq_false (by omega), Bool.and_false]
theorem jourB_yes {ss : List ByteArray} (h : nlTo ss ss.length = false) (h2 : (jourTo ss ss.length).length ≤ 4000) : jourB ss = true := by rw [jourB, h, decide_eq_true h2]; rfl
theorem strAdd {a b c : ByteArray} (h : a ++ b = c) (hs : a.size + b.size ≤ 9223372036854775807) (w : World) : (Op.stringOp .add a b).run Tryd.prog w = .ok (.string c) w := by
  rw [run_string_add_sum w a b (by omega), h]
/-- what a journal's function returns -/
def JourRet (ss : List ByteArray) (w : World) (e : Ending) (w' : World) : Prop := e = .returned (.tuple #[.string (tx (jourR ss)), .bool (jourB ss)]) ∧ Below w.heap.size w w'
theorem JourRet.no {ss : List ByteArray} {w w' : World} (h : jourB ss = false) (hb : Below w.heap.size w w') : JourRet ss w (.returned (.tuple #[.string { data := #[] }, .bool false])) w' := by
  refine ⟨?_, hb⟩
  rw [jourR, h]
  rfl
/-! ### The reference -/
set_option maxHeartbeats 2000000 in
theorem l11Journal_any (A : Option Addr) (c B : Nat) (ss : List ByteArray) (w : World) (hx : RdT w B A ss) (hB : B ≤ w.heap.size) (hl : ss.length ≤ 1048576) (hs : sumJ ss ss.length ≤ 4000) :
    Calls Tryd.prog 24 #[.slice A ss.length c] w fun e w' => e = .returned (.string (tx (jourTo ss ss.length))) ∧ Below w.heap.size w w' := by
  have HX := Lib.hid hx
  obtain ⟨n, hn⟩ : ∃ n, n = ss.length := ⟨_, rfl⟩
  rw [← hn] at hs hl ⊢
  have HN := Lib.hid hn
  clear hx hn
  go_enter Tryd.func24, Tryd.ntmps24
  go_wp2
  go_loopw [3, 4, 5] (fun o v i wr => ∃ k : Nat, k ≤ n ∧ o = .string (tx (jourTo ss k)) ∧ v = .int .i64 (ckTo ss k : Nat) ∧ i = .int .i64 (k : Int) ∧ Hid (Below w.heap.size w wr)) (fun _ _ i _ => n - (intOf i).toNat)
  case atStart => exact ⟨0, Nat.zero_le _, rfl, rfl, rfl, Lib.hid (Below.refl _ _)⟩
  case round =>
    obtain ⟨k, hk, rfl, rfl, rfl, HB⟩ := hrel
    by_cases hlt : k < n
    · obtain ⟨b, off, rfl, hbB, hc⟩ := HX.out (by have := HN.out; omega)
      have hbw : b < w.heap.size := by omega
      have g0 := (HB.out.cell (p := ⟨b, off + k, none⟩) hbw).trans (hc k (by have := HN.out; omega))
      have hws := HB.out.size
      have hck := ckTo_lt ss k
      have hck1 := ckTo_lt ss (k + 1)
      have hsz : (getT ss k).size + 3 ≤ 4000 := by have h1 := sumJ_mono ss (i := k + 1) n hlt; rw [sumJ] at h1; omega
      have hjl := (jourTo_len ss k).2
      have hj2 := sumJ_mono ss (i := k) n hk
      have HK := Lib.hid (show chk (ckTo ss k) (getT ss k) = ckTo ss (k + 1) from rfl)
      have hdl := dec_len (u := ckTo ss (k + 1)) (by omega)
      have HJ := Lib.hid (show jourTo ss (k + 1) = jourTo ss k ++ lineJ (ckTo ss (k + 1)) (getT ss k) from rfl)
      change wr.cell? ⟨b, off + k, none⟩ = some (.string (getT ss k)) at g0
      have HC := Lib.hid (fun w => l01Check_any (ckTo ss k) (getT ss k) w hck (by omega))
      rw [HK.out] at HC
      have HD := Lib.hid (fun w => l01Dec_any (ckTo ss (k + 1)) (by omega) w)
      clear hc
      generalize hc1 : ckTo ss (k + 1) = c1 at *
      have HC1 := Lib.hid hc1
      clear hc1
      generalize ckTo ss k = c0 at *
      generalize jourTo ss k = J at *
      generalize hJ1 : jourTo ss (k + 1) = J1 at *
      have HJ1 := Lib.hid hJ1
      clear hJ1
      generalize getT ss k = s at *
      obtain ⟨d, hd⟩ : ∃ d, tx (Lib.decDigits c1) = d := ⟨_, rfl⟩
      have hdz : d.size ≤ 6 := by rw [← hd, size_tx]; exact hdl.2
      obtain ⟨j0, hj0⟩ : ∃ j, tx J = j := ⟨_, rfl⟩
      have hjz : j0.size ≤ 12000 := by rw [← hj0, size_tx]; omega
      obtain ⟨a1, h1⟩ : ∃ a, d ++ (ByteArray.mk #[32]) = a := ⟨_, rfl⟩
      obtain ⟨a2, h2⟩ : ∃ a, a1 ++ s = a := ⟨_, rfl⟩
      obtain ⟨a3, h3⟩ : ∃ a, a2 ++ (ByteArray.mk #[10]) = a := ⟨_, rfl⟩
      obtain ⟨a4, h4⟩ : ∃ a, j0 ++ a3 = a := ⟨_, rfl⟩
      have z1 : a1.size ≤ 7 := by rw [← h1, ByteArray.size_append]; show d.size + 1 ≤ 7; omega
      have z2 : a2.size ≤ 4007 := by rw [← h2, ByteArray.size_append]; omega
      have z3 : a3.size ≤ 4008 := by rw [← h3, ByteArray.size_append]; show a2.size + 1 ≤ 4008; omega
      have r1 := strAdd h1 (by show d.size + 1 ≤ _; omega)
      have r2 := strAdd h2 (by omega)
      have r3 := strAdd h3 (by show a2.size + 1 ≤ _; omega)
      have r4 := strAdd h4 (by omega)
      have HA : Hid (tx J1 = a4) := Lib.hid (by
        rw [HJ.out, ← h4, ← h3, ← h2, ← h1, ← hd, ← hj0]
        apply tx_ext
        simp [lineJ])
      rw [hd] at HD
      rw [hj0]
      clear hd hj0 h1 h2 h3 h4 HJ HK hdl
      go_wp2_with (go_at_call 32; refine (HC.out _).mono ?_; rintro e w' ⟨rfl, rfl⟩)
      (refine wp_region_below (by kernel_rfl) (by kernel_rfl) ?_; (repeat (refine wpQuiet_step (fun K hK => ?_); go_simp; first | (refine hK _ ?_; clear hK K) | (apply Exists.intro; refine ⟨fun wq hq => ?_, hK _ ?_⟩; (first | rfl | (have g1 := (hq.cell (p := ⟨b, off + k, none⟩) (show b < wr.heap.size by omega)).trans g0; first | (go_simp; done) | (go_simp; rfl) | (first | (go_at_call 33; refine (HD.out _).mono ?_; rintro e w1 ⟨rfl, hb1⟩; exact ⟨rfl, Base.Below.nextA hq hb1⟩)))); clear hK K))); refine wpQuiet_nil ?_; intro wq hq)
      go_wp2
      go_roundw
      case rel => exact ⟨k + 1, hlt, by rw [HJ1.out, HA.out], by rw [HC1.out], by go_num, Lib.hid (HB.out.trans (hq.mono hws))⟩
      case measure => simp [intOf]; omega
    · obtain rfl : k = n := by omega
      go_wp2
      go_ret
      exact ⟨rfl, HB.out⟩
end Go.Proofs.YtjajemdeioabkaaDoor.Jour

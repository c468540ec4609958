/- Lists of texts in memory, and lists of streams that are copied. -/
import Derived.Test.YthkogbpabdkfiaaMemS
import Derived.Test.YthkogbpabdkfiaaCopy
namespace Go.Proofs.Ythkogbpabdkfiaa.LabM
open Go.RowKit Go.Proofs.Ythkogbpabdkfiaa Go.Proofs.Ythkogbpabdkfiaa.Base Go.Proofs.Ythkogbpabdkfiaa.Mem Go.Proofs.Ythkogbpabdkfiaa.Cpy Go.Proofs.Ythkogbpabdkfiaa.MemS Go.Proofs.Ythkogbpabdkfiaa.Str
set_option linter.unusedVariables false
theorem infoT : (Try.prog.info? 9).map (fun i => (i.zero, i.size, i.bytes)) = some (some (.string ByteArray.empty), 1, 16) := by kernel_rfl
def texts (ss : List ByteArray) : List Value := ss.map Value.string
def totT (ss : List ByteArray) : Nat := (ss.map ByteArray.size).sum
theorem totT_take_succ : ∀ (ss : List ByteArray) (i : Nat), i < ss.length → totT (ss.take (i + 1)) = totT (ss.take i) + (ss.getD i ByteArray.empty).size
  | [], i, h => absurd h (Nat.not_lt_zero i)
  | s :: r, 0, h => by simp [totT]
  | s :: r, i + 1, h => by
    have := totT_take_succ r i (by simpa using h)
    simp only [totT, List.take_succ_cons, List.map_cons, List.sum_cons, List.getD_cons_succ] at *
    omega
/-- the texts ss lie behind A, in a block below B -/
def RdT (w : World) (B : Nat) (A : Option Addr) (ss : List ByteArray) : Prop :=
  0 < ss.length → ∃ b off, A = some ⟨b, off, none⟩ ∧ b < B ∧ ∀ i, i < ss.length → w.cell? ⟨b, off + i, none⟩ = some (.string (ss.getD i ByteArray.empty))
theorem RdT.below {w w' : World} {B C : Nat} {A : Option Addr} {ss : List ByteArray} (h : RdT w B A ss) (hb : Below C w w') (hBC : B ≤ C) : RdT w' B A ss := fun h0 => by
  obtain ⟨b, off, e, hlt, hc⟩ := h h0
  exact ⟨b, off, e, hlt, fun i hi => (hb.cell (p := ⟨b, off + i, none⟩) (by show b < C; omega)).trans (hc i hi)⟩
theorem RdT.more {w : World} {B C : Nat} {A : Option Addr} {ss : List ByteArray} (h : RdT w B A ss) (hBC : B ≤ C) : RdT w C A ss := fun h0 => by
  obtain ⟨b, off, e, hlt, hc⟩ := h h0
  exact ⟨b, off, e, by omega, hc⟩
def OwnT (w : World) (B : Nat) (v : Value) (ss : List ByteArray) : Prop := w.ownsRow B 9 1 v ss.length (texts ss)
theorem OwnT.rd {w : World} {B n c : Nat} {A : Option Addr} {ss : List ByteArray} (h : OwnT w B (.slice A n c) ss) : RdT w w.heap.size A ss := fun h0 => by
  obtain ⟨A', c', e, hf⟩ := ownsRow_form h
  injection e with e1 e2 e3
  subst e1 e2 e3
  obtain ⟨g, rfl, _, hlt⟩ := hf h0
  refine ⟨g, 0, rfl, hlt, fun i hi => ?_⟩
  rw [Nat.zero_add, World.ownsRow.cellAt h i (by omega)]
  simp [texts, List.getD, hi]
def ToRelT (B g : Nat) (ss : List ByteArray) (w : World) (i : Value) (wr : World) : Prop :=
  ∃ j : Nat, j ≤ ss.length ∧ i = .int .i64 (j : Int) ∧ wr.ownsRow B 9 1 (.slice (some ⟨g, 0, none⟩) ss.length ss.length) ss.length ((ss.take j).map Value.string ++ List.replicate (ss.length - j) (.string ByteArray.empty)) ∧ Below B w wr
theorem ToRelT.next {B g j : Nat} {ss : List ByteArray} {w wr : World} (hj : j < ss.length) (hg : B ≤ g)
    (h : wr.ownsRow B 9 1 (.slice (some ⟨g, 0, none⟩) ss.length ss.length) ss.length ((ss.take j).map Value.string ++ List.replicate (ss.length - j) (.string ByteArray.empty))) (hb : Below B w wr) :
    ToRelT B g ss w (.int .i64 ((j : Int) + 1)) (wr.setCell ⟨g, j, none⟩ (.string (ss.getD j ByteArray.empty))) := by
  obtain ⟨h1, _⟩ := h.stored j (.string (ss.getD j ByteArray.empty))
  rw [half_set Value.string _ ss ByteArray.empty j hj] at h1
  exact ⟨j + 1, hj, by simp, h1, hb.setCell hg _⟩
set_option maxHeartbeats 400000 in
theorem toT_any (A : Option Addr) (c B0 : Nat) (ss : List ByteArray) (w : World) (hx : RdT w B0 A ss) (hB : B0 ≤ w.heap.size) (hn : ss.length ≤ 1048576) :
    Calls Try.prog 68 #[.slice A ss.length c] w fun e w' => ∃ g, e = .returned (.slice (some ⟨g, 0, none⟩) ss.length ss.length) ∧ OwnT w' w.heap.size (.slice (some ⟨g, 0, none⟩) ss.length ss.length) ss ∧ Below w.heap.size w w' := by
  have hmk := run_make_row' (P := Try.prog) 48 9 (.string ByteArray.empty) 16 Try.underlying48 infoT rfl .i64 .i64 ss.length (by omega) (by omega)
  have h0 : ToRelT w.heap.size w.heap.size ss w (.int .i64 0) (w.alloc (.cells (madeCells #[.string ByteArray.empty] ss.length) 9)) := by
    refine ⟨0, Nat.zero_le _, rfl, ?_, (Below.refl _ _).alloc (Nat.le_refl _) _⟩
    have := World.ownsRow_lit (e := 9) (size := 1) (base := w.heap.size) w (madeCells #[.string ByteArray.empty] ss.length) ss.length (Nat.le_refl _) (by simp [maxLen]; omega) (by simp [size_madeCells])
    rw [toList_madeCells_one] at this
    simpa using this
  have H0 := Lib.hid h0
  clear h0
  go_enter Try.func68, Try.ntmps68
  go_wp2
  clear hmk
  go_loopw [4] (fun i wr => ToRelT w.heap.size w.heap.size ss w i wr) (fun i _ => ss.length - (intOf i).toNat)
  case atStart => exact H0.out
  case round =>
    obtain ⟨j, hj, rfl, hrow, hb⟩ := hrel
    by_cases hlt : j < ss.length
    · obtain ⟨b, off, rfl, hbB, hc⟩ := (hx.below hb hB) (by omega)
      have g1 := hc j hlt
      have hcell := hrow.cellAt j (by omega)
      have hfz := hrow.frozenAt j
      have hcell' : wr.cell? ⟨w.heap.size, j, none⟩ = some (.string ByteArray.empty) := by
        rw [hcell, half_get _ _ _ _ hlt]
      have HN := Lib.hid (ToRelT.next hlt (Nat.le_refl _) hrow hb)
      clear hrow hb hx hc hcell
      generalize ss.getD j ByteArray.empty = x at *
      go_wp2
      go_roundw
      case rel => exact HN.out
      case measure => simp [intOf]; omega
    · obtain rfl : j = ss.length := by omega
      have HR := Lib.hid hrow
      have HB := Lib.hid hb
      clear hrow hb hx
      go_wp2
      go_ret
      refine ⟨w.heap.size, rfl, ?_, HB.out⟩
      have := HR.out
      simpa [OwnT, texts] using this
set_option maxHeartbeats 1000000 in
theorem eqT_yes (A A' : Option Addr) (c c' B B' : Nat) (ss : List ByteArray) (w : World) (hx : RdT w B A ss) (hy : RdT w B' A' ss) (hm : ss.length ≤ 1099511627776) :
    Calls Try.prog 72 #[.slice A ss.length c, .slice A' ss.length c'] w fun e w' => e = .returned (.bool true) ∧ ∃ n, w' = w.drewN n := by
  go_enter Try.func72, Try.ntmps72
  go_wp2
  go_loopw [5] (fun i wr => ∃ (k m : Nat), k ≤ ss.length ∧ i = .int .i64 k ∧ wr = w.drewN m) (fun i _ => ss.length - (intOf i).toNat)
  case atStart => exact ⟨0, 0, Nat.zero_le _, rfl, rfl⟩
  case round =>
    obtain ⟨k, m, hk, rfl, rfl⟩ := hrel
    by_cases hlt : k < ss.length
    · obtain ⟨b, off, rfl, _, h1⟩ := hx (by omega)
      obtain ⟨b', off', rfl, _, h2⟩ := hy (by omega)
      have g1 := h1 k hlt
      have g2 := h2 k hlt
      clear h1 h2 hx hy
      generalize ss.getD k ByteArray.empty = x at *
      go_wp2
      go_quiet (fail)
      go_wp2
      go_roundw
      case rel => exact ⟨k + 1, _, by omega, by go_num, rfl⟩
      case measure => simp [intOf]; omega
    · clear hx hy
      go_wp2
      go_ret
      exact ⟨rfl, _, rfl⟩
def SzT (k : Int) (ss : List ByteArray) (w : World) (e : Ending) (w' : World) : Prop := ∃ r : Int, e = .returned (.int .i64 r) ∧ (r = -1 ∨ (0 ≤ r ∧ r = k - ss.length - totT ss)) ∧ w = w'
set_option maxHeartbeats 1000000 in
theorem szT_any (A : Option Addr) (c B : Nat) (k : Int) (ss : List ByteArray) (w : World) (hx : RdT w B A ss) (hn : ss.length ≤ 9223372036854775807) (hs : ∀ i, i < ss.length → (ss.getD i ByteArray.empty).size ≤ 9223372036854775807) (hk : 0 ≤ k) (hk2 : k ≤ 1048576) :
    Calls Try.prog 65 #[.slice A ss.length c, .int .i64 k] w (SzT k ss w) := by
  by_cases h0 : k - (ss.length : Int) < 0
  · clear hx hs
    go_enter Try.func65, Try.ntmps65
    go_wp2
    go_ret
    exact ⟨-1, rfl, .inl rfl, rfl⟩
  · have HX := Lib.hid hx
    have HS := Lib.hid hs
    clear hx hs
    go_enter Try.func65, Try.ntmps65
    go_wp2
    go_loop [1, 5] (fun lv iv => ∃ (j : Nat) (r : Int), j ≤ ss.length ∧ iv = .int .i64 (j : Int) ∧ lv = .int .i64 r ∧ 0 ≤ r ∧ r ≤ 1048576 ∧ Hid (r = k - ss.length - totT (ss.take j))) (fun _ iv => ss.length - (intOf iv).toNat)
    case atStart => exact ⟨0, k - ss.length, Nat.zero_le _, rfl, rfl, by omega, by omega, Lib.hid (by simp [totT])⟩
    case round =>
      obtain ⟨j, r, hj, rfl, rfl, r0, r1, hr⟩ := hrel
      by_cases hlt : j < ss.length
      · obtain ⟨b, off, rfl, _, hc⟩ := HX.out (by omega)
        have g1 := hc j hlt
        have hsz := HS.out j hlt
        have HT := Lib.hid (totT_take_succ ss j hlt)
        clear hc
        generalize ss.getD j ByteArray.empty = x at *
        generalize hxs : x.size = n at *
        have HN := Lib.hid hxs
        by_cases hneg : r - (n : Int) < 0
        · go_wp2
          go_ret
          exact ⟨-1, rfl, .inl rfl, rfl⟩
        · go_wp2
          go_round
          case rel => exact ⟨j + 1, r - n, hlt, by go_num, rfl, by omega, by omega, Lib.hid (by have h1 := hr.out; have h2 := HT.out; have h3 := HN.out; omega)⟩
          case measure => simp [intOf]; omega
      · obtain rfl : j = ss.length := by omega
        have HR := Lib.hid hr.out
        clear hr
        go_wp2
        go_ret
        have hR := HR.out
        rw [List.take_length] at hR
        exact ⟨r, rfl, .inr ⟨r0, hR⟩, rfl⟩
theorem szS_any (A : Option Addr) (n c : Nat) (k : Int) (w : World) (hn : n ≤ 9223372036854775807) (hk : 0 ≤ k) (hk2 : k ≤ 1048576) :
    Calls Try.prog 66 #[.slice A n c, .int .i64 k] w fun e w' => ∃ r : Int, e = .returned (.int .i64 r) ∧ (r = -1 ∨ (0 ≤ r ∧ r = k - n)) ∧ w = w' := by
  by_cases h0 : k - (n : Int) < 0
  · go_enter Try.func66, Try.ntmps66
    go_wp2
    go_ret
    exact ⟨-1, rfl, .inl rfl, rfl⟩
  · go_enter Try.func66, Try.ntmps66
    go_wp2
    go_ret
    exact ⟨k - n, rfl, .inr ⟨by omega, rfl⟩, rfl⟩
/-! ### Streams that are copied -/
theorem set7_half {fs : List Int} {n j : Nat} (hl : fs.length = 7 * n) (hj : j < n) (t : Nat) (ht : t < 7) :
    (ints (fs.take (7 * j + t) ++ List.replicate (7 * n - (7 * j + t)) 0)).set (7 * j + t) (.int .i64 (fs.getD (7 * j + t) 0)) = ints (fs.take (7 * j + t + 1) ++ List.replicate (7 * n - (7 * j + t + 1)) 0) := by
  have hlt : 7 * j + t < fs.length := by omega
  rw [ints_set, List.set_append_right _ _ (by rw [List.length_take]; omega), List.length_take, Nat.min_eq_left (by omega), Nat.sub_self,
    show 7 * n - (7 * j + t) = (7 * n - (7 * j + t + 1)) + 1 by omega, List.replicate_succ, List.set_cons_zero, List.take_succ_eq_append_getElem hlt, List.append_assoc]
  simp [List.getD, hlt]
def HalfS (wr : World) (B g n j : Nat) (fs : List Int) : Prop := wr.ownsRow B 107 7 (.slice (some ⟨g, 0, none⟩) n n) n (ints (fs.take (7 * j) ++ List.replicate (7 * n - 7 * j) 0))
theorem half_store {wr : World} {B g n j t : Nat} {fs : List Int} (h : wr.ownsRow B 107 7 (.slice (some ⟨g, 0, none⟩) n n) n (ints (fs.take (7 * j + t) ++ List.replicate (7 * n - (7 * j + t)) 0))) (hl : fs.length = 7 * n) (hj : j < n) (ht : t < 7) :
    (wr.setCell ⟨g, 7 * j + t, none⟩ (.int .i64 (fs.getD (7 * j + t) 0))).ownsRow B 107 7 (.slice (some ⟨g, 0, none⟩) n n) n (ints (fs.take (7 * j + t + 1) ++ List.replicate (7 * n - (7 * j + t + 1)) 0)) ∧ wr.grownBy (wr.setCell ⟨g, 7 * j + t, none⟩ (.int .i64 (fs.getD (7 * j + t) 0))) (some g) := by
  obtain ⟨h1, h2⟩ := h.stored (7 * j + t) (.int .i64 (fs.getD (7 * j + t) 0))
  rw [set7_half hl hj t ht] at h1
  exact ⟨h1, h2⟩
def put7 (w : World) (g q : Nat) (f : Nat → Int) : World :=
  ((((((w.setCell ⟨g, q, none⟩ (.int .i64 (f 0))).setCell ⟨g, q + 1, none⟩ (.int .i64 (f 1))).setCell ⟨g, q + 2, none⟩ (.int .i64 (f 2))).setCell ⟨g, q + 3, none⟩ (.int .i64 (f 3))).setCell ⟨g, q + 4, none⟩ (.int .i64 (f 4))).setCell ⟨g, q + 5, none⟩ (.int .i64 (f 5))).setCell ⟨g, q + 6, none⟩ (.int .i64 (f 6))
theorem half_next {wr : World} {B g n j : Nat} {fs : List Int} (h : HalfS wr B g n j fs) (hl : fs.length = 7 * n) (hj : j < n) : HalfS (put7 wr g (j * 7) (fun i => fs.getD (7 * j + i) 0)) B g n (j + 1) fs := by
  obtain ⟨h1, _⟩ := half_store (t := 0) h hl hj (by decide)
  obtain ⟨h2, _⟩ := half_store (t := 1) h1 hl hj (by decide)
  obtain ⟨h3, _⟩ := half_store (t := 2) h2 hl hj (by decide)
  obtain ⟨h4, _⟩ := half_store (t := 3) h3 hl hj (by decide)
  obtain ⟨h5, _⟩ := half_store (t := 4) h4 hl hj (by decide)
  obtain ⟨h6, _⟩ := half_store (t := 5) h5 hl hj (by decide)
  obtain ⟨h7, _⟩ := half_store (t := 6) h6 hl hj (by decide)
  unfold HalfS put7
  rw [Nat.mul_comm j 7]
  exact h7
def ToRelS (B g n : Nat) (fs : List Int) (w : World) (i : Value) (wr : World) : Prop := ∃ j : Nat, j ≤ n ∧ i = .int .i64 (j : Int) ∧ Hid (HalfS wr B g n j fs) ∧ Hid (Below B w wr)
theorem below_put7 {B : Nat} {w wr : World} {g q : Nat} {f : Nat → Int} (h : Below B w wr) (hg : B ≤ g) : Below B w (put7 wr g q f) :=
  ((((((h.setCell hg _).setCell hg _).setCell hg _).setCell hg _).setCell hg _).setCell hg _).setCell hg _
theorem infoSt7 : (Try.prog.info? 107).map (fun i => (i.zero, i.size, i.bytes)) = some (some (.agg #[.int .i64 0, .int .i64 0, .int .i64 0, .int .i64 0, .int .i64 0, .int .i64 0, .int .i64 0]), 7, 56) := by kernel_rfl
def zero7 : Array Value := #[.int .i64 0, .int .i64 0, .int .i64 0, .int .i64 0, .int .i64 0, .int .i64 0, .int .i64 0]
theorem zero7_at : ∀ m, m < 7 → zero7[m]! = .int .i64 0
  | 0, _ => rfl
  | 1, _ => rfl
  | 2, _ => rfl
  | 3, _ => rfl
  | 4, _ => rfl
  | 5, _ => rfl
  | 6, _ => rfl
  | n + 7, h => absurd h (by omega)
theorem made7 (n : Nat) : (madeCells zero7 (n * 7)).toList = ints (List.replicate (7 * n) 0) := by
  apply List.ext_getElem?
  intro j
  rw [Nat.mul_comm n 7]
  by_cases hj : j < 7 * n
  · have h1 := zero7_at (j % 7) (Nat.mod_lt _ (by decide))
    have h2 : zero7.size = 7 := rfl
    simp [madeCells, ints, hj, h2, h1]
  · simp [madeCells, ints, hj]
theorem run_make7 (n : Nat) (hn : n ≤ 1048576) (w : World) : (Instr.makeSlice 54 (.int .i64 (n : Int)) (.int .i64 (n : Int))).run Try.prog w = .ok (.slice (some ⟨w.heap.size, 0, none⟩) n n) (w.alloc (.cells (madeCells zero7 (n * 7)) 107)) := by
  obtain ⟨i, hi, hzz⟩ := Option.map_eq_some_iff.1 infoSt7
  simp only [Prod.mk.injEq] at hzz
  obtain ⟨hz, hs, hb⟩ := hzz
  have hr := run_make (P := Try.prog) w 54 107 i _ Try.underlying54 hi hz .i64 .i64 n n (by omega) (Int.le_refl _) (by rw [hb]; omega) (by omega)
  simp only [Int.toNat_natCast, hs] at hr
  exact hr
theorem half_start (w : World) (n : Nat) (hn : n ≤ 1048576) (fs : List Int) : HalfS (w.alloc (.cells (madeCells zero7 (n * 7)) 107)) w.heap.size w.heap.size n 0 fs := by
  have := World.ownsRow_lit (e := 107) (size := 7) (base := w.heap.size) w (madeCells zero7 (n * 7)) n (Nat.le_refl _) (by simp [maxLen]; omega) (by rw [size_madeCells])
  rw [made7] at this
  unfold HalfS
  simpa using this
set_option maxHeartbeats 1000000 in
set_option maxRecDepth 100000 in
theorem toS_any (A : Option Addr) (c B0 n : Nat) (fs : List Int) (w : World) (hx : RdS w B0 A n fs) (hB : B0 ≤ w.heap.size) (hn : n ≤ 1048576) (hl : fs.length = 7 * n) :
    Calls Try.prog 69 #[.slice A n c] w fun e w' => ∃ g, e = .returned (.slice (some ⟨g, 0, none⟩) n n) ∧ OwnS w' w.heap.size (.slice (some ⟨g, 0, none⟩) n n) n fs ∧ Below w.heap.size w w' := by
  have HX := Lib.hid (hx.more hB)
  have HL := Lib.hid hl
  have hmk := fun w => run_make7 n hn w
  have H0 : Hid (ToRelS w.heap.size w.heap.size n fs w (.int .i64 0) (w.alloc (.cells (madeCells zero7 (n * 7)) 107))) := Lib.hid ⟨0, Nat.zero_le _, rfl, Lib.hid (half_start w n hn fs), Lib.hid ((Below.refl _ _).alloc (Nat.le_refl _) _)⟩
  clear hx hl
  go_enter Try.func69, Try.ntmps69
  go_wp2
  clear hmk
  go_loopw [4] (fun i wr => ToRelS w.heap.size w.heap.size n fs w i wr) (fun i _ => n - (intOf i).toNat)
  case atStart => exact H0.out
  case round =>
    obtain ⟨j, hj, rfl, hrow, hb⟩ := hrel
    by_cases hlt : j < n
    · obtain ⟨b, off, rfl, hbl, h1⟩ := (HX.out.below hb.out (Nat.le_refl _)).at7 hlt
      have hcell : ∀ i, i < 7 → ∃ x : Int, wr.cell? ⟨w.heap.size, j * 7 + i, none⟩ = some (.int .i64 x) := fun i hi => by
        have hh : wr.ownsRow w.heap.size 107 7 (.slice (some ⟨w.heap.size, 0, none⟩) n n) n (ints (fs.take (7 * j) ++ List.replicate (7 * n - 7 * j) 0)) := hrow.out
        have e1 := World.ownsRow.cellAt hh (j * 7 + i) (by omega)
        rw [ints_get _ (j * 7 + i) (by have := HL.out; simp; omega)] at e1
        exact ⟨_, e1⟩
      have hfz : ∀ i, wr.frozen? ⟨w.heap.size, i, none⟩ = false := fun i => by
        have hh : wr.ownsRow w.heap.size 107 7 (.slice (some ⟨w.heap.size, 0, none⟩) n n) n (ints (fs.take (7 * j) ++ List.replicate (7 * n - 7 * j) 0)) := hrow.out
        exact hh.frozenAt i
      have HN := Lib.hid (fun w1 (h1 : Below wr.heap.size wr w1) => (show ToRelS w.heap.size w.heap.size n fs w (.int .i64 ((j : Int) + 1)) (put7 w1 w.heap.size (j * 7) (fun i => fs.getD (7 * j + i) 0)) from ⟨j + 1, hlt, by simp, Lib.hid (half_next (show HalfS w1 w.heap.size w.heap.size n j fs from ownsRow_below hrow.out h1) HL.out hlt), Lib.hid (below_put7 (hb.out.trans (h1.mono hb.out.size)) (Nat.le_refl _))⟩))
      have HT := Lib.hid (fun W => toStream_any (fs.getD (7 * j + 0) 0) (fs.getD (7 * j + 1) 0) (fs.getD (7 * j + 2) 0) (fs.getD (7 * j + 3) 0) (fs.getD (7 * j + 4) 0) (fs.getD (7 * j + 5) 0) (fs.getD (7 * j + 6) 0) W)
      unfold put7 at HN
      dsimp only at HN
      obtain ⟨x0, y0⟩ := hcell 0 (by decide)
      have hlz : w.heap.size < wr.heap.size := block_lt_of_cell y0
      obtain ⟨x1, y1⟩ := hcell 1 (by decide)
      obtain ⟨x2, y2⟩ := hcell 2 (by decide)
      obtain ⟨x3, y3⟩ := hcell 3 (by decide)
      obtain ⟨x4, y4⟩ := hcell 4 (by decide)
      obtain ⟨x5, y5⟩ := hcell 5 (by decide)
      obtain ⟨x6, y6⟩ := hcell 6 (by decide)
      rw [Nat.add_zero] at y0
      have c0 := (h1).c0; have c1 := (h1).c1; have c2 := (h1).c2; have c3 := (h1).c3; have c4 := (h1).c4; have c5 := (h1).c5; have c6 := (h1).c6
      have HY := Lib.hid (And.intro y0 (And.intro y1 (And.intro y2 (And.intro y3 (And.intro y4 (And.intro y5 y6))))))
      have HZ := Lib.hid hfz
      clear hrow hb hcell hfz h1 y0 y1 y2 y3 y4 y5 y6
      generalize fs.getD (7 * j + 0) 0 = f0 at *
      generalize fs.getD (7 * j + 1) 0 = f1 at *
      generalize fs.getD (7 * j + 2) 0 = f2 at *
      generalize fs.getD (7 * j + 3) 0 = f3 at *
      generalize fs.getD (7 * j + 4) 0 = f4 at *
      generalize fs.getD (7 * j + 5) 0 = f5 at *
      generalize fs.getD (7 * j + 6) 0 = f6 at *
      go_wp2_with fail
      refine (HT.out _).mono ?_
      rintro e w1 ⟨rfl, hb1⟩
      have y0 := (hb1.cell (p := ⟨w.heap.size, j * 7, none⟩) hlz).trans HY.out.1
      have y1 := (hb1.cell (p := ⟨w.heap.size, j * 7 + 1, none⟩) hlz).trans HY.out.2.1
      have y2 := (hb1.cell (p := ⟨w.heap.size, j * 7 + 2, none⟩) hlz).trans HY.out.2.2.1
      have y3 := (hb1.cell (p := ⟨w.heap.size, j * 7 + 3, none⟩) hlz).trans HY.out.2.2.2.1
      have y4 := (hb1.cell (p := ⟨w.heap.size, j * 7 + 4, none⟩) hlz).trans HY.out.2.2.2.2.1
      have y5 := (hb1.cell (p := ⟨w.heap.size, j * 7 + 5, none⟩) hlz).trans HY.out.2.2.2.2.2.1
      have y6 := (hb1.cell (p := ⟨w.heap.size, j * 7 + 6, none⟩) hlz).trans HY.out.2.2.2.2.2.2
      have z0 := (hb1.frozen (p := ⟨w.heap.size, j * 7, none⟩) hlz).trans (HZ.out _)
      have z1 := (hb1.frozen (p := ⟨w.heap.size, j * 7 + 1, none⟩) hlz).trans (HZ.out _)
      have z2 := (hb1.frozen (p := ⟨w.heap.size, j * 7 + 2, none⟩) hlz).trans (HZ.out _)
      have z3 := (hb1.frozen (p := ⟨w.heap.size, j * 7 + 3, none⟩) hlz).trans (HZ.out _)
      have z4 := (hb1.frozen (p := ⟨w.heap.size, j * 7 + 4, none⟩) hlz).trans (HZ.out _)
      have z5 := (hb1.frozen (p := ⟨w.heap.size, j * 7 + 5, none⟩) hlz).trans (HZ.out _)
      have z6 := (hb1.frozen (p := ⟨w.heap.size, j * 7 + 6, none⟩) hlz).trans (HZ.out _)
      have HM := Lib.hid (HN.out w1 hb1)
      clear hb1 c0 c1 c2 c3 c4 c5 c6
      go_wp2
      go_roundw
      case rel => exact HM.out
      case measure => simp [intOf]; omega
    · obtain rfl : j = n := by omega
      have HR : Hid (OwnS wr w.heap.size (.slice (some ⟨w.heap.size, 0, none⟩) j j) j fs) := Lib.hid (by
        have := hrow.out
        unfold HalfS at this
        rw [Nat.sub_self, List.replicate_zero, List.append_nil, List.take_of_length_le (by have := HL.out; omega)] at this
        exact this)
      have HB := Lib.hid hb.out
      clear hrow hb
      go_wp2
      go_ret
      exact ⟨w.heap.size, rfl, HR.out, HB.out⟩
end Go.Proofs.Ythkogbpabdkfiaa.LabM

/- Lists of texts in memory, and lists of streams that are copied. -/
import Derived.Test.YtjajemdeioabkaaDoorMemS
import Derived.Test.YtjajemdeioabkaaDoorCopy
namespace Go.Proofs.YtjajemdeioabkaaDoor.LabM
open Go.RowKit Go.Proofs.YtjajemdeioabkaaDoor Go.Proofs.YtjajemdeioabkaaDoor.Base Go.Proofs.YtjajemdeioabkaaDoor.Mem Go.Proofs.YtjajemdeioabkaaDoor.Cpy Go.Proofs.YtjajemdeioabkaaDoor.MemS Go.Proofs.YtjajemdeioabkaaDoor.Str
set_option linter.unusedVariables false
theorem infoT : (Tryd.prog.info? 9).map (fun i => (i.zero, i.size, i.bytes)) = some (some (.string ByteArray.empty), 1, 16) := by kernel_rfl
def texts (ss : List ByteArray) : List Value := ss.map Value.string
def totT (ss : List ByteArray) : Nat := (ss.map ByteArray.size).sum
theorem totT_take_succ : ∀ (ss : List ByteArray) (i : Nat), i < ss.length → totT (ss.take (i + 1)) = totT (ss.take i) + (ss.getD i ByteArray.empty).size
  | [], i, h => absurd h (Nat.not_lt_zero i)
  | s :: r, 0, h => by simp [totT]
  | s :: r, i + 1, h => by
    have := totT_take_succ r i (by simpa using h)
    simp only [totT, List.take_succ_cons, List.map_cons, List.sum_cons, List.getD_cons_succ] at *
    omega
/-- the texts ss lie behind A, in a block below B -/
def RdT (w : World) (B : Nat) (A : Option Addr) (ss : List ByteArray) : Prop :=
  0 < ss.length → ∃ b off, A = some ⟨b, off, none⟩ ∧ b < B ∧ ∀ i, i < ss.length → w.cell? ⟨b, off + i, none⟩ = some (.string (ss.getD i ByteArray.empty))
theorem RdT.below {w w' : World} {B C : Nat} {A : Option Addr} {ss : List ByteArray} (h : RdT w B A ss) (hb : Below C w w') (hBC : B ≤ C) : RdT w' B A ss := fun h0 => by
  obtain ⟨b, off, e, hlt, hc⟩ := h h0
  exact ⟨b, off, e, hlt, fun i hi => (hb.cell (p := ⟨b, off + i, none⟩) (by show b < C; omega)).trans (hc i hi)⟩
theorem RdT.more {w : World} {B C : Nat} {A : Option Addr} {ss : List ByteArray} (h : RdT w B A ss) (hBC : B ≤ C) : RdT w C A ss := fun h0 => by
  obtain ⟨b, off, e, hlt, hc⟩ := h h0
  exact ⟨b, off, e, by omega, hc⟩
def OwnT (w : World) (B : Nat) (v : Value) (ss : List ByteArray) : Prop := w.ownsRow B 9 1 v ss.length (texts ss)
theorem OwnT.rd {w : World} {B n c : Nat} {A : Option Addr} {ss : List ByteArray} (h : OwnT w B (.slice A n c) ss) : RdT w w.heap.size A ss := fun h0 => by
  obtain ⟨A', c', e, hf⟩ := ownsRow_form h
  injection e with e1 e2 e3
  subst e1 e2 e3
  obtain ⟨g, rfl, _, hlt⟩ := hf h0
  refine ⟨g, 0, rfl, hlt, fun i hi => ?_⟩
  rw [Nat.zero_add, World.ownsRow.cellAt h i (by omega)]
  simp [texts, List.getD, hi]
def ToRelT (B g : Nat) (ss : List ByteArray) (w : World) (i : Value) (wr : World) : Prop :=
  ∃ j : Nat, j ≤ ss.length ∧ i = .int .i64 (j : Int) ∧ wr.ownsRow B 9 1 (.slice (some ⟨g, 0, none⟩) ss.length ss.length) ss.length ((ss.take j).map Value.string ++ List.replicate (ss.length - j) (.string ByteArray.empty)) ∧ Below B w wr
theorem ToRelT.next {B g j : Nat} {ss : List ByteArray} {w wr : World} (hj : j < ss.length) (hg : B ≤ g)
    (h : wr.ownsRow B 9 1 (.slice (some ⟨g, 0, none⟩) ss.length ss.length) ss.length ((ss.take j).map Value.string ++ List.replicate (ss.length - j) (.string ByteArray.empty))) (hb : Below B w wr) :
    ToRelT B g ss w (.int .i64 ((j : Int) + 1)) (wr.setCell ⟨g, j, none⟩ (.string (ss.getD j ByteArray.empty))) := by
  obtain ⟨h1, _⟩ := h.stored j (.string (ss.getD j ByteArray.empty))
  rw [half_set Value.string _ ss ByteArray.empty j hj] at h1
  exact ⟨j + 1, hj, by simp, h1, hb.setCell hg _⟩
set_option maxHeartbeats 400000 in
theorem toT_any (A : Option Addr) (c B0 : Nat) (ss : List ByteArray) (w : World) (hx : RdT w B0 A ss) (hB : B0 ≤ w.heap.size) (hn : ss.length ≤ 1048576) :
    Calls Tryd.prog 11 #[.slice A ss.length c] w fun e w' => ∃ g, e = .returned (.slice (some ⟨g, 0, none⟩) ss.length ss.length) ∧ OwnT w' w.heap.size (.slice (some ⟨g, 0, none⟩) ss.length ss.length) ss ∧ Below w.heap.size w w' := by
  have hmk := run_make_row' (P := Tryd.prog) 36 9 (.string ByteArray.empty) 16 Tryd.underlying36 infoT rfl .i64 .i64 ss.length (by omega) (by omega)
  have h0 : ToRelT w.heap.size w.heap.size ss w (.int .i64 0) (w.alloc (.cells (madeCells #[.string ByteArray.empty] ss.length) 9)) := by
    refine ⟨0, Nat.zero_le _, rfl, ?_, (Below.refl _ _).alloc (Nat.le_refl _) _⟩
    have := World.ownsRow_lit (e := 9) (size := 1) (base := w.heap.size) w (madeCells #[.string ByteArray.empty] ss.length) ss.length (Nat.le_refl _) (by simp [maxLen]; omega) (by simp [size_madeCells])
    rw [toList_madeCells_one] at this
    simpa using this
  have H0 := Lib.hid h0
  clear h0
  go_enter Tryd.func11, Tryd.ntmps11
  go_wp2
  clear hmk
  go_loopw [4] (fun i wr => ToRelT w.heap.size w.heap.size ss w i wr) (fun i _ => ss.length - (intOf i).toNat)
  case atStart => exact H0.out
  case round =>
    obtain ⟨j, hj, rfl, hrow, hb⟩ := hrel
    by_cases hlt : j < ss.length
    · obtain ⟨b, off, rfl, hbB, hc⟩ := (hx.below hb hB) (by omega)
      have g1 := hc j hlt
      have hcell := hrow.cellAt j (by omega)
      have hfz := hrow.frozenAt j
      have hcell' : wr.cell? ⟨w.heap.size, j, none⟩ = some (.string ByteArray.empty) := by
        rw [hcell, half_get _ _ _ _ hlt]
      have HN := Lib.hid (ToRelT.next hlt (Nat.le_refl _) hrow hb)
      clear hrow hb hx hc hcell
      generalize ss.getD j ByteArray.empty = x at *
      go_wp2
      go_roundw
      case rel => exact HN.out
      case measure => simp [intOf]; omega
    · obtain rfl : j = ss.length := by omega
      have HR := Lib.hid hrow
      have HB := Lib.hid hb
      clear hrow hb hx
      go_wp2
      go_ret
      refine ⟨w.heap.size, rfl, ?_, HB.out⟩
      have := HR.out
      simpa [OwnT, texts] using this
set_option maxHeartbeats 1000000 in
theorem eqT_yes (A A' : Option Addr) (c c' B B' : Nat) (ss : List ByteArray) (w : World) (hx : RdT w B A ss) (hy : RdT w B' A' ss) (hm : ss.length ≤ 1099511627776) :
    Calls Tryd.prog 13 #[.slice A ss.length c, .slice A' ss.length c'] w fun e w' => e = .returned (.bool true) ∧ ∃ n, w' = w.drewN n := by
  go_enter Tryd.func13, Tryd.ntmps13
  go_wp2
  go_loopw [5] (fun i wr => ∃ (k m : Nat), k ≤ ss.length ∧ i = .int .i64 k ∧ wr = w.drewN m) (fun i _ => ss.length - (intOf i).toNat)
  case atStart => exact ⟨0, 0, Nat.zero_le _, rfl, rfl⟩
  case round =>
    obtain ⟨k, m, hk, rfl, rfl⟩ := hrel
    by_cases hlt : k < ss.length
    · obtain ⟨b, off, rfl, _, h1⟩ := hx (by omega)
      obtain ⟨b', off', rfl, _, h2⟩ := hy (by omega)
      have g1 := h1 k hlt
      have g2 := h2 k hlt
      clear h1 h2 hx hy
      generalize ss.getD k ByteArray.empty = x at *
      go_wp2
      go_quiet (fail)
      go_wp2
      go_roundw
      case rel => exact ⟨k + 1, _, by omega, by go_num, rfl⟩
      case measure => simp [intOf]; omega
    · clear hx hy
      go_wp2
      go_ret
      exact ⟨rfl, _, rfl⟩
def SzT (k : Int) (ss : List ByteArray) (w : World) (e : Ending) (w' : World) : Prop := ∃ r : Int, e = .returned (.int .i64 r) ∧ (r = -1 ∨ (0 ≤ r ∧ r = k - ss.length - totT ss)) ∧ w = w'
set_option maxHeartbeats 1000000 in
theorem szT_any (A : Option Addr) (c B : Nat) (k : Int) (ss : List ByteArray) (w : World) (hx : RdT w B A ss) (hn : ss.length ≤ 9223372036854775807) (hs : ∀ i, i < ss.length → (ss.getD i ByteArray.empty).size ≤ 9223372036854775807) (hk : 0 ≤ k) (hk2 : k ≤ 1048576) :
    Calls Tryd.prog 9 #[.slice A ss.length c, .int .i64 k] w (SzT k ss w) := by
  by_cases h0 : k - (ss.length : Int) < 0
  · clear hx hs
    go_enter Tryd.func9, Tryd.ntmps9
    go_wp2
    go_ret
    exact ⟨-1, rfl, .inl rfl, rfl⟩
  · have HX := Lib.hid hx
    have HS := Lib.hid hs
    clear hx hs
    go_enter Tryd.func9, Tryd.ntmps9
    go_wp2
    go_loop [1, 5] (fun lv iv => ∃ (j : Nat) (r : Int), j ≤ ss.length ∧ iv = .int .i64 (j : Int) ∧ lv = .int .i64 r ∧ 0 ≤ r ∧ r ≤ 1048576 ∧ Hid (r = k - ss.length - totT (ss.take j))) (fun _ iv => ss.length - (intOf iv).toNat)
    case atStart => exact ⟨0, k - ss.length, Nat.zero_le _, rfl, rfl, by omega, by omega, Lib.hid (by simp [totT])⟩
    case round =>
      obtain ⟨j, r, hj, rfl, rfl, r0, r1, hr⟩ := hrel
      by_cases hlt : j < ss.length
      · obtain ⟨b, off, rfl, _, hc⟩ := HX.out (by omega)
        have g1 := hc j hlt
        have hsz := HS.out j hlt
        have HT := Lib.hid (totT_take_succ ss j hlt)
        clear hc
        generalize ss.getD j ByteArray.empty = x at *
        generalize hxs : x.size = n at *
        have HN := Lib.hid hxs
        by_cases hneg : r - (n : Int) < 0
        · go_wp2
          go_ret
          exact ⟨-1, rfl, .inl rfl, rfl⟩
        · go_wp2
          go_round
          case rel => exact ⟨j + 1, r - n, hlt, by go_num, rfl, by omega, by omega, Lib.hid (by have h1 := hr.out; have h2 := HT.out; have h3 := HN.out; omega)⟩
          case measure => simp [intOf]; omega
      · obtain rfl : j = ss.length := by omega
        have HR := Lib.hid hr.out
        clear hr
        go_wp2
        go_ret
        have hR := HR.out
        rw [List.take_length] at hR
        exact ⟨r, rfl, .inr ⟨r0, hR⟩, rfl⟩
/-! ### Streams that are copied -/
theorem set7_half {fs : List Int} {n j : Nat} (hl : fs.length = 7 * n) (hj : j < n) (t : Nat) (ht : t < 7) :
    (ints (fs.take (7 * j + t) ++ List.replicate (7 * n - (7 * j + t)) 0)).set (7 * j + t) (.int .i64 (fs.getD (7 * j + t) 0)) = ints (fs.take (7 * j + t + 1) ++ List.replicate (7 * n - (7 * j + t + 1)) 0) := by
  have hlt : 7 * j + t < fs.length := by omega
  rw [ints_set, List.set_append_right _ _ (by rw [List.length_take]; omega), List.length_take, Nat.min_eq_left (by omega), Nat.sub_self,
    show 7 * n - (7 * j + t) = (7 * n - (7 * j + t + 1)) + 1 by omega, List.replicate_succ, List.set_cons_zero, List.take_succ_eq_append_getElem hlt, List.append_assoc]
  simp [List.getD, hlt]
def HalfS (wr : World) (B g n j : Nat) (fs : List Int) : Prop := wr.ownsRow B 33 7 (.slice (some ⟨g, 0, none⟩) n n) n (ints (fs.take (7 * j) ++ List.replicate (7 * n - 7 * j) 0))
theorem half_store {wr : World} {B g n j t : Nat} {fs : List Int} (h : wr.ownsRow B 33 7 (.slice (some ⟨g, 0, none⟩) n n) n (ints (fs.take (7 * j + t) ++ List.replicate (7 * n - (7 * j + t)) 0))) (hl : fs.length = 7 * n) (hj : j < n) (ht : t < 7) :
    (wr.setCell ⟨g, 7 * j + t, none⟩ (.int .i64 (fs.getD (7 * j + t) 0))).ownsRow B 33 7 (.slice (some ⟨g, 0, none⟩) n n) n (ints (fs.take (7 * j + t + 1) ++ List.replicate (7 * n - (7 * j + t + 1)) 0)) ∧ wr.grownBy (wr.setCell ⟨g, 7 * j + t, none⟩ (.int .i64 (fs.getD (7 * j + t) 0))) (some g) := by
  obtain ⟨h1, h2⟩ := h.stored (7 * j + t) (.int .i64 (fs.getD (7 * j + t) 0))
  rw [set7_half hl hj t ht] at h1
  exact ⟨h1, h2⟩
def put7 (w : World) (g q : Nat) (f : Nat → Int) : World :=
  ((((((w.setCell ⟨g, q, none⟩ (.int .i64 (f 0))).setCell ⟨g, q + 1, none⟩ (.int .i64 (f 1))).setCell ⟨g, q + 2, none⟩ (.int .i64 (f 2))).setCell ⟨g, q + 3, none⟩ (.int .i64 (f 3))).setCell ⟨g, q + 4, none⟩ (.int .i64 (f 4))).setCell ⟨g, q + 5, none⟩ (.int .i64 (f 5))).setCell ⟨g, q + 6, none⟩ (.int .i64 (f 6))
theorem half_next {wr : World} {B g n j : Nat} {fs : List Int} (h : HalfS wr B g n j fs) (hl : fs.length = 7 * n) (hj : j < n) : HalfS (put7 wr g (j * 7) (fun i => fs.getD (7 * j + i) 0)) B g n (j + 1) fs := by
  obtain ⟨h1, _⟩ := half_store (t := 0) h hl hj (by decide)
  obtain ⟨h2, _⟩ := half_store (t := 1) h1 hl hj (by decide)
  obtain ⟨h3, _⟩ := half_store (t := 2) h2 hl hj (by decide)
  obtain ⟨h4, _⟩ := half_store (t := 3) h3 hl hj (by decide)
  obtain ⟨h5, _⟩ := half_store (t := 4) h4 hl hj (by decide)
  obtain ⟨h6, _⟩ := half_store (t := 5) h5 hl hj (by decide)
  obtain ⟨h7, _⟩ := half_store (t := 6) h6 hl hj (by decide)
  unfold HalfS put7
  rw [Nat.mul_comm j 7]
  exact h7
def ToRelS (B g n : Nat) (fs : List Int) (w : World) (i : Value) (wr : World) : Prop := ∃ j : Nat, j ≤ n ∧ i = .int .i64 (j : Int) ∧ Hid (HalfS wr B g n j fs) ∧ Hid (Below B w wr)
theorem below_put7 {B : Nat} {w wr : World} {g q : Nat} {f : Nat → Int} (h : Below B w wr) (hg : B ≤ g) : Below B w (put7 wr g q f) :=
  ((((((h.setCell hg _).setCell hg _).setCell hg _).setCell hg _).setCell hg _).setCell hg _).setCell hg _
theorem infoSt7 : (Tryd.prog.info? 33).map (fun i => (i.zero, i.size, i.bytes)) = some (some (.agg #[.int .i64 0, .int .i64 0, .int .i64 0, .int .i64 0, .int .i64 0, .int .i64 0, .int .i64 0]), 7, 56) := by kernel_rfl
def zero7 : Array Value := #[.int .i64 0, .int .i64 0, .int .i64 0, .int .i64 0, .int .i64 0, .int .i64 0, .int .i64 0]
theorem zero7_at : ∀ m, m < 7 → zero7[m]! = .int .i64 0
  | 0, _ => rfl
  | 1, _ => rfl
  | 2, _ => rfl
  | 3, _ => rfl
  | 4, _ => rfl
  | 5, _ => rfl
  | 6, _ => rfl
  | n + 7, h => absurd h (by omega)
theorem made7 (n : Nat) : (madeCells zero7 (n * 7)).toList = ints (List.replicate (7 * n) 0) := by
  apply List.ext_getElem?
  intro j
  rw [Nat.mul_comm n 7]
  by_cases hj : j < 7 * n
  · have h1 := zero7_at (j % 7) (Nat.mod_lt _ (by decide))
    have h2 : zero7.size = 7 := rfl
    simp [madeCells, ints, hj, h2, h1]
  · simp [madeCells, ints, hj]
theorem half_start (w : World) (n : Nat) (hn : n ≤ 1048576) (fs : List Int) : HalfS (w.alloc (.cells (madeCells zero7 (n * 7)) 33)) w.heap.size w.heap.size n 0 fs := by
  have := World.ownsRow_lit (e := 33) (size := 7) (base := w.heap.size) w (madeCells zero7 (n * 7)) n (Nat.le_refl _) (by simp [maxLen]; omega) (by rw [size_madeCells])
  rw [made7] at this
  unfold HalfS
  simpa using this
end Go.Proofs.YtjajemdeioabkaaDoor.LabM

/- The fraction of a ratio: what int64 holds. -/
import Derived.Test.YtionognmgcabbaaGreatMgSet05
import Derived.Test.YtionognmgcabbaaGreatMgSet00
import Derived.StillTail
import Derived.Deep.Quiet
namespace Go.Proofs.YtionognmgcabbaaGreat.Ratio
open Go.RowKit Go.Proofs.YtionognmgcabbaaGreat Go.Proofs.YtionognmgcabbaaGreat.Base Go.Proofs.YtionognmgcabbaaGreat.Mem Go.Proofs.YtionognmgcabbaaGreat.NatM Go.Proofs.YtionognmgcabbaaGreat.Nat32 Go.Proofs.YtionognmgcabbaaGreat.RatM
open Go.Proofs.YtionognmgcabbaaGreat.Inv (natOf natOf_eq len_pos Rat3 not_slice not_bool frz)
set_option linter.unusedVariables false
theorem smallAny (x : Nat) (A : Option Addr) (c B : Nat) (w : World) (hx : RdU w B A (natL x)) :
    Calls Tryz.prog 130 #[.slice A (natL x).length c] w fun e w' => (∃ i : Int, e = .returned (.tuple #[.int .i64 i, .bool (decide (x ≤ 1000000000000000000))]) ∧ (x ≤ 1000000000000000000 → i = x)) ∧ w = w' := by
  rcases Nat.lt_or_ge 1000000000000000000 x with h | h
  · rw [decide_eq_false (by omega)]
    refine (small_no x A c B w hx h).mono ?_
    rintro e w' ⟨i, rfl, rfl⟩
    exact ⟨⟨i, rfl, fun h' => absurd h' (by omega)⟩, rfl⟩
  · rw [decide_eq_true (by omega)]
    refine (small_yes x A c B w hx h).mono ?_
    rintro e w' ⟨rfl, rfl⟩
    exact ⟨⟨x, rfl, fun _ => rfl⟩, rfl⟩
theorem ratFraction {q : Rat} {v : Value} (w : World) (hv : IsRt w q v) :
    Calls Tryz.prog 62 #[v] w fun e w' => e = .returned (.tuple #[.agg #[.int .i64 (numQ q), .int .i64 (denQ q)], .bool (smallQ q)]) ∧ Below w.heap.size w w' := by
  obtain ⟨A, c, A', c', rfl, hx, hy⟩ := hv
  have HB : Hid (Below w.heap.size w ((w.alloc (.cells #[.bool (decide (q < 0)), .slice A (natL q.num.natAbs).length c, .slice A' (natL q.den).length c'] 87)).alloc (.cells #[.int .i64 0, .int .i64 0] 43))) := Lib.hid (((Below.refl _ _).alloc (Nat.le_refl _) _).alloc (by simp) _)
  have H1 := Lib.hid (fun W (h : Below w.heap.size w W) => smallAny q.num.natAbs A c w.heap.size W (hx.below h (Nat.le_refl _)))
  have H2 := Lib.hid (fun W (h : Below w.heap.size w W) => smallAny q.den A' c' w.heap.size W (hy.below h (Nat.le_refl _)))
  have HF : ∀ i j : Int, (q.num.natAbs ≤ 1000000000000000000 → i = q.num.natAbs) → (q.den ≤ 1000000000000000000 → j = q.den) → decide (q.num.natAbs ≤ 1000000000000000000) = true → decide (q.den ≤ 1000000000000000000) = true → smallQ q = true ∧ denQ q = j ∧ ((q.num.natAbs : Int) = i ∧ (q.den : Int) = j) ∧ (decide (q < 0) = true → numQ q = -i ∧ 0 ≤ i ∧ i ≤ 1000000000000000000) ∧ (decide (q < 0) = false → numQ q = i) := by
    intro i j hi hj h1 h2
    have hs : smallQ q = true := by unfold smallQ; rw [h1, h2]; rfl
    have hn := hi (of_decide_eq_true h1)
    have hle := of_decide_eq_true h1
    refine ⟨hs, by unfold denQ; rw [hs, hj (of_decide_eq_true h2)]; rfl, ⟨hn.symm, (hj (of_decide_eq_true h2)).symm⟩, fun hq => ?_, fun hq => ?_⟩
    · have : q.num < 0 := Int.not_le.1 fun h => Rat.not_le.2 (of_decide_eq_true hq) (Rat.num_nonneg.1 h)
      exact ⟨by unfold numQ; rw [hs]; simp; omega, by omega, by omega⟩
    · have : 0 ≤ q.num := Rat.num_nonneg.2 (Rat.not_lt.1 (of_decide_eq_false hq))
      unfold numQ; rw [hs]; simp; omega
  have HG : (decide (q.num.natAbs ≤ 1000000000000000000) = false ∨ decide (q.den ≤ 1000000000000000000) = false) → smallQ q = false ∧ numQ q = 0 ∧ denQ q = 0 := by
    intro h
    have hs : smallQ q = false := by unfold smallQ; rcases h with h | h <;> rw [h] <;> simp
    exact ⟨hs, by unfold numQ; rw [hs]; rfl, by unfold denQ; rw [hs]; rfl⟩
  have HF := Lib.hid HF
  have HG := Lib.hid HG
  clear hx hy
  generalize decide (q < 0) = s at *
  generalize (natL q.num.natAbs).length = n at *
  generalize (natL q.den).length = n' at *
  generalize hb1 : decide (q.num.natAbs ≤ 1000000000000000000) = b1 at *
  generalize hb2 : decide (q.den ≤ 1000000000000000000) = b2 at *
  clear hb1 hb2
  generalize numQ q = vn at *
  generalize denQ q = vd at *
  generalize smallQ q = sm at *
  go_enter Tryz.func62, Tryz.ntmps62
  go_wp2_with fail
  refine (H1.out _ HB.out).mono ?_
  rintro e w1 ⟨⟨i, rfl, hi⟩, rfl⟩
  have HI := Lib.hid hi
  clear hi
  go_wp2_with fail
  refine (H2.out _ HB.out).mono ?_
  rintro e w1 ⟨⟨j, rfl, hj⟩, rfl⟩
  have HF2 := Lib.hid (HF.out i j HI.out hj)
  clear hj
  clear HF
  cases b1 with
  | false =>
    obtain ⟨rfl, rfl, rfl⟩ := HG.out (Or.inl rfl)
    cases b2 <;>
    · go_wp2
      refine bodyPost_ret (v := .tuple #[.agg #[.int .i64 0, .int .i64 0], .bool false]) (by simp [results, Tryz.results62, go_sem]) rfl ⟨rfl, ?_⟩
      exact ((Below.refl _ _).alloc (Nat.le_refl _) _).alloc (by simp) _
  | true =>
    cases b2 with
    | false =>
      obtain ⟨rfl, rfl, rfl⟩ := HG.out (Or.inr rfl)
      go_wp2
      refine bodyPost_ret (v := .tuple #[.agg #[.int .i64 0, .int .i64 0], .bool false]) (by simp [results, Tryz.results62, go_sem]) rfl ⟨rfl, ?_⟩
      exact ((Below.refl _ _).alloc (Nat.le_refl _) _).alloc (by simp) _
    | true =>
      obtain ⟨rfl, rfl, ⟨e1, e2⟩, hn, hp⟩ := HF2.out rfl rfl
      have E1 := Lib.hid e1
      have E2 := Lib.hid e2
      clear e1 e2
      cases s with
      | true =>
        obtain ⟨rfl, h0, hle⟩ := hn rfl
        clear hn hp
        have hw : wrap64 (-i) = -i := by first | (unfold wrap64; omega) | (simp [wrap64]; omega)
        go_wp2
        refine bodyPost_ret (v := .tuple #[.agg #[.int .i64 (-i), .int .i64 vd], .bool true]) (by simp [results, Tryz.results62, go_sem]; first | done | (rw [E1.out, E2.out]; first | exact ⟨hw, rfl⟩ | exact ⟨rfl, rfl⟩)) rfl ⟨rfl, ?_⟩
        exact ((Below.refl _ _).alloc (Nat.le_refl _) _).alloc (by simp) _
      | false =>
        obtain rfl := hp rfl
        clear hn hp
        go_wp2
        refine bodyPost_ret (v := .tuple #[.agg #[.int .i64 vn, .int .i64 vd], .bool true]) (by simp [results, Tryz.results62, go_sem]; first | done | (rw [E1.out, E2.out]; first | exact ⟨hw, rfl⟩ | exact ⟨rfl, rfl⟩)) rfl ⟨rfl, ?_⟩
        exact ((Below.refl _ _).alloc (Nat.le_refl _) _).alloc (by simp) _
end Go.Proofs.YtionognmgcabbaaGreat.Ratio
/- Lists of fractions in memory: two cells an element. Equality, marks, holding. -/
namespace Go.Proofs.YtionognmgcabbaaGreat.MemF
open Go.RowKit Go.Proofs.YtionognmgcabbaaGreat Go.Proofs.YtionognmgcabbaaGreat.Base Go.Proofs.YtionognmgcabbaaGreat.Mem
set_option linter.unusedVariables false
theorem eqFraction_yes (a b : Int) (w : World) : Calls Tryz.prog 25 #[.agg #[.int .i64 a, .int .i64 b], .agg #[.int .i64 a, .int .i64 b]] w fun e w' => e = .returned (.bool true) ∧ Below w.heap.size w w' := by
  go_enter Tryz.func25, Tryz.ntmps25
  go_wp2
  go_ret
  exact ⟨rfl, ((Below.refl _ _).alloc (Nat.le_refl _) _).alloc (by simp) _⟩
/-- the n fractions whose numbers are fs lie behind A, in a block below B -/
def RdF (w : World) (B : Nat) (A : Option Addr) (n : Nat) (fs : List Int) : Prop :=
  0 < n → ∃ b off, A = some ⟨b, off, none⟩ ∧ b < B ∧ ∀ i, i < 2 * n → w.cell? ⟨b, off + i, none⟩ = some (.int .i64 (fs.getD i 0))
theorem RdF.below {w w' : World} {B C n : Nat} {A : Option Addr} {fs : List Int} (h : RdF w B A n fs) (hb : Below C w w') (hBC : B ≤ C) : RdF w' B A n fs := fun h0 => by
  obtain ⟨b, off, e, hlt, hc⟩ := h h0
  exact ⟨b, off, e, hlt, fun i hi => (hb.cell (p := ⟨b, off + i, none⟩) (by show b < C; omega)).trans (hc i hi)⟩
theorem RdF.more {w : World} {B C n : Nat} {A : Option Addr} {fs : List Int} (h : RdF w B A n fs) (hBC : B ≤ C) : RdF w C A n fs := fun h0 => by
  obtain ⟨b, off, e, hlt, hc⟩ := h h0
  exact ⟨b, off, e, by omega, hc⟩
/-- the n fractions are the call's own -/
def OwnF (w : World) (B : Nat) (v : Value) (n : Nat) (fs : List Int) : Prop := w.ownsRow B 43 2 v n (ints fs)
theorem OwnF.len {w : World} {B n : Nat} {v : Value} {fs : List Int} (h : OwnF w B v n fs) : fs.length = 2 * n := by
  have := h.1
  rw [ints_len] at this
  omega
theorem OwnF.form {w : World} {B n : Nat} {v : Value} {fs : List Int} (h : OwnF w B v n fs) : ∃ A c, v = .slice A n c ∧ (0 < n → ∃ g, A = some ⟨g, 0, none⟩ ∧ B ≤ g ∧ g < w.heap.size) := ownsRow_form h
theorem OwnF.rd {w : World} {B n m c : Nat} {A : Option Addr} {fs : List Int} (h : OwnF w B (.slice A m c) n fs) : RdF w w.heap.size A n fs := fun h0 => by
  obtain ⟨A', c', e, hf⟩ := ownsRow_form h
  injection e with e1 e2 e3
  subst e1 e2 e3
  obtain ⟨g, rfl, _, hlt⟩ := hf h0
  refine ⟨g, 0, rfl, hlt, fun i hi => ?_⟩
  have hl := h.len
  rw [Nat.zero_add, World.ownsRow.cellAt h i (by omega), ints_get fs i (by omega)]
theorem OwnF.below {w w' : World} {B n : Nat} {v : Value} {fs : List Int} (h : OwnF w B v n fs) (hb : Below w.heap.size w w') : OwnF w' B v n fs := ownsRow_below h hb
/-- element j of a list that is read -/
theorem RdF.at {w : World} {B n : Nat} {A : Option Addr} {fs : List Int} (h : RdF w B A n fs) {j : Nat} (hj : j < n) : ∃ b off, A = some ⟨b, off, none⟩ ∧ b < B ∧ w.cell? ⟨b, off + j * 2, none⟩ = some (.int .i64 (fs.getD (2 * j) 0)) ∧ w.cell? ⟨b, off + j * 2 + 1, none⟩ = some (.int .i64 (fs.getD (2 * j + 1) 0)) := by
  obtain ⟨b, off, e, hlt, hc⟩ := h (by omega)
  refine ⟨b, off, e, hlt, ?_, ?_⟩
  · have := hc (2 * j) (by omega); rw [Nat.mul_comm j 2]; exact this
  · have := hc (2 * j + 1) (by omega); rw [← Nat.add_assoc] at this; rw [Nat.mul_comm j 2]; exact this
set_option maxHeartbeats 1000000 in
set_option maxRecDepth 100000 in
theorem heldF_yes (A : Option Addr) (c B k n : Nat) (w : World) (hx : RdF w B A n (marks k (2 * n))) (hm : k + 2 * n ≤ 1099511627776) :
    Calls Tryz.prog 21 #[.slice A n c, .int .i64 k] w fun e w' => e = .returned (.int .i64 ((k + 2 * n : Nat) : Int)) ∧ w = w' := by
  have HX := Lib.hid hx
  clear hx
  go_enter Tryz.func21, Tryz.ntmps21
  go_wp2
  go_loop [1, 5] (fun q i => ∃ j Q : Nat, j ≤ n ∧ i = .int .i64 (j : Int) ∧ q = .int .i64 (Q : Int) ∧ Hid (Q = k + 2 * j)) (fun _ i => n - (intOf i).toNat)
  case atStart => exact ⟨0, k, Nat.zero_le _, rfl, rfl, Lib.hid rfl⟩
  case round =>
    obtain ⟨j, Q, hj, rfl, rfl, hQ⟩ := hrel
    by_cases hlt : j < n
    · obtain ⟨b, off, rfl, _, h1, h2⟩ := HX.out.at hlt
      have c0 : w.cell? ⟨b, off + j * 2, none⟩ = some (.int .i64 (Q : Int)) := by
        rw [h1, marks_getD k (2 * n) (2 * j) (by omega), hQ.out]
      have c1 : w.cell? ⟨b, off + j * 2 + 1, none⟩ = some (.int .i64 ((Q : Int) + 1)) := by
        rw [h2, marks_getD k (2 * n) (2 * j + 1) (by omega), hQ.out]; congr 2
      have hQ2 : (Q : Int) ≤ 1099511627776 := by have := hQ.out; omega
      clear h1 h2
      go_wp2
      go_round
      case rel => exact ⟨j + 1, Q + 2, hlt, by go_num, by go_num, Lib.hid (by rw [hQ.out]; omega)⟩
      case measure => simp [intOf]; omega
    · obtain rfl : j = n := by omega
      go_wp2
      go_ret
      exact ⟨ret_int (by rw [hQ.out]; simp), rfl⟩
set_option maxHeartbeats 1000000 in
set_option maxRecDepth 100000 in
theorem eqF_yes (A A' : Option Addr) (c c' B B' n : Nat) (fs : List Int) (w : World) (hx : RdF w B A n fs) (hy : RdF w B' A' n fs) (hB : B ≤ w.heap.size) (hB' : B' ≤ w.heap.size) (hm : n ≤ 1099511627776) :
    Calls Tryz.prog 17 #[.slice A n c, .slice A' n c'] w fun e w' => e = .returned (.bool true) ∧ Below w.heap.size w w' := by
  have HX := Lib.hid (hx.more hB)
  have HY := Lib.hid (hy.more hB')
  clear hx hy
  go_enter Tryz.func17, Tryz.ntmps17
  go_wp2
  go_loopw [5] (fun i wr => ∃ j : Nat, j ≤ n ∧ i = .int .i64 (j : Int) ∧ Below w.heap.size w wr) (fun i _ => n - (intOf i).toNat)
  case atStart => exact ⟨0, Nat.zero_le _, rfl, Below.refl _ _⟩
  case round =>
    obtain ⟨j, hj, rfl, hb⟩ := hrel
    by_cases hlt : j < n
    · obtain ⟨b, off, rfl, hbl, h1, h2⟩ := (HX.out.below hb (Nat.le_refl _)).at hlt
      obtain ⟨b', off', rfl, hbl', h3, h4⟩ := (HY.out.below hb (Nat.le_refl _)).at hlt
      have hsz := hb.size
      have HB := Lib.hid hb
      generalize fs.getD (2 * j) 0 = v0 at *
      generalize fs.getD (2 * j + 1) 0 = v1 at *
      have H1 := Lib.hid (And.intro h1 h2)
      have H2 := Lib.hid (And.intro h3 h4)
      have hl1 : b < wr.heap.size := Nat.lt_of_lt_of_le hbl hsz
      have hl2 : b' < wr.heap.size := Nat.lt_of_lt_of_le hbl' hsz
      clear h1 h2 h3 h4 hb hbl hbl'
      obtain ⟨wo, rfl⟩ : ∃ x, x = wr := ⟨_, rfl⟩
      go_wp2
      (refine wp_region_below (by kernel_rfl) (by kernel_rfl) ?_; (repeat (refine wpQuiet_step (fun K hK => ?_); go_simp; first | (refine hK _ ?_; clear hK K) | (apply Exists.intro; refine ⟨fun wq hq => ?_, hK _ ?_⟩; (first | rfl | (have c0 := (hq.cell (p := ⟨b, off + j * 2, none⟩) hl1).trans H1.out.1; have c1 := (hq.cell (p := ⟨b, off + j * 2 + 1, none⟩) hl1).trans H1.out.2; have d0 := (hq.cell (p := ⟨b', off' + j * 2, none⟩) hl2).trans H2.out.1; have d1 := (hq.cell (p := ⟨b', off' + j * 2 + 1, none⟩) hl2).trans H2.out.2; first | (go_simp; done) | (go_simp; rfl) | (first | (go_at_call 25; refine (eqFraction_yes v0 v1 _).mono ?_; rintro e w1 ⟨rfl, hb1⟩; exact ⟨rfl, Base.Below.nextA hq hb1⟩)))); clear hK K))); refine wpQuiet_nil ?_; intro wq hq)
      have HB1 := Lib.hid (HB.out.trans (hq.mono hsz))
      clear hq
      go_wp2
      go_roundw
      case rel => exact ⟨j + 1, hlt, by go_num, HB1.out⟩
      case measure => simp [intOf]; omega
    · obtain rfl : j = n := by omega
      have HB := Lib.hid hb
      go_wp2
      go_ret
      exact ⟨rfl, HB.out⟩
theorem mark1 {w : World} {B k n c g t : Nat} {fs : List Int} {v : Int} (h : w.ownsRow B 43 2 (.slice (some ⟨g, 0, none⟩) n c) n (ints (marks k t ++ fs.drop t))) (ht : t < fs.length) (hv : v = ((k + t : Nat) : Int)) :
    (w.setCell ⟨g, t, none⟩ (.int .i64 v)).ownsRow B 43 2 (.slice (some ⟨g, 0, none⟩) n c) n (ints (marks k (t + 1) ++ fs.drop (t + 1))) ∧ w.grownBy (w.setCell ⟨g, t, none⟩ (.int .i64 v)) (some g) := by
  subst hv
  obtain ⟨h1, h2⟩ := h.stored t (.int .i64 ((k + t : Nat) : Int))
  rw [ints_set, mixed_set k t fs ht] at h1
  exact ⟨h1, h2⟩
def chain2 (w : World) (g q Q : Nat) : World := (w.setCell ⟨g, q, none⟩ (.int .i64 (Q : Int))).setCell ⟨g, q + 1, none⟩ (.int .i64 ((Q : Int) + 1))
theorem mark2 {w : World} {B k n c g q Q : Nat} {fs : List Int} (h : w.ownsRow B 43 2 (.slice (some ⟨g, 0, none⟩) n c) n (ints (marks k q ++ fs.drop q))) (ht : q + 2 ≤ fs.length) (hQ : Q = k + q) :
    (chain2 w g q Q).ownsRow B 43 2 (.slice (some ⟨g, 0, none⟩) n c) n (ints (marks k (q + 2) ++ fs.drop (q + 2))) ∧ w.grownBy (chain2 w g q Q) (some g) := by
  obtain ⟨h1, g1⟩ := mark1 (t := q) (v := (Q : Int)) h (by omega) (by omega)
  obtain ⟨h2, g2⟩ := mark1 (t := q + 1) (v := (Q : Int) + 1) h1 (by omega) (by omega)
  exact ⟨h2, grown_trans g1 g2⟩
def MarkRelF (B k n : Nat) (A : Option Addr) (c : Nat) (fs : List Int) (w : World) (q i : Value) (wr : World) : Prop :=
  ∃ j Q : Nat, j ≤ n ∧ i = .int .i64 (j : Int) ∧ q = .int .i64 (Q : Int) ∧ Hid (Q = k + 2 * j) ∧ Hid (wr.ownsRow B 43 2 (.slice A n c) n (ints (marks k (2 * j) ++ fs.drop (2 * j)))) ∧ Hid (w.grownBy wr (Value.slice A n c).ownBlock)
set_option maxHeartbeats 1000000 in
set_option maxRecDepth 100000 in
theorem markF_any (A : Option Addr) (c B k n : Nat) (fs : List Int) (w : World) (hx : OwnF w B (.slice A n c) n fs) (hm : k + 2 * n ≤ 1099511627776) :
    Calls Tryz.prog 20 #[.slice A n c, .int .i64 k] w fun e w' => e = .returned (.int .i64 ((k + 2 * n : Nat) : Int)) ∧ OwnF w' B (.slice A n c) n (marks k (2 * n)) ∧ w.grownBy w' (Value.slice A n c).ownBlock := by
  have hlen := Lib.hid hx.len
  have H0 : Hid (MarkRelF B k n A c fs w (.int .i64 (k : Int)) (.int .i64 0) w) := Lib.hid ⟨0, k, Nat.zero_le _, rfl, rfl, Lib.hid rfl, Lib.hid (by have h0 : w.ownsRow B 43 2 (.slice A n c) n (ints fs) := hx; simpa [marks] using h0), Lib.hid (World.grownBy.refl w _)⟩
  clear hx
  go_enter Tryz.func20, Tryz.ntmps20
  go_wp2
  go_loopw [1, 5] (fun q i wr => MarkRelF B k n A c fs w q i wr) (fun _ i _ => n - (intOf i).toNat)
  case atStart => exact H0.out
  case round =>
    obtain ⟨j, Q, hj, rfl, rfl, hQ, hrow, hg⟩ := hrel
    by_cases hlt : j < n
    · obtain ⟨A', c', e, hf⟩ := ownsRow_form hrow.out
      injection e with e1 e2 e3
      subst e1 e3
      obtain ⟨g, rfl, _, _⟩ := hf (by omega)
      have hl := hlen.out
      have hcell : ∀ i, i < 2 → ∃ x : Int, wr.cell? ⟨g, j * 2 + i, none⟩ = some (.int .i64 x) := fun i hi => by
        have e1 := World.ownsRow.cellAt hrow.out (j * 2 + i) (by omega)
        rw [ints_get _ (j * 2 + i) (by simp [marks_len]; omega)] at e1
        exact ⟨_, e1⟩
      obtain ⟨x0, c0⟩ := hcell 0 (by decide)
      obtain ⟨x1, c1⟩ := hcell 1 (by decide)
      have z0 := hrow.out.frozenAt (j * 2)
      have z1 := hrow.out.frozenAt (j * 2 + 1)
      rw [Nat.add_zero] at c0
      have HN : Hid (MarkRelF B k n (some ⟨g, 0, none⟩) c fs w (.int .i64 ((Q : Int) + 1 + 1)) (.int .i64 ((j : Int) + 1)) (chain2 wr g (j * 2) Q)) := Lib.hid (by
        have h7 := mark2 (q := j * 2) (Q := Q) (k := k) (fs := fs) (by rw [Nat.mul_comm j 2]; exact hrow.out) (by omega) (by have := hQ.out; omega)
        rw [show j * 2 + 2 = 2 * (j + 1) by omega] at h7
        exact ⟨j + 1, Q + 2, hlt, by simp, by go_num, Lib.hid (by have := hQ.out; omega), Lib.hid h7.1, Lib.hid (grown_trans hg.out h7.2)⟩)
      have hQ2 : (Q : Int) + 2 ≤ 1099511627776 := by have := hQ.out; omega
      clear hrow hg hf hcell hl
      unfold chain2 at HN
      go_wp2
      go_roundw
      case rel => exact HN.out
      case measure => simp [intOf]; omega
    · obtain rfl : j = n := by omega
      have HR : Hid (OwnF wr B (.slice A j c) j (marks k (2 * j))) := Lib.hid (by
        have := hrow.out
        rw [List.drop_of_length_le (by have := hlen.out; omega), List.append_nil] at this
        exact this)
      clear hrow
      go_wp2
      go_ret
      exact ⟨ret_int (by rw [hQ.out]), HR.out, hg.out⟩
theorem infoFr : (Tryz.prog.info? 43).map (fun i => (i.zero, i.size, i.bytes)) = some (some (.agg #[.int .i64 0, .int .i64 0]), 2, 16) := by kernel_rfl
theorem news_two (w : World) (t : TypeId) {u0 u1 : Value} {g : Nat} (hg : g = w.heap.size) : ∀ (j : Nat) (x : Value), [u0, u1][j]? = some x → (w.alloc (.cells #[u0, u1] t)).cell? ((⟨g, 0, none⟩ : Addr).add j) = some x := by
  subst hg
  intro j x hx
  have e : (#[u0, u1] : Array Value)[j]? = some x := by rw [← Array.getElem?_toList]; exact hx
  rw [Addr.add_lit]
  exact (World.cell?_alloc_new w #[u0, u1] t (0 + j)).trans (by rw [Nat.zero_add]; exact e)
theorem ones_two {a b : Int} : ∀ u ∈ [Value.int .i64 a, .int .i64 b], u.oneCell' = true := by
  intro u hu
  simp only [List.mem_cons, List.not_mem_nil, or_false] at hu
  rcases hu with rfl | rfl <;> rfl
theorem OwnF_above {w w' : World} {B n : Nat} {v : Value} {fs : List Int} (h : OwnF w B v n fs) (hb : Above B w w') : OwnF w' B v n fs := ownsRow_above h hb
/-- a list of fractions that is returned, and whether there is one -/
def FsRet (N : Nat) (R : List Int) (ok : Bool) (w : World) (e : Ending) (w' : World) : Prop := ∃ A c, e = .returned (.tuple #[.slice A N c, .bool ok]) ∧ OwnF w' w.heap.size (.slice A N c) N R ∧ Below w.heap.size w w'
theorem FsRet.no {w w' : World} (h : Below w.heap.size w w') : FsRet 0 [] false w (.returned (.tuple #[.slice none 0 0, .bool false])) w' := ⟨none, 0, rfl, World.ownsRow_nil _ _ _ _, h⟩
end Go.Proofs.YtionognmgcabbaaGreat.MemF
/- Lists of fractions that are given, if all are small. -/
namespace Go.Proofs.YtionognmgcabbaaGreat.GiveM
open Go.RowKit Go.Proofs.YtionognmgcabbaaGreat Go.Proofs.YtionognmgcabbaaGreat.Base Go.Proofs.YtionognmgcabbaaGreat.Mem Go.Proofs.YtionognmgcabbaaGreat.MemF Go.Proofs.YtionognmgcabbaaGreat.RatM
set_option linter.unusedVariables false
def smallAll (f : Nat → Rat) (n : Nat) : Bool := (List.range n).all fun i => smallQ (f i)
def outF (f : Nat → Rat) : Nat → List Int
  | 0 => []
  | n + 1 => outF f n ++ [numQ (f n), denQ (f n)]
def gN (f : Nat → Rat) (n : Nat) : Nat := if smallAll f n then n else 0
def gR (f : Nat → Rat) (n : Nat) : List Int := if smallAll f n then outF f n else []
theorem small_no {f : Nat → Rat} {n i : Nat} (hi : i < n) (h : smallQ (f i) = false) : gN f n = 0 ∧ gR f n = [] ∧ smallAll f n = false := by
  have e : smallAll f n = false := by
    cases h' : smallAll f n with
    | false => rfl
    | true =>
      have := List.all_eq_true.1 h' i (List.mem_range.2 hi)
      rw [h] at this; cases this
  exact ⟨by rw [gN, e]; rfl, by rw [gR, e]; rfl, e⟩
theorem small_yes' {f : Nat → Rat} {n : Nat} (h : ∀ i, i < n → smallQ (f i) = true) : gN f n = n ∧ gR f n = outF f n ∧ smallAll f n = true := by
  have e : smallAll f n = true := List.all_eq_true.2 fun i hi => h i (List.mem_range.1 hi)
  exact ⟨by rw [gN, e]; rfl, by rw [gR, e]; rfl, e⟩
theorem outF_congr {f g : Nat → Rat} : ∀ {n : Nat}, (∀ i, i < n → f i = g i) → outF f n = outF g n
  | 0, _ => rfl
  | n + 1, h => by rw [outF, outF, outF_congr (fun i hi => h i (by omega)), h n (by omega)]
theorem give_congr {f g : Nat → Rat} {n : Nat} (h : ∀ i, i < n → f i = g i) : gN f n = gN g n ∧ gR f n = gR g n ∧ smallAll f n = smallAll g n := by
  have e : smallAll f n = smallAll g n := by
    unfold smallAll
    rw [Bool.eq_iff_iff, List.all_eq_true, List.all_eq_true]
    exact ⟨fun H i hi => by rw [← h i (List.mem_range.1 hi)]; exact H i hi, fun H i hi => by rw [h i (List.mem_range.1 hi)]; exact H i hi⟩
  refine ⟨by rw [gN, gN, e], ?_, e⟩
  rw [gR, gR, e, outF_congr h]
theorem gN_le (f : Nat → Rat) (n : Nat) : gN f n ≤ n := by unfold gN; split <;> omega
/-- the loop's state -/
def GRel (f : Nat → Rat) (n : Nat) (w : World) (iv sv : Value) (wr : World) : Prop :=
  ∃ i : Nat, iv = .int .i64 (i : Int) ∧ i ≤ n ∧ Hid (OwnF wr w.heap.size sv i (outF f i)) ∧ Hid (∀ j, j < i → smallQ (f j) = true) ∧ Hid (Below w.heap.size w wr)
theorem GRel.start (f : Nat → Rat) (n : Nat) (w : World) : GRel f n w (.int .i64 0) (.slice (some ⟨w.heap.size, 0, none⟩) 0 0) (w.alloc (.cells #[] 43)) := by
  refine ⟨0, rfl, Nat.zero_le _, Lib.hid ?_, Lib.hid (fun j hj => absurd hj (Nat.not_lt_zero j)), Lib.hid ((Below.refl _ _).alloc (Nat.le_refl _) _)⟩
  exact World.ownsRow_made w #[] 0 (Nat.le_refl _) (Nat.zero_le _) (by simp)
theorem GRel.next {f : Nat → Rat} {n i : Nat} {w wr w1 w2 : World} {sv v' : Value} {cs : Array Value} {t : TypeId} (hi : i < n) (hO : OwnF wr w.heap.size sv i (outF f i)) (ha : ∀ j, j < i → smallQ (f j) = true) (hv : smallQ (f i) = true) (hb : Below w.heap.size w wr) (h1 : Below wr.heap.size wr w1)
    (hown : w2.ownsRow w.heap.size 43 2 v' (i + 1) (ints (outF f i) ++ [.int .i64 (numQ (f i)), .int .i64 (denQ (f i))])) (hg : (w1.alloc (.cells cs t)).grownBy w2 sv.ownBlock) :
    GRel f n w (.int .i64 ((i : Int) + 1)) v' w2 := by
  have hrow : ∀ g, sv.ownBlock = some g → w.heap.size ≤ g ∧ g < wr.heap.size := fun g hgg => by
    obtain ⟨_, _, h1, h2⟩ := ownsRow_block hO hgg
    exact ⟨h1, h2⟩
  have h2 : Below wr.heap.size wr (w1.alloc (.cells cs t)) := h1.alloc h1.size _
  refine ⟨i + 1, by simp, hi, Lib.hid ?_, Lib.hid ?_, Lib.hid ?_⟩
  · show w2.ownsRow w.heap.size 43 2 v' (i + 1) (ints (outF f (i + 1)))
    rw [outF, show ints (outF f i ++ [numQ (f i), denQ (f i)]) = ints (outF f i) ++ [.int .i64 (numQ (f i)), .int .i64 (denQ (f i))] by simp [ints]]
    exact hown
  · intro j hj
    rcases Nat.lt_or_ge j i with h | h
    · exact ha j h
    · obtain rfl : j = i := by omega
      exact hv
  · exact (hb.trans (h2.mono hb.size)).trans (grown_below hg (fun g e => (hrow g e).1) (Nat.le_trans hb.size h2.size))
end Go.Proofs.YtionognmgcabbaaGreat.GiveM
/- Plain mathematics: numbers of two words of 64 bits. No program in sight. -/
set_option linter.unusedVariables false
namespace Go.Proofs.YtionognmgcabbaaGreat.TwoM
theorem mul_parts (x y : Nat) : x * y = 4294967296 * (4294967296 * (x / 4294967296 * (y / 4294967296))) + 4294967296 * (x / 4294967296 * (y % 4294967296)) + 4294967296 * (x % 4294967296 * (y / 4294967296)) + x % 4294967296 * (y % 4294967296) := by
  have hx := Nat.mod_add_div x 4294967296
  have hy := Nat.mod_add_div y 4294967296
  generalize x / 4294967296 = a at *
  generalize x % 4294967296 = b at *
  generalize y / 4294967296 = c at *
  generalize y % 4294967296 = d at *
  subst hx hy
  rw [Nat.add_mul, Nat.mul_add, Nat.mul_add]
  have e1 : 4294967296 * a * d = 4294967296 * (a * d) := Nat.mul_assoc _ _ _
  have e2 : b * (4294967296 * c) = 4294967296 * (b * c) := by rw [Nat.mul_left_comm]
  have e3 : 4294967296 * a * (4294967296 * c) = 4294967296 * (4294967296 * (a * c)) := by rw [Nat.mul_assoc, Nat.mul_left_comm a]
  rw [e1, e2, e3]
  omega
/-- a product of two numbers below 2^63 by halves -/
theorem times_two (x y : Nat) (hx : x < 9223372036854775808) (hy : y < 9223372036854775808) :
    ∃ P O T L : Nat, x / 4294967296 * (y / 4294967296) = P ∧ x / 4294967296 * (y % 4294967296) = O ∧ x % 4294967296 * (y / 4294967296) = T ∧ x % 4294967296 * (y % 4294967296) = L ∧
      P ≤ 4611686016279904256 ∧ O ≤ 9223372030412324865 ∧ T ≤ 9223372030412324865 ∧ L ≤ 18446744065119617025 ∧
      x * y / 18446744073709551616 = P + O / 4294967296 + T / 4294967296 + (L / 4294967296 + O % 4294967296 + T % 4294967296) / 4294967296 ∧
      x * y % 18446744073709551616 = (L / 4294967296 + O % 4294967296 + T % 4294967296) % 4294967296 * 4294967296 + L % 4294967296 := by
  have e := mul_parts x y
  have hP := Nat.mul_le_mul (show x / 4294967296 ≤ 2147483647 by omega) (show y / 4294967296 ≤ 2147483647 by omega)
  have hO := Nat.mul_le_mul (show x / 4294967296 ≤ 2147483647 by omega) (show y % 4294967296 ≤ 4294967295 by omega)
  have hT := Nat.mul_le_mul (show x % 4294967296 ≤ 4294967295 by omega) (show y / 4294967296 ≤ 2147483647 by omega)
  have hL := Nat.mul_le_mul (show x % 4294967296 ≤ 4294967295 by omega) (show y % 4294967296 ≤ 4294967295 by omega)
  refine ⟨_, _, _, _, rfl, rfl, rfl, rfl, by omega, by omega, by omega, by omega, ?_, ?_⟩
  · rw [e]
    generalize x / 4294967296 * (y / 4294967296) = P at *
    generalize x / 4294967296 * (y % 4294967296) = O at *
    generalize x % 4294967296 * (y / 4294967296) = T at *
    generalize x % 4294967296 * (y % 4294967296) = L at *
    omega
  · rw [e]
    generalize x / 4294967296 * (y / 4294967296) = P at *
    generalize x / 4294967296 * (y % 4294967296) = O at *
    generalize x % 4294967296 * (y / 4294967296) = T at *
    generalize x % 4294967296 * (y % 4294967296) = L at *
    omega
/-- one bit of a long division by a number below 2^62 -/
theorem split_bit {t i d q r : Nat} (hd : 0 < d) (hq : q = t / 2 ^ (i + 1) / d) (hr : r = t / 2 ^ (i + 1) % d) :
    (d ≤ 2 * r + t / 2 ^ i % 2 → t / 2 ^ i / d = 2 * q + 1 ∧ t / 2 ^ i % d = 2 * r + t / 2 ^ i % 2 - d) ∧ (2 * r + t / 2 ^ i % 2 < d → t / 2 ^ i / d = 2 * q ∧ t / 2 ^ i % d = 2 * r + t / 2 ^ i % 2) := by
  have h1 : t / 2 ^ i = 2 * (t / 2 ^ (i + 1)) + t / 2 ^ i % 2 := by
    have : t / 2 ^ (i + 1) = t / 2 ^ i / 2 := by rw [Nat.pow_succ, Nat.div_div_eq_div_mul]
    omega
  have h2 : t / 2 ^ i % 2 ≤ 1 := by omega
  generalize t / 2 ^ i % 2 = b at *
  generalize t / 2 ^ (i + 1) = h at *
  generalize t / 2 ^ i = g at *
  have h3 := Nat.div_add_mod h d
  have h4 := Nat.mod_lt h hd
  rw [← hq, ← hr] at h3
  rw [← hr] at h4
  have key : g = d * (2 * q) + (2 * r + b) := by
    rw [h1, ← h3, Nat.mul_add, Nat.mul_left_comm]; omega
  constructor
  · intro hle
    have : g = d * (2 * q + 1) + (2 * r + b - d) := by rw [key, Nat.mul_add d (2 * q) 1]; omega
    refine ⟨?_, ?_⟩
    · rw [this, Nat.mul_add_div hd, Nat.div_eq_of_lt (by omega), Nat.add_zero]
    · rw [this, Nat.mul_add_mod, Nat.mod_eq_of_lt (by omega)]
  · intro hlt
    refine ⟨?_, ?_⟩
    · rw [key, Nat.mul_add_div hd, Nat.div_eq_of_lt hlt, Nat.add_zero]
    · rw [key, Nat.mul_add_mod, Nat.mod_eq_of_lt hlt]
/-- the bits of the two words -/
theorem bit_high (t i : Nat) (h : 64 ≤ i) : t / 2 ^ i % 2 = t / 18446744073709551616 / 2 ^ (i - 64) % 2 := by
  rw [Nat.div_div_eq_div_mul, show (18446744073709551616 : Nat) = 2 ^ 64 by decide, ← Nat.pow_add]
  congr 3; omega
theorem bit_low (t i : Nat) (h : i < 64) : t / 2 ^ i % 2 = t % 18446744073709551616 / 2 ^ i % 2 := by
  have e : (18446744073709551616 : Nat) = 2 ^ i * (2 * 2 ^ (63 - i)) := by
    rw [← Nat.pow_succ', ← Nat.pow_add, show i + (63 - i + 1) = 64 by omega]
  rw [e, Nat.mod_mul_right_div_self, Nat.mod_mul_right_mod]
end Go.Proofs.YtionognmgcabbaaGreat.TwoM
/- A region that draws its order: a head whose operations leave a class of worlds (reads, calls that lay new memory), and a tail that waits for all of it and goes one operation after another. One walk serves every order. -/
namespace Go.Proofs.YtionognmgcabbaaGreat.Tail
open Go.RowKit Go.Proofs.YtionognmgcabbaaGreat Go.Proofs.YtionognmgcabbaaGreat.Base
set_option linter.unusedVariables false
section
variable {P : Program} {ops : Array Oper} {md : Region.Mode} {C : World → Prop}
/-- whatever order of the head is picked -/
def wpAnyT (P : Program) (md : Region.Mode) (ops : Array Oper) (C : World → Prop) (n : Nat) (L : Array Bool → Act → Prop) : Nat → Array Bool → Act → Prop
  | 0, listed, a => L listed a
  | f + 1, listed, a => Region.ready md ops listed ≠ [] ∧ ∀ i ∈ Region.ready md ops listed, i < n ∧ qOp P ops C i (wpAnyT P md ops C n L f (listed.setIfInBounds i true)) a
theorem wpAny_of_headT {n g : Nat} {L : Array Bool → Act → Prop} {Q' : Exit → Act → World → Prop} (hL : ∀ listed a w, C w → L listed a → wpAny P md ops Q' g listed a w) :
    ∀ (f : Nat) (listed : Array Bool) (a : Act) (w : World), C w → wpAnyT P md ops C n L f listed a → wpAny P md ops Q' (f + g) listed a w
  | 0, listed, a, w, hw, h => by rw [Nat.zero_add]; exact hL _ _ _ hw h
  | f + 1, listed, a, w, hw, h => by
    rw [show f + 1 + g = (f + g) + 1 by omega]
    exact ⟨fun h0 => absurd h0 h.1, fun i hi => wpOp_of_qOp hw (fun a' w' hw' h' => wpAny_of_headT hL f _ a' w' hw' h') (h.2 i hi).2⟩
theorem wpAnyT_first {n i : Nat} {oi : Oper} {v : Value} {L : Array Bool → Act → Prop} (hi : ops[i]? = some oi) (hsel : ∀ (j : Nat) (o : Oper) cs b, ops[j]? = some o → o.op ≠ .select cs b)
    (hs : Region.sinkB md ops n = true) (hc : Region.chainB md ops n = true) (hn : n < ops.size) (hin : i < n)
    (hdone : ∀ listed a, L listed a → ∀ j ∈ Region.ready md ops listed, n ≤ j) :
    ∀ (f : Nat) (listed : Array Bool) (a : Act), HeadInv md ops n listed →
      (∀ j oj, ops[j]? = some oj → j ≠ i → listed.getD j true = false → (∀ e ∈ oj.after, Region.binds md e = true → e.on ≠ i) → oi.apart ops oj = true) →
      i ∈ Region.ready md ops listed → YieldsIn P ops C oi v a →
      wpAnyT P md ops C n L f (listed.setIfInBounds i true) (a.put oi.dst v) → wpAnyT P md ops C n L (f + 1) listed a := by
  intro f
  induction f with
  | zero =>
    intro listed a inv _ hr hy H
    have hun := (mem_ready.1 hr).1
    refine ⟨fun h => (by rw [h] at hr; cases hr), fun j hj => ?_⟩
    have hjn : j < n := by
      rcases Nat.lt_or_ge j n with h | h
      · exact h
      · exact absurd hj (tail_waits hs hc hn inv _ i rfl hin hun j h)
    refine ⟨hjn, ?_⟩
    by_cases hji : j = i
    · subst hji; exact hy.qOp hi H
    · have := hdone _ _ H j (ready_mono hj hji)
      omega
  | succ f ih =>
    intro listed a inv hfree hr hy H
    have hun := (mem_ready.1 hr).1
    refine ⟨fun h => (by rw [h] at hr; cases hr), fun j hj => ?_⟩
    have hjn : j < n := by
      rcases Nat.lt_or_ge j n with h | h
      · exact h
      · exact absurd hj (tail_waits hs hc hn inv _ i rfl hin hun j h)
    refine ⟨hjn, ?_⟩
    by_cases hji : j = i
    · subst hji; exact hy.qOp hi H
    · have h1 := (H.2 j (ready_mono hj hji)).2
      obtain ⟨hjun, oj, hoj, hall⟩ := mem_ready.1 hj
      have hnot : ∀ e ∈ oj.after, Region.binds md e = true → e.on ≠ i := fun e he hb heq => by
        have h1 := hall e he hb
        rw [heq, getD_both hun] at h1
        cases h1
      have h2 := qOp_put hoj (hfree j oj hoj hji hjun hnot) (fun cs b => hsel i oi cs b hi) (fun cs b => hsel j oj cs b hoj) hy h1
      have hfree' : ∀ k ok, ops[k]? = some ok → k ≠ i → (listed.setIfInBounds j true).getD k true = false →
          (∀ e ∈ ok.after, Region.binds md e = true → e.on ≠ i) → oi.apart ops ok = true := fun k ok hk hki hun hno => by
        refine hfree k ok hk hki ?_ hno
        by_cases hjk : j = k
        · subst hjk; exact hjun
        · rw [getD_set_ne true hjk] at hun; exact hun
      refine qOp_mono (fun a' h3 => ih (listed.setIfInBounds j true) a' (inv.set hj hjn) hfree' (ready_mono hr (Ne.symm hji)) h3.1 ?_) h2
      rw [Array.setIfInBounds_comm _ _ hji]
      exact h3.2
theorem wpAnyT_lex {n g : Nat} {Lq : Act → Prop} (hsel : Region.noSelect ops = true) (hs : Region.sinkB md ops n = true) (hc : Region.chainB md ops n = true) (hn : n < ops.size) :
    ∀ (l : List Oper) (k : Nat) (listed : Array Bool) (a : Act), (∀ j, j < l.length → l[j]? = ops[k + j]?) → k + l.length = n → HeadInv md ops n listed →
    Region.lexHead md ops g l.length k listed = true → wpQuiet P ops C Lq l a →
    wpAnyT P md ops C n (fun listed' a' => Region.seqB md ops g n listed' = true ∧ Lq a') l.length listed a
  | [], k, listed, a, _, hk, _, hB, h => by
    have : k = n := by simpa using hk
    subst this
    exact ⟨by simpa [Region.lexHead] using hB, h⟩
  | o :: l, k, listed, a, hl, hk, inv, hB, h => by
    have h0 : ops[k]? = some o := by simpa using (hl 0 (by simp)).symm
    simp only [List.length_cons, Region.lexHead, Bool.and_eq_true] at hB
    obtain ⟨⟨hr, hf⟩, hB'⟩ := hB
    have hkn : k < n := by simp only [List.length_cons] at hk; omega
    have hr' : k ∈ Region.ready md ops listed := by simpa using hr
    have hst : qOp P ops C k (wpQuiet P ops C Lq l) a := by unfold qOp; simp only [h0]; exact h
    obtain ⟨v, hy, hK⟩ := yieldsIn_of_qOp h0 hst
    exact wpAnyT_first h0 (Region.noSelect_spec hsel) hs hc hn hkn (fun listed' a' hL => seqB_ready hL.1) l.length listed a inv (Region.free_spec h0 hf) hr' hy
      (wpAnyT_lex hsel hs hc hn l (k + 1) _ _ (fun j hj => by have := hl (j + 1) (by simp; omega); simpa [Nat.add_assoc, Nat.add_comm 1 j] using this) (by simp only [List.length_cons] at hk; omega) (inv.set hr' hkn) hB' hK)
theorem wp_region_quiet_tail {id : Nat} {Q : Exit → Act → World → Prop} {a : Act} {w : World} {l : List Oper} (n : Nat) (hm : P.follows .mixedOrders = true) (hB : Region.lexTailB .any l.toArray n = true) (hC : C { w with drawn := w.drawn + 1 })
    (h : wpQuiet P l.toArray C (fun a' => ∀ w', C w' → wpList P l.toArray Q (l.drop n) a' w') (l.take n) a) : (Code.region id l.toArray true).wp P Q a w := by
  simp only [Region.lexTailB, Bool.and_eq_true, decide_eq_true_eq] at hB
  obtain ⟨⟨⟨⟨hsel, hn⟩, hs⟩, hc⟩, hlex⟩ := hB
  have hn' : n < l.length := by simpa using hn
  have htl : (l.take n).length = n := by simp; omega
  have hdl : (l.drop n).length = l.toArray.size - n := by simp
  have inv0 : HeadInv .any l.toArray n (Array.replicate l.toArray.size false) :=
    ⟨by simp, fun j oj _ hl => (by rw [getD_replicate_false] at hl; cases hl), fun t _ ht => getD_in (by simpa using ht) (getD_replicate_false _ _)⟩
  have H := wpAnyT_lex (C := C) (md := .any) (g := l.toArray.size - n) hsel hs hc hn (l.take n) 0 _ a (fun j hj => by
    have hj' : j < n := by rw [htl] at hj; exact hj
    simp [hj']) (by simpa using htl) inv0 (by rw [htl]; exact hlex) h
  refine wp_region_any hm ?_
  have := wpAny_of_headT (Q' := Q) (g := l.toArray.size - n) (fun listed a' w' hw' hL => by
    have := wpAny_of_seq (md := .any) (Q' := Q) (l.drop n) n listed a' w' (fun j => by simp [List.getElem?_drop]) (by rw [hdl]; exact hL.1) (hL.2 w' hw')
    rwa [hdl] at this) _ _ _ _ hC H
  rw [htl, show n + (l.toArray.size - n) = l.toArray.size by omega] at this
  exact this
end
end Go.Proofs.YtionognmgcabbaaGreat.Tail
/- The reference's numbers of two words: products, sums, differences, comparison. -/
namespace Go.Proofs.YtionognmgcabbaaGreat.Two
open Go.RowKit Go.Proofs.YtionognmgcabbaaGreat Go.Proofs.YtionognmgcabbaaGreat.Base Go.Proofs.YtionognmgcabbaaGreat.Mem Go.Proofs.YtionognmgcabbaaGreat.TwoM Go.Proofs.YtionognmgcabbaaGreat.Blk
set_option linter.unusedVariables false
/-- a number of two words -/
def two (t : Nat) : Value := .agg #[.int .u64 ((t / 18446744073709551616 : Nat) : Int), .int .u64 ((t % 18446744073709551616 : Nat) : Int)]
theorem u64_or (a b : Nat) (ha : a < 18446744073709551616) (hb : b < 18446744073709551616) : bits .or .u64 (a : Int) (b : Int) = ((a ||| b : Nat) : Int) := by
  have hx : a ||| b < 2 ^ 64 := Nat.or_lt_two_pow (by omega) (by omega)
  have e : ∀ z : Nat, z < 18446744073709551616 → (BitVec.ofInt 64 (z : Int)).toNat = z := fun z hz => by
    rw [BitVec.ofInt_natCast, BitVec.toNat_ofNat]; exact Nat.mod_eq_of_lt (by omega)
  show IntKind.u64.wrap ((BitVec.ofInt 64 (a : Int) ||| BitVec.ofInt 64 (b : Int)).toNat : Int) = _
  rw [BitVec.toNat_or, e a ha, e b hb, IntKind.wrap_u64]
  omega
theorem or_parts {a b k : Nat} (hb : b < 2 ^ k) (h : a * 2 ^ k + b < 18446744073709551616) : bits .or .u64 ((a * 2 ^ k : Nat) : Int) (b : Int) = ((a * 2 ^ k + b : Nat) : Int) := by
  rw [u64_or _ _ (by omega) (by omega)]
  have e := Nat.shiftLeft_add_eq_or_of_lt hb a
  rw [Nat.shiftLeft_eq] at e
  rw [e]
set_option maxHeartbeats 2000000 in
set_option maxRecDepth 100000 in
theorem times_any (x y : Nat) (hx : x ≤ 1000000000000000000) (hy : y ≤ 1000000000000000000) (w : World) : Calls Tryz.prog 171 #[.int .i64 (x : Int), .int .i64 (y : Int)] w fun e w' => e = .returned (two (x * y)) ∧ Below w.heap.size w w' := by
  obtain ⟨P, O, T, L, hP, hO, hT, hL, lP, lO, lT, lL, e1, e2⟩ := times_two x y (by omega) (by omega)
  unfold two
  rw [e1, e2]
  have rP : (x : Int) / 4294967296 * ((y : Int) / 4294967296) = (P : Int) := by rw [← hP]; simp
  have rO : (x : Int) / 4294967296 * ((y : Int) % 4294967296) = (O : Int) := by rw [← hO]; simp
  have rT : (x : Int) % 4294967296 * ((y : Int) / 4294967296) = (T : Int) := by rw [← hT]; simp
  have rL : (x : Int) % 4294967296 * ((y : Int) % 4294967296) = (L : Int) := by rw [← hL]; simp
  obtain ⟨L1, hL1⟩ : ∃ L1, L1 = L / 4294967296 := ⟨_, rfl⟩
  obtain ⟨L0, hL0⟩ : ∃ L0, L0 = L % 4294967296 := ⟨_, rfl⟩
  obtain ⟨O1, hO1⟩ : ∃ O1, O1 = O / 4294967296 := ⟨_, rfl⟩
  obtain ⟨O0, hO0⟩ : ∃ O0, O0 = O % 4294967296 := ⟨_, rfl⟩
  obtain ⟨T1, hT1⟩ : ∃ T1, T1 = T / 4294967296 := ⟨_, rfl⟩
  obtain ⟨T0, hT0⟩ : ∃ T0, T0 = T % 4294967296 := ⟨_, rfl⟩
  rw [← hL1, ← hL0, ← hO1, ← hO0, ← hT1, ← hT0]
  have r1 : (L : Int) / 4294967296 = (L1 : Int) := by omega
  have r2 : (L : Int) % 4294967296 = (L0 : Int) := by omega
  have r3 : (O : Int) / 4294967296 = (O1 : Int) := by omega
  have r4 : (O : Int) % 4294967296 = (O0 : Int) := by omega
  have r5 : (T : Int) / 4294967296 = (T1 : Int) := by omega
  have r6 : (T : Int) % 4294967296 = (T0 : Int) := by omega
  have b1 : L1 < 4294967296 := by omega
  have b2 : L0 < 4294967296 := by omega
  have b3 : O1 < 4294967296 := by omega
  have b4 : O0 < 4294967296 := by omega
  have b5 : T1 < 4294967296 := by omega
  have b6 : T0 < 4294967296 := by omega
  clear hL1 hL0 hO1 hO0 hT1 hT0 hP hO hT hL e1 e2
  obtain ⟨M, hM⟩ : ∃ M, M = L1 + O0 + T0 := ⟨_, rfl⟩
  obtain ⟨M1, hM1⟩ : ∃ M1, M1 = M / 4294967296 := ⟨_, rfl⟩
  obtain ⟨M0, hM0⟩ : ∃ M0, M0 = M % 4294967296 := ⟨_, rfl⟩
  rw [← hM, ← hM1, ← hM0]
  have c1 : M1 < 4294967296 := by omega
  have c2 : M0 < 4294967296 := by omega
  have s1 : IntKind.u64.wrap ((L1 : Int) + (O0 : Int)) = ((L1 + O0 : Nat) : Int) := by rw [IntKind.wrap_u64]; omega
  have s2 : IntKind.u64.wrap (((L1 + O0 : Nat) : Int) + (T0 : Int)) = (M : Int) := by rw [IntKind.wrap_u64]; omega
  have s3 : (M : Int) / 4294967296 = (M1 : Int) := by omega
  have t1 : IntKind.u64.wrap ((P : Int) + (O1 : Int)) = ((P + O1 : Nat) : Int) := by rw [IntKind.wrap_u64]; omega
  have t2 : IntKind.u64.wrap (((P + O1 : Nat) : Int) + (T1 : Int)) = ((P + O1 + T1 : Nat) : Int) := by rw [IntKind.wrap_u64]; omega
  have t3 : IntKind.u64.wrap (((P + O1 + T1 : Nat) : Int) + (M1 : Int)) = ((P + O1 + T1 + M1 : Nat) : Int) := by rw [IntKind.wrap_u64]; omega
  obtain ⟨A1, hA1⟩ : ∃ A1, A1 = L1 + O0 := ⟨_, rfl⟩
  obtain ⟨A2, hA2⟩ : ∃ A2, A2 = P + O1 := ⟨_, rfl⟩
  obtain ⟨A3, hA3⟩ : ∃ A3, A3 = A2 + T1 := ⟨_, rfl⟩
  obtain ⟨A4, hA4⟩ : ∃ A4, A4 = A3 + M1 := ⟨_, rfl⟩
  rw [← hA1] at s1 s2
  rw [← hA2] at t1 t2 t3
  rw [← hA3] at t2 t3
  rw [← hA4] at t3
  rw [← hA2, ← hA3, ← hA4]
  have HM := Lib.hid (And.intro hM (And.intro hM1 hM0))
  have hw : IntKind.u64.wrap ((M : Int) * 4294967296) = ((M0 * 2 ^ 32 : Nat) : Int) := by rw [IntKind.wrap_u64]; omega
  have hor := or_parts (a := M0) (b := L0) (k := 32) (by omega) (by omega)
  rw [← hw] at hor
  have hN : M0 * 4294967296 + L0 = M0 * 2 ^ 32 + L0 := by omega
  rw [hN]
  obtain ⟨N, hNe⟩ : ∃ N, N = M0 * 2 ^ 32 + L0 := ⟨_, rfl⟩
  rw [← hNe] at hor
  rw [← hNe]
  clear hw hN hNe
  clear hA1 hA2 hA3 hA4 hM hM1 hM0
  go_enter Tryz.func171, Tryz.ntmps171
  go_wp2
  go_quiet (fail)
  go_wp2
  go_quiet (fail)
  go_wp2
  go_quiet (fail)
  go_wp2
  go_quiet (fail)
  go_wp2
  rename_i n1 n2 n3 _ _
  obtain ⟨W, hW⟩ : ∃ W, W = (((((w.alloc (.cells #[.int .u64 0, .int .u64 0] 189)).drewN n1).drewN n2).drewN n3).drewN nq) := ⟨_, rfl⟩
  rw [← hW]
  have K : Blk W w.heap.size 189 #[.int .u64 0, .int .u64 0] := by rw [hW]; exact Blk.new w _ _
  have hB : Below w.heap.size w W := by rw [hW]; exact below_drewN (below_drewN (below_drewN (below_drewN ((Below.refl _ _).alloc (Nat.le_refl _) _) _) _) _) _
  have HK := Lib.hid K
  have HB := Lib.hid hB
  clear hW K hB
  (refine Tail.wp_region_quiet_tail (C := fun w' => ∃ n, w' = World.drewN W n) 26 (by kernel_rfl) (by kernel_rfl) ⟨1, rfl⟩ ?_; simp only [List.take_succ_cons, List.take_zero, List.drop_succ_cons, List.drop_zero]; (repeat (go_big_quiet_step (fail))); refine wpQuiet_nil ?_; rintro _ ⟨nq, rfl⟩)
  have S := ((HK.out.drewN nq).setTo 0 (.int .u64 (A4 : Int)) rfl).setTo 1 (.int .u64 (N : Int)) rfl
  have k0 := (HK.out.drewN nq).at 0 rfl
  have k1 := (HK.out.drewN nq).at 1 rfl
  have z0 := (HK.out.drewN nq).frz 0
  have z1 := (HK.out.drewN nq).frz 1
  have q0 := S.at 0 rfl
  have q1 := S.at 1 rfl
  go_wp2
  refine bodyPost_ret (v := .agg #[.int .u64 (A4 : Int), .int .u64 (N : Int)]) (by simp [results, Tryz.results171, go_sem, q0, q1]) rfl ⟨rfl, ?_⟩
  exact ((below_drewN HB.out nq).setCell (by simp) _).setCell (by simp) _
end Go.Proofs.YtionognmgcabbaaGreat.Two
/- The reference's numbers of two words: comparison, sums, differences, what is small. -/
namespace Go.Proofs.YtionognmgcabbaaGreat.Two
open Go.RowKit Go.Proofs.YtionognmgcabbaaGreat Go.Proofs.YtionognmgcabbaaGreat.Base Go.Proofs.YtionognmgcabbaaGreat.Mem Go.Proofs.YtionognmgcabbaaGreat.TwoM Go.Proofs.YtionognmgcabbaaGreat.Blk
set_option linter.unusedVariables false
set_option maxHeartbeats 2000000 in
set_option maxRecDepth 100000 in
theorem less_any (t s : Nat) (w : World) : Calls Tryz.prog 177 #[two t, two s] w fun e w' => e = .returned (.bool (decide (t < s))) ∧ Below w.heap.size w w' := by
  unfold two
  have HE : Hid (t < s ↔ (t / 18446744073709551616 < s / 18446744073709551616 ∨ (t / 18446744073709551616 = s / 18446744073709551616 ∧ t % 18446744073709551616 < s % 18446744073709551616))) := Lib.hid (by omega)
  generalize t / 18446744073709551616 = th at *
  generalize t % 18446744073709551616 = tl at *
  generalize s / 18446744073709551616 = sh at *
  generalize s % 18446744073709551616 = sl at *
  have HB : Hid (Below w.heap.size w ((w.alloc (.cells #[.int .u64 (th : Int), .int .u64 (tl : Int)] 189)).alloc (.cells #[.int .u64 (sh : Int), .int .u64 (sl : Int)] 189))) := Lib.hid (((Below.refl _ _).alloc (Nat.le_refl _) _).alloc (by simp) _)
  rcases Nat.lt_trichotomy th sh with h | h | h
  · have h1 : decide (th < sh) = true := decide_eq_true h
    have hr : decide (t < s) = true := decide_eq_true (HE.out.2 (.inl h))
    rw [hr]
    clear hr h
    go_enter Tryz.func177, Tryz.ntmps177
    go_wp2
    go_ret
    exact ⟨rfl, HB.out⟩
  · subst h
    have h1 : decide (th < th) = false := decide_eq_false (by omega)
    have h2 : ((th : Int) == (th : Int)) = true := by simp
    have hr : decide (t < s) = decide (tl < sl) := by
      rw [Bool.eq_iff_iff, decide_eq_true_eq, decide_eq_true_eq, HE.out]; omega
    rw [hr]
    clear hr
    by_cases hl : tl < sl
    · have h3 : decide (tl < sl) = true := decide_eq_true hl
      clear hl
      go_enter Tryz.func177, Tryz.ntmps177
      go_wp2
      go_ret
      exact ⟨ret_bool (by first | rfl | simp [h3]), HB.out⟩
    · have h3 : decide (tl < sl) = false := decide_eq_false hl
      clear hl
      go_enter Tryz.func177, Tryz.ntmps177
      go_wp2
      go_ret
      exact ⟨ret_bool (by first | rfl | simp [h3]), HB.out⟩
  · have h1 : decide (th < sh) = false := decide_eq_false (by omega)
    have h2 : ((th : Int) == (sh : Int)) = false := by simp only [beq_eq_false_iff_ne]; omega
    have hr : decide (t < s) = false := decide_eq_false (by rw [HE.out]; omega)
    rw [hr]
    clear hr h
    go_enter Tryz.func177, Tryz.ntmps177
    go_wp2
    go_ret
    exact ⟨rfl, HB.out⟩
set_option maxHeartbeats 2000000 in
set_option maxRecDepth 100000 in
theorem small_any (t : Nat) (w : World) : Calls Tryz.prog 170 #[two t] w fun e w' => e = .returned (.tuple #[.int .i64 ((if t ≤ 1000000000000000000 then t else 0 : Nat) : Int), .bool (decide (t ≤ 1000000000000000000))]) ∧ Below w.heap.size w w' := by
  unfold two
  have HE : Hid (t ≤ 1000000000000000000 ↔ (t / 18446744073709551616 = 0 ∧ t % 18446744073709551616 ≤ 1000000000000000000)) := Lib.hid (by omega)
  have HE2 : Hid (t ≤ 1000000000000000000 → t % 18446744073709551616 = t) := Lib.hid (by omega)
  generalize t / 18446744073709551616 = th at *
  generalize t % 18446744073709551616 = tl at *
  have HB : Hid (Below w.heap.size w (w.alloc (.cells #[.int .u64 (th : Int), .int .u64 (tl : Int)] 189))) := Lib.hid ((Below.refl _ _).alloc (Nat.le_refl _) _)
  by_cases h0 : th = 0
  · subst h0
    by_cases hl : tl ≤ 1000000000000000000
    · have hr := HE.out.2 ⟨rfl, hl⟩
      have hd : decide (t ≤ 1000000000000000000) = true := decide_eq_true hr
      rw [if_pos hr, hd]
      obtain rfl := HE2.out hr
      have h2 : ¬ 1000000000000000000 < tl := by omega
      clear hr hd
      go_enter Tryz.func170, Tryz.ntmps170
      go_wp2
      go_ret2
      exact ⟨rfl, HB.out⟩
    · have hr : ¬ t ≤ 1000000000000000000 := by rw [HE.out]; omega
      have hd : decide (t ≤ 1000000000000000000) = false := decide_eq_false hr
      rw [if_neg hr, hd]
      have h2 : 1000000000000000000 < tl := by omega
      clear hr hd hl
      go_enter Tryz.func170, Tryz.ntmps170
      go_wp2
      go_ret2
      exact ⟨rfl, HB.out⟩
  · have hr : ¬ t ≤ 1000000000000000000 := by rw [HE.out]; omega
    have hd : decide (t ≤ 1000000000000000000) = false := decide_eq_false hr
    rw [if_neg hr, hd]
    have h2 : 0 < th := by omega
    clear hr hd h0
    go_enter Tryz.func170, Tryz.ntmps170
    go_wp2
    go_ret2
    exact ⟨rfl, HB.out⟩
set_option maxHeartbeats 2000000 in
set_option maxRecDepth 100000 in
theorem plus_any (t s : Nat) (ht : t < 85070591730234615865843651857942052864) (hs : s < 85070591730234615865843651857942052864) (w : World) : Calls Tryz.prog 176 #[two t, two s] w fun e w' => e = .returned (two (t + s)) ∧ Below w.heap.size w w' := by
  unfold two
  have E1 : Hid ((t + s) / 18446744073709551616 = t / 18446744073709551616 + s / 18446744073709551616 + (t % 18446744073709551616 + s % 18446744073709551616) / 18446744073709551616) := Lib.hid (by omega)
  have E2 : Hid ((t + s) % 18446744073709551616 = (t % 18446744073709551616 + s % 18446744073709551616) % 18446744073709551616) := Lib.hid (by omega)
  rw [E1.out, E2.out]
  have b1 : t / 18446744073709551616 ≤ 4611686018427387904 := by omega
  have b2 : s / 18446744073709551616 ≤ 4611686018427387904 := by omega
  have b3 : t % 18446744073709551616 < 18446744073709551616 := Nat.mod_lt _ (by decide)
  have b4 : s % 18446744073709551616 < 18446744073709551616 := Nat.mod_lt _ (by decide)
  clear E1 E2 ht hs
  generalize t / 18446744073709551616 = th at *
  generalize t % 18446744073709551616 = tl at *
  generalize s / 18446744073709551616 = sh at *
  generalize s % 18446744073709551616 = sl at *
  obtain ⟨l, hl⟩ : ∃ l, l = (tl + sl) % 18446744073709551616 := ⟨_, rfl⟩
  rw [← hl]
  have hw : IntKind.u64.wrap ((tl : Int) + (sl : Int)) = (l : Int) := by rw [IntKind.wrap_u64]; omega
  have hB : ∀ c d, Below w.heap.size w ((((w.alloc (.cells #[.int .u64 (th : Int), .int .u64 (tl : Int)] 189)).alloc (.cells #[.int .u64 (sh : Int), .int .u64 (sl : Int)] 189)).alloc (.cells d 189)).alloc (.cells c 189)) := fun c d => ((((Below.refl _ _).alloc (Nat.le_refl _) _).alloc (by simp) _).alloc (by simp; omega) _).alloc (by simp; omega) _
  have HB := Lib.hid hB
  clear hB
  by_cases hc : 18446744073709551616 ≤ tl + sl
  · have hlt : decide (l < tl) = true := decide_eq_true (by omega)
    have hd : (tl + sl) / 18446744073709551616 = 1 := by omega
    rw [hd]
    have HL := Lib.hid hl
    clear hl hd hc
    go_enter Tryz.func176, Tryz.ntmps176
    go_wp2
    exact bodyPost_ret (v := .agg #[.int .u64 ((th : Int) + (sh : Int) + 1), .int .u64 (l : Int)]) (by simp [results, Tryz.results176, go_sem]) rfl ⟨by simp, HB.out _ _⟩
  · have hlt : decide (l < tl) = false := decide_eq_false (by omega)
    have hd : (tl + sl) / 18446744073709551616 = 0 := by omega
    rw [hd]
    have HL := Lib.hid hl
    clear hl hd hc
    go_enter Tryz.func176, Tryz.ntmps176
    go_wp2
    exact bodyPost_ret (v := .agg #[.int .u64 ((th : Int) + (sh : Int)), .int .u64 (l : Int)]) (by simp [results, Tryz.results176, go_sem]) rfl ⟨by simp, HB.out _ _⟩
set_option maxHeartbeats 2000000 in
set_option maxRecDepth 100000 in
theorem minus_any (t s : Nat) (ht : t < 85070591730234615865843651857942052864) (hs : s ≤ t) (w : World) : Calls Tryz.prog 178 #[two t, two s] w fun e w' => e = .returned (two (t - s)) ∧ Below w.heap.size w w' := by
  unfold two
  have b1 : t / 18446744073709551616 ≤ 4611686018427387904 := by omega
  have b2 : s / 18446744073709551616 ≤ t / 18446744073709551616 := by omega
  have b3 : t % 18446744073709551616 < 18446744073709551616 := Nat.mod_lt _ (by decide)
  have b4 : s % 18446744073709551616 < 18446744073709551616 := Nat.mod_lt _ (by decide)
  have E1 : Hid (t % 18446744073709551616 < s % 18446744073709551616 → (t - s) / 18446744073709551616 + s / 18446744073709551616 + 1 = t / 18446744073709551616 ∧ (t - s) % 18446744073709551616 = t % 18446744073709551616 + 18446744073709551616 - s % 18446744073709551616) := Lib.hid (by omega)
  have E2 : Hid (¬ t % 18446744073709551616 < s % 18446744073709551616 → (t - s) / 18446744073709551616 + s / 18446744073709551616 = t / 18446744073709551616 ∧ (t - s) % 18446744073709551616 = t % 18446744073709551616 - s % 18446744073709551616) := Lib.hid (by omega)
  clear ht hs
  generalize t / 18446744073709551616 = th at *
  generalize t % 18446744073709551616 = tl at *
  generalize s / 18446744073709551616 = sh at *
  generalize s % 18446744073709551616 = sl at *
  generalize (t - s) / 18446744073709551616 = rh at *
  generalize (t - s) % 18446744073709551616 = rl at *
  have hB : ∀ c d, Below w.heap.size w ((((w.alloc (.cells #[.int .u64 (th : Int), .int .u64 (tl : Int)] 189)).alloc (.cells #[.int .u64 (sh : Int), .int .u64 (sl : Int)] 189)).alloc (.cells d 189)).alloc (.cells c 189)) := fun c d => ((((Below.refl _ _).alloc (Nat.le_refl _) _).alloc (by simp) _).alloc (by simp; omega) _).alloc (by simp; omega) _
  have HB := Lib.hid hB
  clear hB
  by_cases hc : tl < sl
  · obtain ⟨e1, e2⟩ := E1.out hc
    have hw : IntKind.u64.wrap ((tl : Int) - (sl : Int)) = (rl : Int) := by rw [IntKind.wrap_u64]; omega
    have hw2 : (th : Int) - (sh : Int) = (rh : Int) + 1 := by omega
    have b5 : rh ≤ 4611686018427387904 := by omega
    have hlt : decide (tl < sl) = true := decide_eq_true hc
    clear hc e1 e2 E1 E2
    go_enter Tryz.func178, Tryz.ntmps178
    go_wp2
    exact bodyPost_ret (v := .agg #[.int .u64 (rh : Int), .int .u64 (rl : Int)]) (by simp [results, Tryz.results178, go_sem]) rfl ⟨by simp, HB.out _ _⟩
  · obtain ⟨e1, e2⟩ := E2.out hc
    have hw : IntKind.u64.wrap ((tl : Int) - (sl : Int)) = (rl : Int) := by rw [IntKind.wrap_u64]; omega
    have hw1 : (tl : Int) - (sl : Int) = (rl : Int) := by omega
    have hw2 : (th : Int) - (sh : Int) = (rh : Int) := by omega
    have b5 : rh ≤ 4611686018427387904 := by omega
    have hlt : decide (tl < sl) = false := decide_eq_false hc
    clear hc e1 e2 E1 E2
    go_enter Tryz.func178, Tryz.ntmps178
    go_wp2
    exact bodyPost_ret (v := .agg #[.int .u64 (rh : Int), .int .u64 (rl : Int)]) (by simp [results, Tryz.results178, go_sem]) rfl ⟨by simp, HB.out _ _⟩
end Go.Proofs.YtionognmgcabbaaGreat.Two

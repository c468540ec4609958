/- Lists of fractions in memory: two cells an element. Equality, marks, holding. -/
import Derived.Test.YtjkcdnfmmfpbjaaCopy
import Derived.Test.YtjkcdnfmmfpbjaaCuts
namespace Go.Proofs.Ytjkcdnfmmfpbjaa.MemF
open Go.RowKit Go.Proofs.Ytjkcdnfmmfpbjaa Go.Proofs.Ytjkcdnfmmfpbjaa.Base Go.Proofs.Ytjkcdnfmmfpbjaa.Mem
set_option linter.unusedVariables false
theorem eqFraction_yes (a b : Int) (w : World) : Calls Try.prog 12 #[.agg #[.int .i64 a, .int .i64 b], .agg #[.int .i64 a, .int .i64 b]] w fun e w' => e = .returned (.bool true) ∧ Below w.heap.size w w' := by
  go_enter Try.func12, Try.ntmps12
  go_wp2
  go_ret
  exact ⟨rfl, ((Below.refl _ _).alloc (Nat.le_refl _) _).alloc (by simp) _⟩
/-- the n fractions whose numbers are fs lie behind A, in a block below B -/
def RdF (w : World) (B : Nat) (A : Option Addr) (n : Nat) (fs : List Int) : Prop :=
  0 < n → ∃ b off, A = some ⟨b, off, none⟩ ∧ b < B ∧ ∀ i, i < 2 * n → w.cell? ⟨b, off + i, none⟩ = some (.int .i64 (fs.getD i 0))
theorem RdF.below {w w' : World} {B C n : Nat} {A : Option Addr} {fs : List Int} (h : RdF w B A n fs) (hb : Below C w w') (hBC : B ≤ C) : RdF w' B A n fs := fun h0 => by
  obtain ⟨b, off, e, hlt, hc⟩ := h h0
  exact ⟨b, off, e, hlt, fun i hi => (hb.cell (p := ⟨b, off + i, none⟩) (by show b < C; omega)).trans (hc i hi)⟩
theorem RdF.more {w : World} {B C n : Nat} {A : Option Addr} {fs : List Int} (h : RdF w B A n fs) (hBC : B ≤ C) : RdF w C A n fs := fun h0 => by
  obtain ⟨b, off, e, hlt, hc⟩ := h h0
  exact ⟨b, off, e, by omega, hc⟩
/-- the n fractions are the call's own -/
def OwnF (w : World) (B : Nat) (v : Value) (n : Nat) (fs : List Int) : Prop := w.ownsRow B 23 2 v n (ints fs)
theorem OwnF.len {w : World} {B n : Nat} {v : Value} {fs : List Int} (h : OwnF w B v n fs) : fs.length = 2 * n := by
  have := h.1
  rw [ints_len] at this
  omega
theorem OwnF.form {w : World} {B n : Nat} {v : Value} {fs : List Int} (h : OwnF w B v n fs) : ∃ A c, v = .slice A n c ∧ (0 < n → ∃ g, A = some ⟨g, 0, none⟩ ∧ B ≤ g ∧ g < w.heap.size) := ownsRow_form h
theorem OwnF.rd {w : World} {B n m c : Nat} {A : Option Addr} {fs : List Int} (h : OwnF w B (.slice A m c) n fs) : RdF w w.heap.size A n fs := fun h0 => by
  obtain ⟨A', c', e, hf⟩ := ownsRow_form h
  injection e with e1 e2 e3
  subst e1 e2 e3
  obtain ⟨g, rfl, _, hlt⟩ := hf h0
  refine ⟨g, 0, rfl, hlt, fun i hi => ?_⟩
  have hl := h.len
  rw [Nat.zero_add, World.ownsRow.cellAt h i (by omega), ints_get fs i (by omega)]
theorem OwnF.below {w w' : World} {B n : Nat} {v : Value} {fs : List Int} (h : OwnF w B v n fs) (hb : Below w.heap.size w w') : OwnF w' B v n fs := ownsRow_below h hb
/-- element j of a list that is read -/
theorem RdF.at {w : World} {B n : Nat} {A : Option Addr} {fs : List Int} (h : RdF w B A n fs) {j : Nat} (hj : j < n) : ∃ b off, A = some ⟨b, off, none⟩ ∧ b < B ∧ w.cell? ⟨b, off + j * 2, none⟩ = some (.int .i64 (fs.getD (2 * j) 0)) ∧ w.cell? ⟨b, off + j * 2 + 1, none⟩ = some (.int .i64 (fs.getD (2 * j + 1) 0)) := by
  obtain ⟨b, off, e, hlt, hc⟩ := h (by omega)
  refine ⟨b, off, e, hlt, ?_, ?_⟩
  · have := hc (2 * j) (by omega); rw [Nat.mul_comm j 2]; exact this
  · have := hc (2 * j + 1) (by omega); rw [← Nat.add_assoc] at this; rw [Nat.mul_comm j 2]; exact this
set_option maxHeartbeats 1000000 in
set_option maxRecDepth 100000 in
theorem heldF_yes (A : Option Addr) (c B k n : Nat) (w : World) (hx : RdF w B A n (marks k (2 * n))) (hm : k + 2 * n ≤ 1099511627776) :
    Calls Try.prog 20 #[.slice A n c, .int .i64 k] w fun e w' => e = .returned (.int .i64 ((k + 2 * n : Nat) : Int)) ∧ w = w' := by
  have HX := Lib.hid hx
  clear hx
  go_enter Try.func20, Try.ntmps20
  go_wp2
  go_loop [1, 5] (fun q i => ∃ j Q : Nat, j ≤ n ∧ i = .int .i64 (j : Int) ∧ q = .int .i64 (Q : Int) ∧ Hid (Q = k + 2 * j)) (fun _ i => n - (intOf i).toNat)
  case atStart => exact ⟨0, k, Nat.zero_le _, rfl, rfl, Lib.hid rfl⟩
  case round =>
    obtain ⟨j, Q, hj, rfl, rfl, hQ⟩ := hrel
    by_cases hlt : j < n
    · obtain ⟨b, off, rfl, _, h1, h2⟩ := HX.out.at hlt
      have c0 : w.cell? ⟨b, off + j * 2, none⟩ = some (.int .i64 (Q : Int)) := by
        rw [h1, marks_getD k (2 * n) (2 * j) (by omega), hQ.out]
      have c1 : w.cell? ⟨b, off + j * 2 + 1, none⟩ = some (.int .i64 ((Q : Int) + 1)) := by
        rw [h2, marks_getD k (2 * n) (2 * j + 1) (by omega), hQ.out]; congr 2
      have hQ2 : (Q : Int) ≤ 1099511627776 := by have := hQ.out; omega
      clear h1 h2
      go_wp2
      go_round
      case rel => exact ⟨j + 1, Q + 2, hlt, by go_num, by go_num, Lib.hid (by rw [hQ.out]; omega)⟩
      case measure => simp [intOf]; omega
    · obtain rfl : j = n := by omega
      go_wp2
      go_ret
      exact ⟨ret_int (by rw [hQ.out]; simp), rfl⟩
set_option maxHeartbeats 1000000 in
set_option maxRecDepth 100000 in
theorem eqF_yes (A A' : Option Addr) (c c' B B' n : Nat) (fs : List Int) (w : World) (hx : RdF w B A n fs) (hy : RdF w B' A' n fs) (hB : B ≤ w.heap.size) (hB' : B' ≤ w.heap.size) (hm : n ≤ 1099511627776) :
    Calls Try.prog 16 #[.slice A n c, .slice A' n c'] w fun e w' => e = .returned (.bool true) ∧ Below w.heap.size w w' := by
  have HX := Lib.hid (hx.more hB)
  have HY := Lib.hid (hy.more hB')
  clear hx hy
  go_enter Try.func16, Try.ntmps16
  go_wp2
  go_loopw [5] (fun i wr => ∃ j : Nat, j ≤ n ∧ i = .int .i64 (j : Int) ∧ Below w.heap.size w wr) (fun i _ => n - (intOf i).toNat)
  case atStart => exact ⟨0, Nat.zero_le _, rfl, Below.refl _ _⟩
  case round =>
    obtain ⟨j, hj, rfl, hb⟩ := hrel
    by_cases hlt : j < n
    · obtain ⟨b, off, rfl, hbl, h1, h2⟩ := (HX.out.below hb (Nat.le_refl _)).at hlt
      obtain ⟨b', off', rfl, hbl', h3, h4⟩ := (HY.out.below hb (Nat.le_refl _)).at hlt
      have hsz := hb.size
      have HB := Lib.hid hb
      generalize fs.getD (2 * j) 0 = v0 at *
      generalize fs.getD (2 * j + 1) 0 = v1 at *
      have H1 := Lib.hid (And.intro h1 h2)
      have H2 := Lib.hid (And.intro h3 h4)
      have hl1 : b < wr.heap.size := Nat.lt_of_lt_of_le hbl hsz
      have hl2 : b' < wr.heap.size := Nat.lt_of_lt_of_le hbl' hsz
      clear h1 h2 h3 h4 hb hbl hbl'
      obtain ⟨wo, rfl⟩ : ∃ x, x = wr := ⟨_, rfl⟩
      go_wp2
      (refine wp_region_below (by kernel_rfl) (by kernel_rfl) ?_; (repeat (refine wpQuiet_step (fun K hK => ?_); go_simp; first | (refine hK _ ?_; clear hK K) | (apply Exists.intro; refine ⟨fun wq hq => ?_, hK _ ?_⟩; (first | rfl | (have c0 := (hq.cell (p := ⟨b, off + j * 2, none⟩) hl1).trans H1.out.1; have c1 := (hq.cell (p := ⟨b, off + j * 2 + 1, none⟩) hl1).trans H1.out.2; have d0 := (hq.cell (p := ⟨b', off' + j * 2, none⟩) hl2).trans H2.out.1; have d1 := (hq.cell (p := ⟨b', off' + j * 2 + 1, none⟩) hl2).trans H2.out.2; first | (go_simp; done) | (go_simp; rfl) | (first | (go_at_call 12; refine (eqFraction_yes v0 v1 _).mono ?_; rintro e w1 ⟨rfl, hb1⟩; exact ⟨rfl, Base.Below.nextA hq hb1⟩)))); clear hK K))); refine wpQuiet_nil ?_; intro wq hq)
      have HB1 := Lib.hid (HB.out.trans (hq.mono hsz))
      clear hq
      go_wp2
      go_roundw
      case rel => exact ⟨j + 1, hlt, by go_num, HB1.out⟩
      case measure => simp [intOf]; omega
    · obtain rfl : j = n := by omega
      have HB := Lib.hid hb
      go_wp2
      go_ret
      exact ⟨rfl, HB.out⟩
theorem mark1 {w : World} {B k n c g t : Nat} {fs : List Int} {v : Int} (h : w.ownsRow B 23 2 (.slice (some ⟨g, 0, none⟩) n c) n (ints (marks k t ++ fs.drop t))) (ht : t < fs.length) (hv : v = ((k + t : Nat) : Int)) :
    (w.setCell ⟨g, t, none⟩ (.int .i64 v)).ownsRow B 23 2 (.slice (some ⟨g, 0, none⟩) n c) n (ints (marks k (t + 1) ++ fs.drop (t + 1))) ∧ w.grownBy (w.setCell ⟨g, t, none⟩ (.int .i64 v)) (some g) := by
  subst hv
  obtain ⟨h1, h2⟩ := h.stored t (.int .i64 ((k + t : Nat) : Int))
  rw [ints_set, mixed_set k t fs ht] at h1
  exact ⟨h1, h2⟩
def chain2 (w : World) (g q Q : Nat) : World := (w.setCell ⟨g, q, none⟩ (.int .i64 (Q : Int))).setCell ⟨g, q + 1, none⟩ (.int .i64 ((Q : Int) + 1))
theorem mark2 {w : World} {B k n c g q Q : Nat} {fs : List Int} (h : w.ownsRow B 23 2 (.slice (some ⟨g, 0, none⟩) n c) n (ints (marks k q ++ fs.drop q))) (ht : q + 2 ≤ fs.length) (hQ : Q = k + q) :
    (chain2 w g q Q).ownsRow B 23 2 (.slice (some ⟨g, 0, none⟩) n c) n (ints (marks k (q + 2) ++ fs.drop (q + 2))) ∧ w.grownBy (chain2 w g q Q) (some g) := by
  obtain ⟨h1, g1⟩ := mark1 (t := q) (v := (Q : Int)) h (by omega) (by omega)
  obtain ⟨h2, g2⟩ := mark1 (t := q + 1) (v := (Q : Int) + 1) h1 (by omega) (by omega)
  exact ⟨h2, grown_trans g1 g2⟩
def MarkRelF (B k n : Nat) (A : Option Addr) (c : Nat) (fs : List Int) (w : World) (q i : Value) (wr : World) : Prop :=
  ∃ j Q : Nat, j ≤ n ∧ i = .int .i64 (j : Int) ∧ q = .int .i64 (Q : Int) ∧ Hid (Q = k + 2 * j) ∧ Hid (wr.ownsRow B 23 2 (.slice A n c) n (ints (marks k (2 * j) ++ fs.drop (2 * j)))) ∧ Hid (w.grownBy wr (Value.slice A n c).ownBlock)
set_option maxHeartbeats 1000000 in
set_option maxRecDepth 100000 in
theorem markF_any (A : Option Addr) (c B k n : Nat) (fs : List Int) (w : World) (hx : OwnF w B (.slice A n c) n fs) (hm : k + 2 * n ≤ 1099511627776) :
    Calls Try.prog 19 #[.slice A n c, .int .i64 k] w fun e w' => e = .returned (.int .i64 ((k + 2 * n : Nat) : Int)) ∧ OwnF w' B (.slice A n c) n (marks k (2 * n)) ∧ w.grownBy w' (Value.slice A n c).ownBlock := by
  have hlen := Lib.hid hx.len
  have H0 : Hid (MarkRelF B k n A c fs w (.int .i64 (k : Int)) (.int .i64 0) w) := Lib.hid ⟨0, k, Nat.zero_le _, rfl, rfl, Lib.hid rfl, Lib.hid (by have h0 : w.ownsRow B 23 2 (.slice A n c) n (ints fs) := hx; simpa [marks] using h0), Lib.hid (World.grownBy.refl w _)⟩
  clear hx
  go_enter Try.func19, Try.ntmps19
  go_wp2
  go_loopw [1, 5] (fun q i wr => MarkRelF B k n A c fs w q i wr) (fun _ i _ => n - (intOf i).toNat)
  case atStart => exact H0.out
  case round =>
    obtain ⟨j, Q, hj, rfl, rfl, hQ, hrow, hg⟩ := hrel
    by_cases hlt : j < n
    · obtain ⟨A', c', e, hf⟩ := ownsRow_form hrow.out
      injection e with e1 e2 e3
      subst e1 e3
      obtain ⟨g, rfl, _, _⟩ := hf (by omega)
      have hl := hlen.out
      have hcell : ∀ i, i < 2 → ∃ x : Int, wr.cell? ⟨g, j * 2 + i, none⟩ = some (.int .i64 x) := fun i hi => by
        have e1 := World.ownsRow.cellAt hrow.out (j * 2 + i) (by omega)
        rw [ints_get _ (j * 2 + i) (by simp [marks_len]; omega)] at e1
        exact ⟨_, e1⟩
      obtain ⟨x0, c0⟩ := hcell 0 (by decide)
      obtain ⟨x1, c1⟩ := hcell 1 (by decide)
      have z0 := hrow.out.frozenAt (j * 2)
      have z1 := hrow.out.frozenAt (j * 2 + 1)
      rw [Nat.add_zero] at c0
      have HN : Hid (MarkRelF B k n (some ⟨g, 0, none⟩) c fs w (.int .i64 ((Q : Int) + 1 + 1)) (.int .i64 ((j : Int) + 1)) (chain2 wr g (j * 2) Q)) := Lib.hid (by
        have h7 := mark2 (q := j * 2) (Q := Q) (k := k) (fs := fs) (by rw [Nat.mul_comm j 2]; exact hrow.out) (by omega) (by have := hQ.out; omega)
        rw [show j * 2 + 2 = 2 * (j + 1) by omega] at h7
        exact ⟨j + 1, Q + 2, hlt, by simp, by go_num, Lib.hid (by have := hQ.out; omega), Lib.hid h7.1, Lib.hid (grown_trans hg.out h7.2)⟩)
      have hQ2 : (Q : Int) + 2 ≤ 1099511627776 := by have := hQ.out; omega
      clear hrow hg hf hcell hl
      unfold chain2 at HN
      go_wp2
      go_roundw
      case rel => exact HN.out
      case measure => simp [intOf]; omega
    · obtain rfl : j = n := by omega
      have HR : Hid (OwnF wr B (.slice A j c) j (marks k (2 * j))) := Lib.hid (by
        have := hrow.out
        rw [List.drop_of_length_le (by have := hlen.out; omega), List.append_nil] at this
        exact this)
      clear hrow
      go_wp2
      go_ret
      exact ⟨ret_int (by rw [hQ.out]), HR.out, hg.out⟩
theorem infoFr : (Try.prog.info? 23).map (fun i => (i.zero, i.size, i.bytes)) = some (some (.agg #[.int .i64 0, .int .i64 0]), 2, 16) := by kernel_rfl
theorem news_two (w : World) (t : TypeId) {u0 u1 : Value} {g : Nat} (hg : g = w.heap.size) : ∀ (j : Nat) (x : Value), [u0, u1][j]? = some x → (w.alloc (.cells #[u0, u1] t)).cell? ((⟨g, 0, none⟩ : Addr).add j) = some x := by
  subst hg
  intro j x hx
  have e : (#[u0, u1] : Array Value)[j]? = some x := by rw [← Array.getElem?_toList]; exact hx
  rw [Addr.add_lit]
  exact (World.cell?_alloc_new w #[u0, u1] t (0 + j)).trans (by rw [Nat.zero_add]; exact e)
theorem ones_two {a b : Int} : ∀ u ∈ [Value.int .i64 a, .int .i64 b], u.oneCell' = true := by
  intro u hu
  simp only [List.mem_cons, List.not_mem_nil, or_false] at hu
  rcases hu with rfl | rfl <;> rfl
theorem OwnF_above {w w' : World} {B n : Nat} {v : Value} {fs : List Int} (h : OwnF w B v n fs) (hb : Above B w w') : OwnF w' B v n fs := ownsRow_above h hb
/-- a list of fractions that is returned, and whether there is one -/
def FsRet (N : Nat) (R : List Int) (ok : Bool) (w : World) (e : Ending) (w' : World) : Prop := ∃ A c, e = .returned (.tuple #[.slice A N c, .bool ok]) ∧ OwnF w' w.heap.size (.slice A N c) N R ∧ Below w.heap.size w w'
theorem FsRet.no {w w' : World} (h : Below w.heap.size w w') : FsRet 0 [] false w (.returned (.tuple #[.slice none 0 0, .bool false])) w' := ⟨none, 0, rfl, World.ownsRow_nil _ _ _ _, h⟩
end Go.Proofs.Ytjkcdnfmmfpbjaa.MemF

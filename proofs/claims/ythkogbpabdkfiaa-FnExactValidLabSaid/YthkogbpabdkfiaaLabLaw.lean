/- Whether a lab is valid: the law. -/
import Derived.Test.YthkogbpabdkfiaaLabV
import Derived.Test.YthkogbpabdkfiaaOpen
import Derived.Deep.Strs
import Derived.Deep.RegionWith
namespace Go.Proofs.Ythkogbpabdkfiaa.Open
open Go.ChangeShapes Go.WideShapes Go.ChangeAt Go.RowKit Go.Joins Go.Proofs.Ythkogbpabdkfiaa
set_option linter.unusedVariables false
set_option maxRecDepth 100000
section
variable {H : Type} {enc : TypeId × Value → H} {w : World} {base b0 : Nat} {spare : Nat → Bool} {held : Bool} {v : Value} {d : DataW H} {p : List MemPlace}
theorem cellsTxt : Try.prog.cellsOf 9 = 1 := by kernel_rfl
theorem texts_of {fuel : Nat} {c0 : Value} {y : DataW H × List MemPlace} (hf : DataW.trod enc Try.prog w base (fun _ => true) held fuel 48 [c0] = some y) :
    ∃ (A : Option Addr) (c : Nat) (ss : List ByteArray), c0 = .slice A ss.length c ∧ ss.length ≤ 9223372036854775807 ∧ (∀ i, i < ss.length → (ss.getD i ByteArray.empty).size ≤ 9223372036854775807) ∧ LabM.RdT w w.heap.size A ss := by
  rcases Go.Deep.open_strs Try.underlying48 Try.underlying9 cellsTxt hf with ⟨hcs, _⟩ | ⟨x, len, cap, m, Sx, hcs, _, hl, hm, hmm, _, hcell⟩
  · simp at hcs
    subst hcs
    exact ⟨none, 0, [], rfl, by decide, fun i hi => absurd hi (Nat.not_lt_zero i), fun h => absurd h (by simp)⟩
  · simp at hcs
    subst hcs
    simp only [if_true] at hmm
    unfold maxLen at hm hcell
    refine ⟨some x, cap, (List.range len).map Sx, by simp, by simp; omega, fun i hi => ?_, fun h0 => ?_⟩
    · simp at hi
      have := (hcell i (by omega)).2
      simpa [List.getD, hi] using Nat.le_trans this (by omega)
    · simp at h0
      obtain ⟨hs, hb⟩ := spot_of (hcell 0 (by omega)).1
      refine ⟨x.block, x.off, by cases x; simp_all, hb, fun i hi => ?_⟩
      simp at hi
      rw [← addr_add hs, (hcell i (by omega)).1]
      simp [List.getD, hi]
theorem streams_of {fuel : Nat} {c0 : Value} {y : DataW H × List MemPlace} (hf : DataW.trod enc Try.prog w base (fun _ => true) held fuel 49 [c0] = some y) :
    ∃ (A : Option Addr) (n c : Nat) (fs : List Int), c0 = .slice A n c ∧ n ≤ 9223372036854775807 ∧ fs.length = 7 * n ∧ MemS.RdS w w.heap.size A n fs := by
  rcases Go.Deep.open_slice Try.underlying49 hf with ⟨hcs, _⟩ | ⟨x, len, cap, m, n, D, Pl, hcs, _, hl, hm, hmm, _, hx⟩
  · simp at hcs
    subst hcs
    exact ⟨none, 0, 0, [], rfl, by decide, rfl, fun h => absurd h (by simp)⟩
  · simp at hcs
    subst hcs
    simp only [if_true] at hmm
    unfold maxLen at hm
    have hs2 : 0 < m → x.spot = none := fun h0 => by
      obtain ⟨cs', h1, h2⟩ := hx 0 h0
      rw [cellsStream] at h1
      obtain ⟨K, W, T, m, f, a, s, rfl⟩ := stream_cells h2
      have h3 := (World.cells?_some h1).2.2 0 (by decide)
      have e : (x.add (0 * 7)).add 0 = x := by simp [Addr.add]
      rw [e] at h3
      exact World.cell?_spot h3
    have each : ∀ i, i < m → ∃ l : List Int, l.length = 7 ∧ ∀ j, j < 7 → w.cell? (x.add (i * 7 + j)) = some (.int .i64 (l.getD j 0)) := fun i hi => by
      obtain ⟨cs', h1, h2⟩ := hx i hi
      rw [cellsStream] at h1
      obtain ⟨K, W, T, m, f, a, s, rfl⟩ := stream_cells h2
      obtain ⟨_, _, h3⟩ := World.cells?_some h1
      refine ⟨[K, W, T, m, f, a, s], rfl, fun j hj => ?_⟩
      have hs2 := hs2 (by omega)
      have h4 := h3 j hj
      rw [addr_add hs2] at h4
      rw [addr_add (a := ⟨x.block, x.off + i * 7, none⟩) rfl] at h4
      rw [addr_add hs2, ← Nat.add_assoc, h4]
      match j, hj with
      | 0, _ => rfl
      | 1, _ => rfl
      | 2, _ => rfl
      | 3, _ => rfl
      | 4, _ => rfl
      | 5, _ => rfl
      | 6, _ => rfl
      | j + 7, hj => exact absurd hj (by omega)
    obtain ⟨L, hL⟩ := Go.Deep.choose_lt each
    have hlen : ((List.range (7 * len)).map fun k => (L (k / 7)).getD (k % 7) 0).length = 7 * len := by simp
    refine ⟨some x, len, cap, (List.range (7 * len)).map fun k => (L (k / 7)).getD (k % 7) 0, rfl, by omega, hlen, fun h0 => ?_⟩
    have h00 := (hL 0 (by omega)).2 0 (by decide)
    rw [Nat.zero_mul, Nat.zero_add] at h00
    obtain ⟨hs, hb⟩ := spot_of h00
    refine ⟨x.block, x.off, by cases x; simp_all, hb, fun i hi => ?_⟩
    have h5 := (hL (i / 7) (by omega)).2 (i % 7) (Nat.mod_lt _ (by decide))
    rw [Nat.mul_comm, Nat.div_add_mod] at h5
    rw [← addr_add hs, h5]
    simp [List.getD, hi]
theorem cellsLab : Try.prog.cellsOf 51 = 2 := by kernel_rfl
/-- a lab by value -/
structure IsLab (w : World) (v : Value) : Prop where
  ex : ∃ (A : Option Addr) (c : Nat) (ss : List ByteArray) (A' : Option Addr) (n c' : Nat) (fs : List Int), v = .agg #[.slice A ss.length c, .slice A' n c'] ∧ ss.length ≤ 9223372036854775807 ∧
    (∀ i, i < ss.length → (ss.getD i ByteArray.empty).size ≤ 9223372036854775807) ∧ n ≤ 9223372036854775807 ∧ fs.length = 7 * n ∧ LabM.RdT w w.heap.size A ss ∧ MemS.RdS w w.heap.size A' n fs
theorem lab (hv : Value.okWide Try.prog w .any b0 51 v) (h : DataW.Trod enc Try.prog w base (fun _ => true) held 51 v d p) : IsLab w v := by
  obtain ⟨c0, c1, y0, y1, m, rfl, _, _, hy0, hy1⟩ := open_agg2 Try.underlying51 (by kernel_rfl) cellsLab hv h
  obtain ⟨A, c, ss, rfl, h1, h2, h3⟩ := texts_of hy0
  obtain ⟨A', n, c', fs, rfl, h4, h5, h6⟩ := streams_of hy1
  exact ⟨A, c, ss, A', n, c', fs, rfl, h1, h2, h4, h5, h3, h6⟩
end
end Go.Proofs.Ythkogbpabdkfiaa.Open
namespace Go.Proofs.Ythkogbpabdkfiaa.LabV
open Go.RowKit Go.Proofs.Ythkogbpabdkfiaa Go.Proofs.Ythkogbpabdkfiaa.Base Go.Proofs.Ythkogbpabdkfiaa.Mem Go.Proofs.Ythkogbpabdkfiaa.Cpy Go.Proofs.Ythkogbpabdkfiaa.MemS Go.Proofs.Ythkogbpabdkfiaa.Str Go.Proofs.Ythkogbpabdkfiaa.LabM Go.Proofs.Ythkogbpabdkfiaa.Take
set_option linter.unusedVariables false
/-- a number that is left over -/
def SzLab (ss : List ByteArray) (n : Nat) (w : World) (e : Ending) (w' : World) : Prop := ∃ r : Int, e = .returned (.int .i64 r) ∧ (r = -1 ∨ (0 ≤ r ∧ ss.length ≤ 1048576 ∧ n ≤ 1048576)) ∧ Below w.heap.size w w'
set_option maxHeartbeats 1000000 in
theorem szLab_any (A A' : Option Addr) (c c' B n : Nat) (ss : List ByteArray) (w : World) (hx : RdT w B A ss) (hB : B ≤ w.heap.size) (hl : ss.length ≤ 9223372036854775807) (hs : ∀ i, i < ss.length → (ss.getD i ByteArray.empty).size ≤ 9223372036854775807) (hn : n ≤ 9223372036854775807) :
    Calls Try.prog 28 #[.agg #[.slice A ss.length c, .slice A' n c'], .int .i64 1048576] w (SzLab ss n w) := by
  obtain ⟨W0, hW0⟩ : ∃ W0, W0 = w.alloc (.cells #[.slice A ss.length c, .slice A' n c'] 51) := ⟨_, rfl⟩
  have hb0 : Below w.heap.size w W0 := by rw [hW0]; exact (Below.refl _ _).alloc (Nat.le_refl _) _
  have H1 := Lib.hid (szT_any A c B 1048576 ss W0 (hx.below hb0 hB) hl hs (by omega) (by omega))
  have HB0 := Lib.hid hb0
  have HW0 := Lib.hid hW0
  clear hx hs hb0 hW0
  go_enter Try.func28, Try.ntmps28
  go_wp2_with fail
  rw [← HW0.out]
  refine H1.out.mono ?_
  rintro e w1 ⟨r, rfl, hr, rfl⟩
  rcases hr with rfl | ⟨r0, hr⟩
  · rw [HW0.out]
    go_wp2
    go_ret
    exact ⟨-1, rfl, .inl rfl, (Below.refl _ _).alloc (Nat.le_refl _) _⟩
  · have hr2 : r ≤ 1048576 := by omega
    have HR := Lib.hid hr
    clear hr
    rw [HW0.out]
    go_wp2_with fail
    refine (szS_any A' n c' r _ hn r0 hr2).mono ?_
    rintro e w2 ⟨q, rfl, hq, rfl⟩
    rcases hq with rfl | ⟨q0, hq⟩
    · go_wp2
      go_ret
      exact ⟨-1, rfl, .inl rfl, (Below.refl _ _).alloc (Nat.le_refl _) _⟩
    · have HQ := Lib.hid hq
      clear hq
      go_wp2
      go_ret
      exact ⟨q, rfl, .inr ⟨q0, by have := HR.out; omega, by have := HR.out; have := HQ.out; omega⟩, (Below.refl _ _).alloc (Nat.le_refl _) _⟩
/-- a copy of a lab -/
def ToLab (ss : List ByteArray) (n : Nat) (fs : List Int) (w : World) (e : Ending) (w' : World) : Prop := ∃ g g' : Nat, e = .returned (.agg #[.slice (some ⟨g, 0, none⟩) ss.length ss.length, .slice (some ⟨g', 0, none⟩) n n]) ∧ RdT w' w'.heap.size (some ⟨g, 0, none⟩) ss ∧ RdS w' w'.heap.size (some ⟨g', 0, none⟩) n fs ∧ Below w.heap.size w w'
set_option maxHeartbeats 2000000 in
theorem toLab_any (A A' : Option Addr) (c c' B n : Nat) (ss : List ByteArray) (fs : List Int) (w : World) (hx : RdT w B A ss) (hy : RdS w B A' n fs) (hB : B ≤ w.heap.size) (hl : ss.length ≤ 1048576) (hn : n ≤ 1048576) (hfs : fs.length = 7 * n) :
    Calls Try.prog 30 #[.agg #[.slice A ss.length c, .slice A' n c']] w (ToLab ss n fs w) := by
  obtain ⟨W3, hW3⟩ : ∃ W3, W3 = ((w.alloc (.cells #[.slice A ss.length c, .slice A' n c'] 51)).alloc (.cells #[.slice none 0 0, .slice none 0 0] 56)).alloc (.cells #[.slice none 0 0, .slice none 0 0] 56) := ⟨_, rfl⟩
  have hb3 : Below w.heap.size w W3 := by rw [hW3]; exact (((Below.refl _ _).alloc (Nat.le_refl _) _).alloc (by simp) _).alloc (by simp; omega) _
  have hz3 : W3.heap.size = w.heap.size + 3 := by rw [hW3]; simp
  have a0 : W3.cell? ⟨w.heap.size, 0, none⟩ = some (.slice A ss.length c) := by rw [hW3]; go_simp
  have a1 : W3.cell? ⟨w.heap.size, 1, none⟩ = some (.slice A' n c') := by rw [hW3]; go_simp
  have c1 : W3.cell? ⟨w.heap.size + 1, 0, none⟩ = some (.slice none 0 0) := by rw [hW3]; go_simp
  have c1' : W3.cell? ⟨w.heap.size + 1, 1, none⟩ = some (.slice none 0 0) := by rw [hW3]; go_simp
  have c2 : W3.cell? ⟨w.heap.size + 1 + 1, 0, none⟩ = some (.slice none 0 0) := by rw [hW3]; go_simp
  have c2' : W3.cell? ⟨w.heap.size + 1 + 1, 1, none⟩ = some (.slice none 0 0) := by rw [hW3]; go_simp
  have f1 : ∀ i, W3.frozen? ⟨w.heap.size + 1, i, none⟩ = false := fun i => by rw [hW3]; go_simp
  have f2 : ∀ i, W3.frozen? ⟨w.heap.size + 1 + 1, i, none⟩ = false := fun i => by rw [hW3]; go_simp
  have HC := Lib.hid (toT_any A c B ss W3 (hx.below hb3 hB) (by omega) hl)
  have HY := Lib.hid (hy.below hb3 hB)
  have HF := Lib.hid hfs
  have HB3 := Lib.hid hb3
  have HW3 := Lib.hid hW3
  clear hx hy hb3 hW3 hfs
  go_enter Try.func30, Try.ntmps30
  go_wp2_with fail
  rw [← HW3.out]
  refine HC.out.mono ?_
  rintro e w1 ⟨g, rfl, o1, b1⟩
  have hz1 := b1.size
  have p0 := (b1.cell (p := ⟨w.heap.size, 0, none⟩) (by show w.heap.size < _; omega)).trans a0
  have p1 := (b1.cell (p := ⟨w.heap.size, 1, none⟩) (by show w.heap.size < _; omega)).trans a1
  have d1 := (b1.cell (p := ⟨w.heap.size + 1, 0, none⟩) (by show w.heap.size + 1 < _; omega)).trans c1
  have d1' := (b1.cell (p := ⟨w.heap.size + 1, 1, none⟩) (by show w.heap.size + 1 < _; omega)).trans c1'
  have d2 := (b1.cell (p := ⟨w.heap.size + 1 + 1, 0, none⟩) (by show w.heap.size + 1 + 1 < _; omega)).trans c2
  have d2' := (b1.cell (p := ⟨w.heap.size + 1 + 1, 1, none⟩) (by show w.heap.size + 1 + 1 < _; omega)).trans c2'
  have e1 := (b1.frozen (p := ⟨w.heap.size + 1, 0, none⟩) (by show w.heap.size + 1 < _; omega)).trans (f1 0)
  have e1' := (b1.frozen (p := ⟨w.heap.size + 1, 1, none⟩) (by show w.heap.size + 1 < _; omega)).trans (f1 1)
  have e2 := (b1.frozen (p := ⟨w.heap.size + 1 + 1, 0, none⟩) (by show w.heap.size + 1 + 1 < _; omega)).trans (f2 0)
  have e2' := (b1.frozen (p := ⟨w.heap.size + 1 + 1, 1, none⟩) (by show w.heap.size + 1 + 1 < _; omega)).trans (f2 1)
  have hlt : w.heap.size + 1 + 1 < w1.heap.size := by omega
  obtain ⟨W4, hW4⟩ : ∃ W4, W4 = w1.setCell ⟨w.heap.size + 1 + 1, 0, none⟩ (.slice (some ⟨g, 0, none⟩) ss.length ss.length) := ⟨_, rfl⟩
  have y4 : Below w.heap.size w W4 := by rw [hW4]; exact (HB3.out.trans (b1.mono (by omega))).setCell (show w.heap.size ≤ _ by simp only []; omega) _
  have hz4 : W4.heap.size = w1.heap.size := by rw [hW4]; simp
  have HW4 := Lib.hid hW4
  have y4b : Below w.heap.size W3 W4 := by rw [hW4]; exact (b1.mono (by omega)).setCell (show w.heap.size ≤ _ by simp only []; omega) _
  have O4 : Hid (OwnT W4 W3.heap.size (.slice (some ⟨g, 0, none⟩) ss.length ss.length) ss) := Lib.hid (by rw [hW4]; exact ownsRow_setCell_below o1 (show w.heap.size + 1 + 1 < W3.heap.size by omega) _)
  have g0 : W4.cell? ⟨w.heap.size + 1 + 1, 0, none⟩ = some (.slice (some ⟨g, 0, none⟩) ss.length ss.length) := by rw [hW4]; go_simp
  have HB1 := Lib.hid b1
  have HC2 := Lib.hid (toS_any A' c' W4.heap.size n fs W4 ((HY.out.below y4b hB).more (by omega)) (Nat.le_refl _) hn HF.out)
  have s1 : W4.cell? ⟨w.heap.size, 1, none⟩ = some (.slice A' n c') := by rw [hW4]; go_simp
  have s2 : W4.cell? ⟨w.heap.size + 1, 0, none⟩ = some (.slice none 0 0) := by rw [hW4]; go_simp
  have s2' : W4.cell? ⟨w.heap.size + 1, 1, none⟩ = some (.slice none 0 0) := by rw [hW4]; go_simp
  have s3 : W4.cell? ⟨w.heap.size + 1 + 1, 1, none⟩ = some (.slice none 0 0) := by rw [hW4]; go_simp
  have v1 : W4.frozen? ⟨w.heap.size + 1, 0, none⟩ = false := by rw [hW4]; go_simp
  have v1' : W4.frozen? ⟨w.heap.size + 1, 1, none⟩ = false := by rw [hW4]; go_simp
  have v2' : W4.frozen? ⟨w.heap.size + 1 + 1, 1, none⟩ = false := by rw [hW4]; go_simp
  have HY4 := Lib.hid y4
  clear o1 b1 c1 c1' c2 c2' f1 f2 y4 y4b a0 a1 hW4
  go_wp2_with fail
  rw [← HW4.out]
  refine HC2.out.mono ?_
  rintro e w5 ⟨g', rfl, o5, b5⟩
  have hz5 := b5.size
  have hlt4 : w.heap.size + 1 + 1 < W4.heap.size := by omega
  have t0 := (b5.cell (p := ⟨w.heap.size + 1 + 1, 0, none⟩) hlt4).trans g0
  have t1 := (b5.cell (p := ⟨w.heap.size + 1 + 1, 1, none⟩) hlt4).trans s3
  have t2 := (b5.cell (p := ⟨w.heap.size + 1, 0, none⟩) (by show w.heap.size + 1 < _; omega)).trans s2
  have t3 := (b5.cell (p := ⟨w.heap.size + 1, 1, none⟩) (by show w.heap.size + 1 < _; omega)).trans s2'
  have u1 := (b5.frozen (p := ⟨w.heap.size + 1, 0, none⟩) (by show w.heap.size + 1 < _; omega)).trans v1
  have u2 := (b5.frozen (p := ⟨w.heap.size + 1, 1, none⟩) (by show w.heap.size + 1 < _; omega)).trans v1'
  have u3 := (b5.frozen (p := ⟨w.heap.size + 1 + 1, 1, none⟩) hlt4).trans v2'
  have O5 := Lib.hid o5
  have B5 := Lib.hid b5
  have O4' : Hid (OwnT w5 W3.heap.size (.slice (some ⟨g, 0, none⟩) ss.length ss.length) ss) := Lib.hid (ownsRow_below O4.out b5)
  have hlt5 : w.heap.size + 1 + 1 < w5.heap.size := by omega
  clear o5 b5 p0 p1 d1 d1' d2 d2' e1 e1' e2 e2' s1 s2 s2' s3 v1 v1' v2' g0
  go_wp2
  refine bodyPost_ret (v := .agg #[.slice (some ⟨g, 0, none⟩) ss.length ss.length, .slice (some ⟨g', 0, none⟩) n n]) (by simp [results, Try.results30, go_sem, t2, t3]) rfl ⟨g, g', rfl, ?_, ?_, ?_⟩
  · have o := ownsRow_setCell_below (ownsRow_setCell_below (ownsRow_setCell_below O4'.out (a := ⟨w.heap.size + 1 + 1, 1, none⟩) (show w.heap.size + 1 + 1 < W3.heap.size by omega) (.slice (some ⟨g', 0, none⟩) n n)) (a := ⟨w.heap.size + 1, 0, none⟩) (show w.heap.size + 1 < W3.heap.size by omega) (.slice (some ⟨g, 0, none⟩) ss.length ss.length)) (a := ⟨w.heap.size + 1, 1, none⟩) (show w.heap.size + 1 < W3.heap.size by omega) (.slice (some ⟨g', 0, none⟩) n n)
    exact OwnT.rd o
  · have o := ownsRow_setCell_below (ownsRow_setCell_below (ownsRow_setCell_below O5.out (a := ⟨w.heap.size + 1 + 1, 1, none⟩) (show w.heap.size + 1 + 1 < W4.heap.size by omega) (.slice (some ⟨g', 0, none⟩) n n)) (a := ⟨w.heap.size + 1, 0, none⟩) (show w.heap.size + 1 < W4.heap.size by omega) (.slice (some ⟨g, 0, none⟩) ss.length ss.length)) (a := ⟨w.heap.size + 1, 1, none⟩) (show w.heap.size + 1 < W4.heap.size by omega) (.slice (some ⟨g', 0, none⟩) n n)
    exact OwnS.rd o
  · refine (((HY4.out.trans (B5.out.mono (by omega))).setCell ?_ _).setCell ?_ _).setCell ?_ _
    all_goals (show w.heap.size ≤ _; simp only []; omega)
set_option maxHeartbeats 1000000 in
theorem eqLab_yes (A A' D D' : Option Addr) (c c' d d' B B' n : Nat) (ss : List ByteArray) (fs : List Int) (w : World) (hx : RdT w B A ss) (hy : RdS w B A' n fs) (hx' : RdT w B' D ss) (hy' : RdS w B' D' n fs) (hB : B ≤ w.heap.size) (hB' : B' ≤ w.heap.size) (hl : ss.length ≤ 1048576) (hn : n ≤ 1048576) :
    Calls Try.prog 32 #[.agg #[.slice A ss.length c, .slice A' n c'], .agg #[.slice D ss.length d, .slice D' n d']] w fun e w' => e = .returned (.bool true) ∧ Below w.heap.size w w' := by
  obtain ⟨W2, hW2⟩ : ∃ W2, W2 = (w.alloc (.cells #[.slice A ss.length c, .slice A' n c'] 56)).alloc (.cells #[.slice D ss.length d, .slice D' n d'] 56) := ⟨_, rfl⟩
  have hb2 : Below w.heap.size w W2 := by rw [hW2]; exact ((Below.refl _ _).alloc (Nat.le_refl _) _).alloc (by simp) _
  have a1 : W2.cell? ⟨w.heap.size, 1, none⟩ = some (.slice A' n c') := by rw [hW2]; go_simp
  have b1 : W2.cell? ⟨w.heap.size + 1, 1, none⟩ = some (.slice D' n d') := by rw [hW2]; go_simp
  have HC := Lib.hid (eqT_yes A D c d B B' ss W2 (hx.below hb2 hB) (hx'.below hb2 hB') (by omega))
  have HD := Lib.hid (fun m => eqS_yes A' D' c' d' W2.heap.size W2.heap.size n fs (W2.drewN m) (((hy.below hb2 hB).more (Nat.le_trans hB hb2.size)).below (below_drewN (Below.refl _ _) m) (Nat.le_refl _)) (((hy'.below hb2 hB').more (Nat.le_trans hB' hb2.size)).below (below_drewN (Below.refl _ _) m) (Nat.le_refl _)) (Nat.le_refl _) (Nat.le_refl _) (by omega))
  have HB2 := Lib.hid hb2
  have HW2 := Lib.hid hW2
  clear hb2 hx hx' hy hy' hW2
  go_enter Try.func32, Try.ntmps32
  go_wp2_with fail
  rw [← HW2.out]
  refine HC.out.mono ?_
  rintro e w1 ⟨rfl, m, rfl⟩
  go_wp2_with fail
  refine (HD.out m).mono ?_
  rintro e w2 ⟨rfl, b2⟩
  go_wp2
  go_ret
  exact ⟨rfl, (below_drewN HB2.out m).trans (b2.mono HB2.out.size)⟩
set_option maxHeartbeats 4000000 in
theorem exactLab_any (A A' : Option Addr) (c c' n : Nat) (ss : List ByteArray) (fs : List Int) (w : World) (hl : ss.length ≤ 9223372036854775807) (hs : ∀ i, i < ss.length → (ss.getD i ByteArray.empty).size ≤ 9223372036854775807) (hn : n ≤ 9223372036854775807) (hfs : fs.length = 7 * n)
    (hx : RdT w w.heap.size A ss) (hy : RdS w w.heap.size A' n fs) :
    Calls Try.prog 6 #[.agg #[.slice A ss.length c, .slice A' n c']] w fun e w' => e = .returned (.bool true) ∧ Below w.heap.size w w' := by
  have hb0 : Below w.heap.size w (w.alloc (.cells #[.slice A ss.length c, .slice A' n c'] 51)) := (Below.refl _ _).alloc (Nat.le_refl _) _
  have hsz := Lib.hid (szLab_any A A' c c' w.heap.size n ss (w.alloc (.cells #[.slice A ss.length c, .slice A' n c'] 51)) (hx.below hb0 (Nat.le_refl _)) (by simp) hl hs hn)
  have HX := Lib.hid hx
  have HY := Lib.hid hy
  have HS := Lib.hid hs
  have HF := Lib.hid hfs
  clear hx hy hs hb0 hfs
  go_enter Try.func6, Try.ntmps6
  go_wp2_with fail
  refine hsz.out.mono ?_
  rintro e w1 ⟨r, rfl, hr, b1⟩
  have B1 := Lib.hid b1
  clear b1
  have d0 : w1.cell? ⟨w.heap.size, 0, none⟩ = some (.slice A ss.length c) := box_cells B1.out 0
  have d1 : w1.cell? ⟨w.heap.size, 1, none⟩ = some (.slice A' n c') := box_cells B1.out 1
  rcases hr with rfl | ⟨hr0, hl1, hn1⟩
  · clear d0 d1
    go_wp2
    go_ret
    exact ⟨rfl, Base.Below.boxed B1.out⟩
  · have CT : Hid (∀ (W : World), Below w.heap.size w W → Calls Try.prog 30 #[.agg #[.slice A ss.length c, .slice A' n c']] W (ToLab ss n fs W)) :=
      Lib.hid fun W hW => toLab_any A A' c c' w.heap.size n ss fs W (HX.out.below hW (Nat.le_refl _)) (HY.out.below hW (Nat.le_refl _)) hW.size hl1 hn1 HF.out
    go_wp2_with fail
    refine (CT.out w1 (Base.Below.boxed B1.out)).mono ?_
    rintro e w2 ⟨g2, k2, rfl, o2, p2, b2⟩
    have B2 := Lib.hid (Base.Below.nextA B1.out b2)
    have S2 := Lib.hid (specLab_any (some ⟨g2, 0, none⟩) (some ⟨k2, 0, none⟩) ss.length n _ n ss fs w2 o2 p2 (Nat.le_refl _) HS.out hl1 hn1)
    clear o2 p2 b2
    go_wp2_with fail
    refine S2.out.mono ?_
    rintro e w3 ⟨rfl, b3⟩
    have B3 := Lib.hid (Base.Below.nextA B2.out b3)
    clear b3 d0 d1
    have d0 : w3.cell? ⟨w.heap.size, 0, none⟩ = some (.slice A ss.length c) := box_cells B3.out 0
    have d1 : w3.cell? ⟨w.heap.size, 1, none⟩ = some (.slice A' n c') := box_cells B3.out 1
    go_wp2_with fail
    refine (CT.out w3 (Base.Below.boxed B3.out)).mono ?_
    rintro e w4 ⟨g4, k4, rfl, o4, p4, b4⟩
    have B4 := Lib.hid (Base.Below.nextA B3.out b4)
    have b5 : Below w4.heap.size w4 (w4.alloc (.cells #[.slice (some ⟨g4, 0, none⟩) ss.length ss.length, .slice (some ⟨k4, 0, none⟩) n n] 56)) := (Below.refl _ _).alloc (Nat.le_refl _) _
    have S5 := Lib.hid (implLab_any (some ⟨g4, 0, none⟩) (some ⟨k4, 0, none⟩) ss.length n w4.heap.size n ss fs (w4.alloc (.cells #[.slice (some ⟨g4, 0, none⟩) ss.length ss.length, .slice (some ⟨k4, 0, none⟩) n n] 56)) (o4.below b5 (Nat.le_refl _)) (p4.below b5 (Nat.le_refl _)) (by simp) HS.out hl1 hn1)
    have O4 := Lib.hid o4
    have P4 := Lib.hid p4
    have B5 := Lib.hid b5
    clear o4 p4 b4 d0 d1 b5
    go_wp2_with fail
    refine S5.out.mono ?_
    rintro e w6 ⟨rfl, b6⟩
    have q0 : w6.cell? ⟨w4.heap.size, 0, none⟩ = some (.slice (some ⟨g4, 0, none⟩) ss.length ss.length) := box_cells b6 0
    have q1 : w6.cell? ⟨w4.heap.size, 1, none⟩ = some (.slice (some ⟨k4, 0, none⟩) n n) := box_cells b6 1
    have hb6 := B5.out.trans (b6.mono (by simp))
    have B6 := Lib.hid (Base.Below.nextA B4.out hb6)
    have O6 := Lib.hid (O4.out.below hb6 (Nat.le_refl _))
    have P6 := Lib.hid (P4.out.below hb6 (Nat.le_refl _))
    have hz4 : w4.heap.size < w6.heap.size := by have := b6.size; simp at this; omega
    have hz0 : w.heap.size < w6.heap.size := by have := B6.out.size; simp at this; omega
    clear b6 hb6
    have d0 : w6.cell? ⟨w.heap.size, 0, none⟩ = some (.slice A ss.length c) := box_cells B6.out 0
    have d1 : w6.cell? ⟨w.heap.size, 1, none⟩ = some (.slice A' n c') := box_cells B6.out 1
    generalize labB ss n fs = ok at *
    have hb : (ok != ok) = false := by simp
    have CE : Hid (∀ (W7 : World) (g7 k7 : Nat), Below w6.heap.size w6 W7 → RdT W7 W7.heap.size (some ⟨g7, 0, none⟩) ss → RdS W7 W7.heap.size (some ⟨k7, 0, none⟩) n fs →
        Calls Try.prog 32 #[.agg #[.slice (some ⟨g4, 0, none⟩) ss.length ss.length, .slice (some ⟨k4, 0, none⟩) n n], .agg #[.slice (some ⟨g7, 0, none⟩) ss.length ss.length, .slice (some ⟨k7, 0, none⟩) n n]] W7 fun e w' => e = .returned (.bool true) ∧ Below W7.heap.size W7 w') :=
      Lib.hid fun W7 g7 k7 hb7 o7 p7 => eqLab_yes _ _ _ _ _ _ _ _ W7.heap.size W7.heap.size n ss fs W7 ((O6.out.more (Nat.le_of_lt hz4)).below hb7 (Nat.le_refl _) |>.more hb7.size) ((P6.out.more (Nat.le_of_lt hz4)).below hb7 (Nat.le_refl _) |>.more hb7.size) o7 p7 (Nat.le_refl _) (Nat.le_refl _) hl1 hn1
    have CT6 : Hid (∀ (W : World), Below w6.heap.size w6 W → Calls Try.prog 30 #[.agg #[.slice A ss.length c, .slice A' n c']] W fun e w' => ∃ g k, e = .returned (.agg #[.slice (some ⟨g, 0, none⟩) ss.length ss.length, .slice (some ⟨k, 0, none⟩) n n]) ∧ RdT w' w'.heap.size (some ⟨g, 0, none⟩) ss ∧ RdS w' w'.heap.size (some ⟨k, 0, none⟩) n fs ∧ Below w6.heap.size w6 w') :=
      Lib.hid fun W hW => (CT.out W (Base.Below.boxed (B6.out.trans (hW.mono (by simp; omega))))).mono fun e w' ⟨g, k, h1, h2, h3, h4⟩ => ⟨g, k, h1, h2, h3, Base.Below.nextA hW h4⟩
    go_wp2
    go_region_with (first | (go_at_call 30; refine (CT6.out _ (by first | exact Below.refl _ _ | exact (Below.refl _ _).drew | exact below_drewN (Below.refl _ _) _)).mono ?_; rintro e w7 ⟨g7, k7, rfl, o7, p7, b7⟩; have q0' := (b7.cell (p := ⟨w4.heap.size, 0, none⟩) hz4).trans q0; have q1' := (b7.cell (p := ⟨w4.heap.size, 1, none⟩) hz4).trans q1; have d0' := (b7.cell (p := ⟨w.heap.size, 0, none⟩) hz0).trans d0; have d1' := (b7.cell (p := ⟨w.heap.size, 1, none⟩) hz0).trans d1) | (go_at_call 32; refine (CE.out _ g7 k7 b7 o7 p7).mono ?_; rintro e w8 ⟨rfl, b8⟩))
    all_goals (try go_wp2)
    all_goals go_ret
    all_goals exact ⟨rfl, Base.Below.boxed (B6.out.trans ((Base.Below.nextA b7 b8).mono (by simp; omega)))⟩
theorem exactLab_v {w : World} {v : Value} (h : Open.IsLab w v) : Calls Try.prog 6 #[v] w fun e w' => e = .returned (.bool true) ∧ Below w.heap.size w w' := by
  obtain ⟨A, c, ss, A', n, c', fs, rfl, h1, h2, h3, h4, h5, h6⟩ := h.ex
  exact exactLab_any A A' c c' n ss fs w h1 h2 h3 h4 h5 h6
end Go.Proofs.Ythkogbpabdkfiaa.LabV

/- The laws' copies and comparisons of nets; the law of ValidNet. -/
import Derived.Test.YtjkcdnfmmfpbjaaNetV
import Derived.Test.YtjkcdnfmmfpbjaaCopy
import Derived.Test.YtjkcdnfmmfpbjaaOpen
import Derived.Deep.RegionWith
namespace Go.Proofs.Ytjkcdnfmmfpbjaa.NetV
open Go.RowKit Go.Proofs.Ytjkcdnfmmfpbjaa Go.Proofs.Ytjkcdnfmmfpbjaa.Base Go.Proofs.Ytjkcdnfmmfpbjaa.Mem Go.Proofs.Ytjkcdnfmmfpbjaa.Cpy
set_option linter.unusedVariables false

theorem szNet_any (A : Option Addr) (c B : Nat) (bits k : Int) (xss : List (List Int)) (w : World) (hx : RdII w B A xss) (hB : B ≤ w.heap.size) (hn : xss.length ≤ 9223372036854775807) (hn' : ∀ xs ∈ xss, xs.length ≤ 9223372036854775807) (hk : 0 ≤ k) (hk2 : k ≤ 1048576) :
    Calls Try.prog 32 #[.agg #[.int .i64 bits, .slice A xss.length c], .int .i64 k] w fun e w' => ∃ r : Int, e = .returned (.int .i64 r) ∧ (r = -1 ∨ (0 ≤ r ∧ r = k - xss.length - tot xss)) ∧ Below w.heap.size w w' := by
  have hb2 : Below w.heap.size w (w.alloc (.cells #[.int .i64 bits, .slice A xss.length c] 55)) := (Below.refl _ _).alloc (Nat.le_refl _) _
  have HC := Lib.hid (szII_any A c B k xss (w.alloc (.cells #[.int .i64 bits, .slice A xss.length c] 55)) (hx.below hb2 hB) hn hn' hk hk2)
  have HB2 := Lib.hid hb2
  clear hb2 hx hn'
  go_enter Try.func32, Try.ntmps32
  go_wp2_with fail
  refine HC.out.mono ?_
  rintro e w' ⟨r, rfl, hr, rfl⟩
  have HR := Lib.hid hr
  rcases hr with rfl | ⟨hr0, hr1⟩
  · go_wp2
    go_ret
    exact ⟨-1, rfl, .inl rfl, HB2.out⟩
  · clear hr1
    go_wp2
    go_ret
    exact ⟨r, rfl, HR.out, HB2.out⟩
def ToNetRet (bits : Int) (xss : List (List Int)) (w : World) (e : Ending) (w' : World) : Prop :=
  ∃ g us, e = .returned (.agg #[.int .i64 bits, .slice (some ⟨g, 0, none⟩) xss.length xss.length]) ∧ OwnII w' w.heap.size (.slice (some ⟨g, 0, none⟩) xss.length xss.length) xss us ∧ Below w.heap.size w w'
set_option maxHeartbeats 1000000 in
theorem toNet_any (A : Option Addr) (c B : Nat) (bits : Int) (xss : List (List Int)) (w : World) (hx : RdII w B A xss) (hB : B ≤ w.heap.size) (hn : xss.length ≤ 1048576) (ht : tot xss ≤ 1048576) :
    Calls Try.prog 34 #[.agg #[.int .i64 bits, .slice A xss.length c]] w (ToNetRet bits xss w) := by
  obtain ⟨W3, hW3⟩ : ∃ W3, W3 = ((w.alloc (.cells #[.int .i64 bits, .slice A xss.length c] 55)).alloc (.cells #[.int .i64 0, .slice none 0 0] 49)).alloc (.cells #[.int .i64 bits, .slice none 0 0] 49) := ⟨_, rfl⟩
  have hb3 : Below w.heap.size w W3 := by rw [hW3]; exact (((Below.refl _ _).alloc (Nat.le_refl _) _).alloc (by simp) _).alloc (by simp; omega) _
  have hz3 : W3.heap.size = w.heap.size + 3 := by rw [hW3]; simp
  have c1 : W3.cell? ⟨w.heap.size + 1, 0, none⟩ = some (.int .i64 0) := by rw [hW3]; go_simp
  have c1' : W3.cell? ⟨w.heap.size + 1, 1, none⟩ = some (.slice none 0 0) := by rw [hW3]; go_simp
  have c2 : W3.cell? ⟨w.heap.size + 1 + 1, 0, none⟩ = some (.int .i64 bits) := by rw [hW3]; go_simp
  have c2' : W3.cell? ⟨w.heap.size + 1 + 1, 1, none⟩ = some (.slice none 0 0) := by rw [hW3]; go_simp
  have f1 : ∀ i, W3.frozen? ⟨w.heap.size + 1, i, none⟩ = false := fun i => by rw [hW3]; go_simp
  have f2 : ∀ i, W3.frozen? ⟨w.heap.size + 1 + 1, i, none⟩ = false := fun i => by rw [hW3]; go_simp
  have HC := Lib.hid (toII_any A c B xss W3 (hx.below hb3 hB) (by omega) hn ht)
  have HB3 := Lib.hid hb3
  have HW3 := Lib.hid hW3
  clear hx hb3 hW3
  go_enter Try.func34, Try.ntmps34
  go_wp2_with fail
  rw [← HW3.out]
  refine HC.out.mono ?_
  rintro e w1 ⟨g, us, rfl, o1, b1⟩
  have d1 := (b1.cell (p := ⟨w.heap.size + 1, 0, none⟩) (by show w.heap.size + 1 < _; omega)).trans c1
  have d1' := (b1.cell (p := ⟨w.heap.size + 1, 1, none⟩) (by show w.heap.size + 1 < _; omega)).trans c1'
  have d2 := (b1.cell (p := ⟨w.heap.size + 1 + 1, 0, none⟩) (by show w.heap.size + 1 + 1 < _; omega)).trans c2
  have d2' := (b1.cell (p := ⟨w.heap.size + 1 + 1, 1, none⟩) (by show w.heap.size + 1 + 1 < _; omega)).trans c2'
  have e1 := (b1.frozen (p := ⟨w.heap.size + 1, 0, none⟩) (by show w.heap.size + 1 < _; omega)).trans (f1 0)
  have e1' := (b1.frozen (p := ⟨w.heap.size + 1, 1, none⟩) (by show w.heap.size + 1 < _; omega)).trans (f1 1)
  have e2' := (b1.frozen (p := ⟨w.heap.size + 1 + 1, 1, none⟩) (by show w.heap.size + 1 + 1 < _; omega)).trans (f2 1)
  have O1 := Lib.hid o1
  have B1 := Lib.hid b1
  clear o1 b1 c1 c1' c2 c2' f1 f2
  go_wp2
  refine bodyPost_ret (v := .agg #[.int .i64 bits, .slice (some ⟨g, 0, none⟩) xss.length xss.length]) (by simp [results, Try.results34, go_sem, d1, d1']) rfl ⟨g, us, rfl, ?_, ?_⟩
  · refine OwnII.base (B := W3.heap.size) ?_ (by omega)
    refine (OwnII.setLow (OwnII.setLow (OwnII.setLow O1.out ?_ _) ?_ _) ?_ _)
    all_goals (show _ < W3.heap.size; simp only []; omega)
  · refine (((HB3.out.trans (B1.out.mono (by omega))).setCell ?_ _).setCell ?_ _).setCell ?_ _
    all_goals (show w.heap.size ≤ _; simp only []; omega)

set_option maxHeartbeats 1000000 in
theorem eqNet_yes (A A' : Option Addr) (c c' B B' : Nat) (bits : Int) (xss : List (List Int)) (w : World) (hx : RdII w B A xss) (hy : RdII w B' A' xss) (hB : B ≤ w.heap.size) (hB' : B' ≤ w.heap.size) (hm : tot xss ≤ 1099511627776) (hm' : xss.length ≤ 1099511627776) :
    Calls Try.prog 36 #[.agg #[.int .i64 bits, .slice A xss.length c], .agg #[.int .i64 bits, .slice A' xss.length c']] w fun e w' => e = .returned (.bool true) ∧ Below w.heap.size w w' := by
  have hb2 : Below w.heap.size w ((w.alloc (.cells #[.int .i64 bits, .slice A xss.length c] 49)).alloc (.cells #[.int .i64 bits, .slice A' xss.length c'] 49)) := ((Below.refl _ _).alloc (Nat.le_refl _) _).alloc (by simp) _
  have HC := Lib.hid (eqII_yes A A' c c' B B' xss ((w.alloc (.cells #[.int .i64 bits, .slice A xss.length c] 49)).alloc (.cells #[.int .i64 bits, .slice A' xss.length c'] 49)) (hx.below hb2 hB) (hy.below hb2 hB') hm hm')
  have HB2 := Lib.hid hb2
  clear hb2 hx hy
  go_enter Try.func36, Try.ntmps36
  go_wp2_with fail
  refine HC.out.mono ?_
  rintro e w1 ⟨rfl, hD⟩
  have HD : Hid (Drawn _ w1) := Lib.hid hD
  clear hD
  go_wp2
  go_ret
  exact ⟨rfl, HB2.out.trans HD.out.below⟩

end Go.Proofs.Ytjkcdnfmmfpbjaa.NetV

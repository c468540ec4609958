/- The reference's naturals: differences. -/
import Derived.Test.YtionognmgcabbaaGreatMgSet13
import Derived.Test.YtionognmgcabbaaGreatMgSet00
import Derived.Deep.AppendSrc
import Derived.Lib.SliceRun
namespace Go.Proofs.YtionognmgcabbaaGreat.Big
open Go.RowKit Go.Proofs.YtionognmgcabbaaGreat Go.Proofs.YtionognmgcabbaaGreat.Base Go.Proofs.YtionognmgcabbaaGreat.Mem Go.Proofs.YtionognmgcabbaaGreat.BigM
set_option linter.unusedVariables false
def sLen : Value → Nat
  | .slice _ n _ => n
  | _ => 0
/-- the digits 0 at the end go -/
def TrimRel (A : Option Addr) (c : Nat) (xs : List Nat) (ov : Value) : Prop := ∃ n : Nat, n ≤ xs.length ∧ ov = .slice A n c ∧ Hid (val (xs.take n) = val xs)
theorem Dig.cap {w : World} {B n c : Nat} {A : Option Addr} {xs : List Nat} (h : Dig w B (.slice A n c) xs) : n ≤ c ∧ c ≤ 9223372036854775807 := by
  rcases h.2 with ⟨e, _⟩ | ⟨g, cap, cur, e, h1, hh, h2, h3, h4⟩
  · injection e with e1 e2 e3
    omega
  · injection e with e1 e2 e3
    subst e3 e2
    unfold maxLen at h3
    exact ⟨h2, h3⟩
theorem trim_end {w wr : World} {B m n c : Nat} {A : Option Addr} {xs : List Nat} (hO : Dig wr B (.slice A m c) xs) (hok : okN xs) (hn : n ≤ xs.length) (hv : val (xs.take n) = val xs) (h : n = 0 ∨ xs.getD (n - 1) 0 ≠ 0) (hb : Below w.heap.size w wr) : BRet (val xs) w (.returned (.slice A n c)) wr := by
  have h1 := trim_done hok hn hv h
  have h2 := hO.take hn
  exact BRet.of h2 h1 hb
def MinusSt (xs ys : List Nat) (i C : Nat) (os : List Nat) : Prop := os.length = i ∧ okN os ∧ val os + val (ys.take i) = val (xs.take i) + D30 ^ i * C ∧ C ≤ 1
def MinusRel (xs ys : List Nat) (w : World) (iv cv ov : Value) (wr : World) : Prop :=
  ∃ (i C : Nat) (os : List Nat), iv = .int .i64 (i : Int) ∧ cv = .int .i64 (C : Int) ∧ i ≤ xs.length ∧ Hid (MinusSt xs ys i C os) ∧ Hid (Dig wr w.heap.size ov os) ∧ Hid (Below w.heap.size w wr)
theorem MinusRel.next {xs ys os : List Nat} {i C C' a b d : Nat} {w wr w3 : World} {v v' : Value} {cs : Array Value} {t : TypeId} (h : MinusSt xs ys i C os) (hi : i < xs.length) (ha : a = xs.getD i 0) (hb : b = ys.getD i 0) (hS : d + b + C = a + D30 * C') (hd : d < D30) (hC : C' ≤ 1)
    (hO : Dig wr w.heap.size v os) (hbl : Below w.heap.size w wr)
    (hown : w3.ownsRow w.heap.size 2 1 v' (os.length + 1) (ints (zs os) ++ [.int .i64 (d : Int)])) (hg : (wr.alloc (.cells cs t)).grownBy w3 v.ownBlock) : MinusRel xs ys w (.int .i64 ((i : Int) + 1)) (.int .i64 (C' : Int)) v' w3 := by
  obtain ⟨h1, h2⟩ := hO.push hbl hown hg
  obtain ⟨k1, k2, k3, k4⟩ := h
  refine ⟨i + 1, C', os ++ [d], by simp, rfl, hi, Lib.hid ⟨by rw [snoc_len, k1], snoc_ok k2 hd, ?_, hC⟩, Lib.hid h1, Lib.hid h2⟩
  rw [val_snoc, val_take_any ys i, val_take_any xs i, k1, ← ha, ← hb]
  exact sub_step k3 hS
theorem minus_done {x y C : Nat} {os : List Nat} (h : MinusSt (bigL x) (bigL y) (bigL x).length C os) (hle : y ≤ x) : val os = x - y := by
  obtain ⟨h1, h2, h3, h4⟩ := h
  have hl := len_mono hle
  rw [List.take_of_length_le hl, List.take_of_length_le (Nat.le_refl _), bigL_val, bigL_val] at h3
  have h5 := val_lt os h2
  rw [h1] at h5
  have h01 : C = 0 ∨ C = 1 := by omega
  rcases h01 with rfl | rfl
  · omega
  · omega
set_option maxHeartbeats 4000000 in
set_option maxRecDepth 100000 in
theorem bigMinus_any {x y : Nat} {u v : Value} (w : World) (hx : IsB w x u) (hy : IsB w y v) (hl : (bigL x).length ≤ 4000000) (hle : y ≤ x) : Calls Tryz.prog 148 #[u, v] w (BRet (x - y) w) := by
  obtain ⟨i0, hi, hz0, hz1, hz2⟩ := info_parts infoI
  have HV : Hid (∀ os C, MinusSt (bigL x) (bigL y) (bigL x).length C os → val os = x - y) := Lib.hid (fun os C h => minus_done h hle)
  have hlen2 := len_mono hle
  have HDX := Lib.hid (fun i => okN_at (bigL_ok x) i)
  have HDY := Lib.hid (fun i => okN_at (bigL_ok y) i)
  obtain ⟨A, c, rfl, _⟩ := Dig.form hx
  obtain ⟨A', c', rfl, _⟩ := Dig.form hy
  have HX := Lib.hid (fun wr (hD : Below w.heap.size w wr) i (hi : i < (bigL x).length) => IsB.cell (hx.below hD) hi)
  have HY := Lib.hid (fun wr (hD : Below w.heap.size w wr) i (hi : i < (bigL y).length) => IsB.cell (hy.below hD) hi)
  clear hx hy hle
  generalize bigL x = xs at *
  generalize bigL y = ys at *
  generalize x - y = z at *
  have H0 : Hid (MinusRel xs ys w (.int .i64 0) (.int .i64 0) (.slice (some ⟨w.heap.size, 0, none⟩) 0 0) (w.alloc (.cells #[] 2))) := Lib.hid
    ⟨0, 0, [], rfl, rfl, Nat.zero_le _, Lib.hid ⟨rfl, (fun y hy => by cases hy), by simp [val], Nat.zero_le _⟩, Lib.hid (World.ownsRow_made w #[] 0 (Nat.le_refl _) (Nat.zero_le _) (by simp)), Lib.hid ((Below.refl _ _).alloc (Nat.le_refl _) _)⟩
  go_enter Tryz.func148, Tryz.ntmps148
  go_wp2
  go_loopw [7, 6, 5] (fun iv cv ov wr => MinusRel xs ys w iv cv ov wr) (fun iv _ _ _ => xs.length - (intOf iv).toNat)
  case atStart => exact H0.out
  case round =>
    obtain ⟨i, C, os, rfl, rfl, hil, hst, hO, hb⟩ := hrel
    clear H0
    have hC := hst.out.2.2.2
    have hyl : os.length ≤ 4000000 := by have := hst.out.1; omega
    have hsz := hb.out.size
    by_cases hlt : i < xs.length
    · have hax := HDX.out i
      have hay := HDY.out i
      unfold D30 at hax hay
      obtain ⟨g, rfl, hca⟩ := HX.out _ hb.out i hlt
      obtain ⟨a, ha⟩ : ∃ a, a = xs.getD i 0 := ⟨_, rfl⟩
      obtain ⟨b, hbd⟩ : ∃ b, b = ys.getD i 0 := ⟨_, rfl⟩
      rw [← ha] at hax hca
      rw [← hbd] at hay
      have HN0 := Lib.hid (fun d C' (hS : d + b + C = a + 1073741824 * C') (hd : d < 1073741824) (hC' : C' ≤ 1) w3 v' cs t hown hg => MinusRel.next (w3 := w3) (v' := v') (cs := cs) (t := t) hst.out hlt ha hbd hS hd hC' hO.out hb.out hown hg)
      by_cases h2 : i < ys.length
      · obtain ⟨g', rfl, hcb⟩ := HY.out _ hb.out i h2
        rw [← hbd] at hcb
        clear ha hbd
        by_cases h3 : a < b + C
        · have hng : (a : Int) - (C : Int) - (b : Int) < 0 := by omega
          obtain ⟨d, hd⟩ : ∃ d, d + b + C = a + 1073741824 := ⟨a + 1073741824 - b - C, by omega⟩
          have hdd : (a : Int) - (C : Int) - (b : Int) + 1073741824 = (d : Int) := by omega
          have hdd2 : 1073741824 + ((a : Int) - (C : Int) - (b : Int)) = (d : Int) := by omega
          have HN := Lib.hid (HN0.out d 1 (by omega) (by omega) (by omega))
          clear HN0
          have hown := World.ownsRow.alloc hO.out (.cells #[.int .i64 (d : Int)] 2)
          have HW := Lib.hid hown
          clear hown hO hb hst
          go_wp2_with (at_builtin; refine wpList_append_own_at _ rfl (.tmp 36) (.tmp 38) 79 rfl w.heap.size 2 i0 (.int .i64 0) 1 8 Tryz.underlying79 hi hz0 hz1 hz2 rfl (by decide) _ _ _ rfl HW.out ⟨wr.heap.size, 0, none⟩ 1 1 [.int .i64 (d : Int)] rfl rfl ?p1a ?p2a ?p3a ?p4a ?p5a ?_)
          try case p1a => exact news_one _ _ _ (by simp)
          try case p2a => first | exact one_int | rfl | simp
          try case p3a => first | (simp only [maxLen]; omega) | omega
          try case p4a => omega
          try case p5a => first | (simp only [World.size_alloc]; omega) | omega
          intro v' w3 hown' hg' _ he
          have HN3 := Lib.hid (HN.out w3 v' _ _ hown' hg')
          clear hown' hg' he HN HW
          go_wp2
          go_roundw
          case rel => exact HN3.out
          case measure => simp [intOf]; omega
        · have hng : ¬ (a : Int) - (C : Int) - (b : Int) < 0 := by omega
          obtain ⟨d, hd⟩ : ∃ d, d + b + C = a := ⟨a - b - C, by omega⟩
          have hdd : (a : Int) - (C : Int) - (b : Int) = (d : Int) := by omega
          have HN := Lib.hid (HN0.out d 0 (by omega) (by omega) (by omega))
          clear HN0 hng
          have hown := World.ownsRow.alloc hO.out (.cells #[.int .i64 (d : Int)] 2)
          have HW := Lib.hid hown
          clear hown hO hb hst
          go_wp2_with (at_builtin; refine wpList_append_own_at _ rfl (.tmp 36) (.tmp 38) 79 rfl w.heap.size 2 i0 (.int .i64 0) 1 8 Tryz.underlying79 hi hz0 hz1 hz2 rfl (by decide) _ _ _ rfl HW.out ⟨wr.heap.size, 0, none⟩ 1 1 [.int .i64 (d : Int)] rfl rfl ?p1a ?p2a ?p3a ?p4a ?p5a ?_)
          try case p1a => exact news_one _ _ _ (by simp)
          try case p2a => first | exact one_int | rfl | simp
          try case p3a => first | (simp only [maxLen]; omega) | omega
          try case p4a => omega
          try case p5a => first | (simp only [World.size_alloc]; omega) | omega
          intro v' w3 hown' hg' _ he
          have HN3 := Lib.hid (HN.out w3 v' _ _ hown' hg')
          clear hown' hg' he HN HW
          go_wp2
          go_roundw
          case rel => exact HN3.out
          case measure => simp [intOf]; omega
      · have hb0 : b = 0 := by rw [hbd]; exact getD_none (by omega)
        subst hb0
        clear ha hbd
        by_cases h3 : a < C
        · have hng : (a : Int) - (C : Int) < 0 := by omega
          obtain ⟨d, hd⟩ : ∃ d, d + C = a + 1073741824 := ⟨a + 1073741824 - C, by omega⟩
          have hdd : (a : Int) - (C : Int) + 1073741824 = (d : Int) := by omega
          have HN := Lib.hid (HN0.out d 1 (by omega) (by omega) (by omega))
          clear HN0
          have hown := World.ownsRow.alloc hO.out (.cells #[.int .i64 (d : Int)] 2)
          have HW := Lib.hid hown
          clear hown hO hb hst
          go_wp2_with (at_builtin; refine wpList_append_own_at _ rfl (.tmp 36) (.tmp 38) 79 rfl w.heap.size 2 i0 (.int .i64 0) 1 8 Tryz.underlying79 hi hz0 hz1 hz2 rfl (by decide) _ _ _ rfl HW.out ⟨wr.heap.size, 0, none⟩ 1 1 [.int .i64 (d : Int)] rfl rfl ?p1a ?p2a ?p3a ?p4a ?p5a ?_)
          try case p1a => exact news_one _ _ _ (by simp)
          try case p2a => first | exact one_int | rfl | simp
          try case p3a => first | (simp only [maxLen]; omega) | omega
          try case p4a => omega
          try case p5a => first | (simp only [World.size_alloc]; omega) | omega
          intro v' w3 hown' hg' _ he
          have HN3 := Lib.hid (HN.out w3 v' _ _ hown' hg')
          clear hown' hg' he HN HW
          go_wp2
          go_roundw
          case rel => exact HN3.out
          case measure => simp [intOf]; omega
        · have hng : ¬ (a : Int) - (C : Int) < 0 := by omega
          obtain ⟨d, hd⟩ : ∃ d, d + C = a := ⟨a - C, by omega⟩
          have hdd : (a : Int) - (C : Int) = (d : Int) := by omega
          have HN := Lib.hid (HN0.out d 0 (by omega) (by omega) (by omega))
          clear HN0 hng
          have hown := World.ownsRow.alloc hO.out (.cells #[.int .i64 (d : Int)] 2)
          have HW := Lib.hid hown
          clear hown hO hb hst
          go_wp2_with (at_builtin; refine wpList_append_own_at _ rfl (.tmp 36) (.tmp 38) 79 rfl w.heap.size 2 i0 (.int .i64 0) 1 8 Tryz.underlying79 hi hz0 hz1 hz2 rfl (by decide) _ _ _ rfl HW.out ⟨wr.heap.size, 0, none⟩ 1 1 [.int .i64 (d : Int)] rfl rfl ?p1a ?p2a ?p3a ?p4a ?p5a ?_)
          try case p1a => exact news_one _ _ _ (by simp)
          try case p2a => first | exact one_int | rfl | simp
          try case p3a => first | (simp only [maxLen]; omega) | omega
          try case p4a => omega
          try case p5a => first | (simp only [World.size_alloc]; omega) | omega
          intro v' w3 hown' hg' _ he
          have HN3 := Lib.hid (HN.out w3 v' _ _ hown' hg')
          clear hown' hg' he HN HW
          go_wp2
          go_roundw
          case rel => exact HN3.out
          case measure => simp [intOf]; omega
    · obtain rfl : i = xs.length := by omega
      have hlen := Lib.hid hst.out.1
      have Hok := Lib.hid hst.out.2.1
      replace HV := Lib.hid (HV.out os C hst.out)
      obtain ⟨AA, cc, rfl, _⟩ := Dig.form hO.out
      have hcap := Dig.cap hO.out
      have HO := Lib.hid hO.out
      have HB := Lib.hid hb.out
      clear HX HY HDX HDY hst hO hb
      go_wp2
      go_loop [5] (fun ov => TrimRel AA cc os ov) (fun ov => sLen ov)
      case atStart => exact ⟨os.length, Nat.le_refl _, by first | rfl | rw [hlen.out], Lib.hid (by rw [List.take_of_length_le (Nat.le_refl _)])⟩
      case round =>
        obtain ⟨n, hn, rfl, hv⟩ := hrel
        by_cases hpos : 0 < n
        · obtain ⟨m, rfl⟩ : ∃ m, n = m + 1 := ⟨n - 1, by omega⟩
          obtain ⟨g, hg0, _, _, hcell⟩ := Dig.cell HO.out (show m < os.length by omega)
          first | subst hg0 | (injection hg0 with hg0; injection hg0 with hg0 _ _; subst hg0)
          have hmc : ((m : Int) ≤ ((cc : Nat) : Int)) := by have := hcap; omega
          by_cases hz : os.getD m 0 = 0
          · have HN := Lib.hid (trim_step hn hv.out hz)
            rw [hz] at hcell
            clear hz
            go_wp2
            go_round
            case rel => exact ⟨m, by omega, by first | rfl | simp, HN⟩
            case measure => simp [sLen]
          · have HR := Lib.hid (trim_end HO.out Hok.out hn hv.out (.inr (by simpa using hz)) HB.out)
            have hzb : (((os.getD m 0 : Nat) : Int) == 0) = false := by simp only [beq_eq_false_iff_ne]; omega
            clear hz
            generalize os.getD m 0 = y at *
            go_wp2
            go_ret
            rw [← HV.out]
            exact HR.out
        · obtain rfl : n = 0 := by omega
          have HR := Lib.hid (trim_end HO.out Hok.out hn hv.out (.inl rfl) HB.out)
          go_wp2
          go_ret
          rw [← HV.out]
          exact HR.out
end Go.Proofs.YtionognmgcabbaaGreat.Big
/- The reference's naturals: products. -/
namespace Go.Proofs.YtionognmgcabbaaGreat.Big
open Go.RowKit Go.Proofs.YtionognmgcabbaaGreat Go.Proofs.YtionognmgcabbaaGreat.Base Go.Proofs.YtionognmgcabbaaGreat.Mem Go.Proofs.YtionognmgcabbaaGreat.BigM
set_option linter.unusedVariables false
def zeros (n : Nat) : List Nat := List.replicate n 0
theorem made_own (w : World) (n : Nat) (hn : n ≤ 10000000) : Dig (w.alloc (.cells (madeCells #[.int .i64 0] n) 2)) w.heap.size (.slice (some ⟨w.heap.size, 0, none⟩) n n) (zeros n) := by
  have := World.ownsRow_lit (e := 2) (size := 1) (base := w.heap.size) w (madeCells #[.int .i64 0] n) n (Nat.le_refl _) (by simp [maxLen]; omega) (by simp [size_madeCells])
  rw [toList_madeCells_one] at this
  unfold Dig zeros
  rw [List.length_replicate, show ints (zs (List.replicate n 0)) = List.replicate n (.int .i64 0) by simp [zs, ints]]
  exact this
theorem Dig.set {w : World} {B g n c : Nat} {xs : List Nat} (h : Dig w B (.slice (some ⟨g, 0, none⟩) n c) xs) (hn : xs.length = n) (i x : Nat) :
    Dig (w.setCell ⟨g, i, none⟩ (.int .i64 (x : Int))) B (.slice (some ⟨g, 0, none⟩) n c) (xs.set i x) := by
  subst hn
  obtain ⟨h1, h2⟩ := World.ownsRow.stored h i (.int .i64 (x : Int))
  unfold Dig
  rw [List.length_set]
  have e : ints (zs (xs.set i x)) = (ints (zs xs)).set i (.int .i64 (x : Int)) := by simp [zs, ints, List.map_set]
  rw [e]
  exact h1
theorem Dig.at {w : World} {B g n c : Nat} {xs : List Nat} (h : Dig w B (.slice (some ⟨g, 0, none⟩) n c) xs) (hn : xs.length = n) (i : Nat) (hi : i < n) : w.cell? ⟨g, i, none⟩ = some (.int .i64 ((xs.getD i 0 : Nat) : Int)) ∧ w.frozen? ⟨g, i, none⟩ = false := by
  subst hn
  obtain ⟨g', e, _, _, h4⟩ := Dig.cell h hi
  injection e with e
  injection e with e1 _ _
  subst e1
  exact ⟨h4, World.ownsRow.frozenAt h i⟩
/-- the state of a product, and of a row of it -/
def MulSt (xs ys : List Nat) (i : Nat) (os : List Nat) : Prop := os.length = xs.length + ys.length ∧ okN os ∧ val os = val (xs.take i) * val ys
def MulRel (xs ys : List Nat) (w : World) (iv : Value) (wr : World) : Prop :=
  ∃ (i : Nat) (os : List Nat), iv = .int .i64 (i : Int) ∧ i ≤ xs.length ∧ Hid (MulSt xs ys i os) ∧ Hid (Dig wr w.heap.size (.slice (some ⟨w.heap.size, 0, none⟩) (xs.length + ys.length) (xs.length + ys.length)) os) ∧ Hid (Below w.heap.size w wr)
def RowSt (xs ys : List Nat) (i x V0 k C : Nat) (os : List Nat) : Prop := os.length = xs.length + ys.length ∧ okN os ∧ val os + D30 ^ (i + k) * C = V0 + x * D30 ^ i * val (ys.take k) ∧ C < D30
def RowRel (xs ys : List Nat) (i x V0 : Nat) (w : World) (kv cv : Value) (wr : World) : Prop :=
  ∃ (k C : Nat) (os : List Nat), kv = .int .i64 (k : Int) ∧ cv = .int .i64 (C : Int) ∧ i + k ≤ xs.length + ys.length ∧ Hid (RowSt xs ys i x V0 k C os) ∧ Hid (Dig wr w.heap.size (.slice (some ⟨w.heap.size, 0, none⟩) (xs.length + ys.length) (xs.length + ys.length)) os) ∧ Hid (Below w.heap.size w wr)
theorem RowSt.room {xs ys os : List Nat} {i x V0 k C : Nat} (hok : okN xs) (hok' : okN ys) (hi : i < xs.length) (hx : x = xs.getD i 0) (hV : V0 = val (xs.take i) * val ys) (h : RowSt xs ys i x V0 k C os) (hk : k < ys.length ∨ 0 < C) : i + k < xs.length + ys.length := by
  rcases hk with hk | hC
  · omega
  · rcases Nat.lt_or_ge k ys.length with hk | hk
    · omega
    · obtain ⟨_, _, h3, _⟩ := h
      rw [List.take_of_length_le hk, hV] at h3
      have e : val (xs.take (i + 1)) = val (xs.take i) + D30 ^ i * x := by rw [val_take_any, hx]
      have e2 : val (xs.take i) * val ys + x * D30 ^ i * val ys = val (xs.take (i + 1)) * val ys := by rw [e, Nat.add_mul, Nat.mul_comm x]
      rw [e2] at h3
      have l1 := val_lt _ (okN_take hok (i + 1))
      rw [List.length_take, Nat.min_eq_left (by omega)] at l1
      have l2 := val_lt _ hok'
      have l3 : val (xs.take (i + 1)) * val ys < D30 ^ (i + 1 + ys.length) := by
        rw [Nat.pow_add]
        rcases Nat.eq_zero_or_pos (val ys) with h0 | h0
        · rw [h0, Nat.mul_zero]; exact Nat.mul_pos (by omega) (by omega)
        · exact Nat.lt_of_lt_of_le ((Nat.mul_lt_mul_right h0).2 l1) (Nat.mul_le_mul_left _ (by omega))
      have l4 : D30 ^ (i + k) ≤ D30 ^ (i + k) * C := Nat.le_mul_of_pos_right _ hC
      have l5 : D30 ^ (i + k) < D30 ^ (i + 1 + ys.length) := by omega
      have := (Nat.pow_lt_pow_iff_right (show 1 < D30 by decide)).1 l5
      omega
theorem RowRel.next {xs ys os : List Nat} {i x V0 k C S M : Nat} {w wr : World} (hx : x < D30) (hok' : okN ys) (hr : i + k < xs.length + ys.length) (h : RowSt xs ys i x V0 k C os) (hO : Dig wr w.heap.size (.slice (some ⟨w.heap.size, 0, none⟩) (xs.length + ys.length) (xs.length + ys.length)) os) (hb : Below w.heap.size w wr) (hM : M = x * ys.getD k 0) (hS : S = C + (os.getD (i + k) 0 + M)) :
    RowRel xs ys i x V0 w (.int .i64 ((k : Int) + 1)) (.int .i64 ((S / D30 : Nat) : Int)) (wr.setCell ⟨w.heap.size, i + k, none⟩ (.int .i64 ((S % D30 : Nat) : Int))) := by
  obtain ⟨k1, k2, k3, k4⟩ := h
  have o1 := hO.set k1 (i + k) (S % D30)
  have hyk := okN_at hok' k
  have hz1 := okN_at k2 (i + k)
  have hMle : M ≤ (D30 - 1) * (D30 - 1) := by rw [hM]; exact Nat.mul_le_mul (by omega) (by omega)
  have hSlt : S / D30 < D30 := by
    rw [Nat.div_lt_iff_lt_mul (by decide)]
    unfold D30 at *
    omega
  refine ⟨k + 1, S / D30, os.set (i + k) (S % D30), by simp, rfl, by omega, Lib.hid ⟨by rw [List.length_set]; exact k1, okN_setw k2 (Nat.mod_lt _ (by decide)), ?_, hSlt⟩, Lib.hid o1, Lib.hid (hb.setCell (Nat.le_refl _) _)⟩
  rw [val_take_any ys k]
  exact mul_step k3 (by rw [hS, hM]) (val_setw os (i + k) _ (by omega))
theorem MulRel.next {xs ys os : List Nat} {i x V0 k : Nat} {w wr : World} (hi : i < xs.length) (hx : x = xs.getD i 0) (hV : V0 = val (xs.take i) * val ys) (hk : ys.length ≤ k) (h : RowSt xs ys i x V0 k 0 os) (hO : Dig wr w.heap.size (.slice (some ⟨w.heap.size, 0, none⟩) (xs.length + ys.length) (xs.length + ys.length)) os) (hb : Below w.heap.size w wr) :
    MulRel xs ys w (.int .i64 ((i : Int) + 1)) wr := by
  obtain ⟨k1, k2, k3, k4⟩ := h
  refine ⟨i + 1, os, by simp, hi, Lib.hid ⟨k1, k2, ?_⟩, Lib.hid hO, Lib.hid hb⟩
  rw [List.take_of_length_le hk, Nat.mul_zero, Nat.add_zero, hV] at k3
  rw [k3, val_take_any xs i, ← hx, Nat.add_mul, Nat.mul_comm x]
set_option maxHeartbeats 4000000 in
set_option maxRecDepth 100000 in
theorem bigTimes_any {x y : Nat} {u v : Value} (w : World) (hx : IsB w x u) (hy : IsB w y v) (hl : (bigL x).length ≤ 1000000) (hl' : (bigL y).length ≤ 1000000) : Calls Tryz.prog 101 #[u, v] w (BRet (x * y) w) := by
  have HVX := Lib.hid (bigL_val x)
  have HVY := Lib.hid (bigL_val y)
  have HOX := Lib.hid (bigL_ok x)
  have HOY := Lib.hid (bigL_ok y)
  obtain ⟨A, c, rfl, _⟩ := Dig.form hx
  obtain ⟨A', c', rfl, _⟩ := Dig.form hy
  have HX := Lib.hid (fun wr (hD : Below w.heap.size w wr) i (hi : i < (bigL x).length) => IsB.cell (hx.below hD) hi)
  have HY := Lib.hid (fun wr (hD : Below w.heap.size w wr) i (hi : i < (bigL y).length) => IsB.cell (hy.below hD) hi)
  clear hx hy
  generalize bigL x = xs at *
  generalize bigL y = ys at *
  have hmk := run_make_row' (P := Tryz.prog) 79 2 (.int .i64 0) 8 Tryz.underlying79 infoI rfl .i64 .i64 (xs.length + ys.length) (by omega) (by omega)
  have hcast : ((xs.length + ys.length : Nat) : Int) = (xs.length : Int) + (ys.length : Int) := by omega
  rw [hcast] at hmk
  have H0 : Hid (MulRel xs ys w (.int .i64 0) (w.alloc (.cells (madeCells #[.int .i64 0] (xs.length + ys.length)) 2))) :=
    Lib.hid ⟨0, zeros (xs.length + ys.length), rfl, Nat.zero_le _, Lib.hid ⟨by simp [zeros], okN_zeros _, by rw [zeros, val_zeros]; simp [val]⟩, Lib.hid (made_own w _ (by omega)), Lib.hid ((Below.refl _ _).alloc (Nat.le_refl _) _)⟩
  clear hcast
  go_enter Tryz.func101, Tryz.ntmps101
  go_wp2
  clear hmk
  go_loopw [6] (fun iv wr => MulRel xs ys w iv wr) (fun iv _ => xs.length - (intOf iv).toNat)
  case atStart => exact H0.out
  case round =>
    obtain ⟨i, os, rfl, hi, hst, HO, HB⟩ := hrel
    clear H0
    by_cases hlt : i < xs.length
    · have hx1 := okN_at HOX.out i
      obtain ⟨gx, rfl, hcx⟩ := HX.out _ HB.out i hlt
      obtain ⟨x1, hx1e⟩ : ∃ x1, x1 = xs.getD i 0 := ⟨_, rfl⟩
      rw [← hx1e] at hx1
      obtain ⟨V0, hV0⟩ : ∃ V0, V0 = val (xs.take i) * val ys := ⟨_, rfl⟩
      have HR0 : Hid (RowRel xs ys i x1 V0 w (.int .i64 0) (.int .i64 0) wr) := Lib.hid
        ⟨0, 0, os, rfl, rfl, by omega, Lib.hid ⟨hst.out.1, hst.out.2.1, by rw [hst.out.2.2, ← hV0]; simp [val], by decide⟩, HO, HB⟩
      have HX1 := Lib.hid hx1
      have HXE := Lib.hid hx1e
      have HV0 := Lib.hid hV0
      clear hV0 hx1e hx1 hcx hst HO HB
      go_wp2
      go_loopw [8, 7] (fun kv cv wr => RowRel xs ys i x1 V0 w kv cv wr) (fun kv _ _ => xs.length + ys.length + 1 - (intOf kv).toNat)
      case atStart => exact HR0.out
      case round =>
        obtain ⟨k, C, os, rfl, rfl, hkl, hst, HO, HB⟩ := hrel
        clear HR0
        by_cases hgo : k < ys.length ∨ 0 < C
        · have hroom := RowSt.room HOX.out HOY.out hlt HXE.out HV0.out hst.out hgo
          obtain ⟨gc, gf⟩ := HO.out.at hst.out.1 (i + k) hroom
          have hz1 := okN_at hst.out.2.1 (i + k)
          have hC := hst.out.2.2.2
          have hx1 := HX1.out
          have hy1 := okN_at HOY.out k
          obtain ⟨gx', e, hcx⟩ := HX.out _ HB.out i hlt
          injection e with e
          injection e with e1 _ _
          subst e1
          rw [← HXE.out] at hcx
          obtain ⟨M, hM⟩ : ∃ M, M = x1 * ys.getD k 0 := ⟨_, rfl⟩
          have hMle : M ≤ 1073741823 * 1073741823 := by rw [hM]; exact Nat.mul_le_mul (by unfold D30 at hx1; omega) (by unfold D30 at hy1; omega)
          obtain ⟨S, hS⟩ : ∃ S, S = C + (os.getD (i + k) 0 + M) := ⟨_, rfl⟩
          have HN := Lib.hid (fun nq => RowRel.next (wr := wr.drewN nq) HX1.out HOY.out hroom hst.out (HO.out.below (below_drewN (Below.refl _ _) nq)) (below_drewN HB.out nq) hM hS)
          unfold D30 at hz1 hC hx1 hy1
          by_cases hk : k < ys.length
          · obtain ⟨gy, rfl, hcy⟩ := HY.out _ HB.out k hk
            have hmul : (x1 : Int) * ((ys.getD k 0 : Nat) : Int) = (M : Int) := by rw [hM]; simp
            clear hM hst HO HB hgo
            generalize ys.getD k 0 = y1 at *
            generalize os.getD (i + k) 0 = z at *
            have hand := and30 S (by omega)
            have hcS : (S : Int) = (C : Int) + (z : Int) + (M : Int) := by omega
            rw [hcS] at hand
            have hdiv : ((C : Int) + (z : Int) + (M : Int)) / 1073741824 = ((S / D30 : Nat) : Int) := by rw [← hcS]; simp [D30]
            unfold D30 at HN hdiv
            generalize S % 1073741824 = d at *
            generalize S / 1073741824 = q at *
            clear hS
            go_wp2
            go_quiet (fail)
            go_wp2
            go_roundw
            case rel => exact HN.out _
            case measure => simp [intOf]; omega
          · have hy0 : ys.getD k 0 = 0 := getD_none (by omega)
            rw [hy0, Nat.mul_zero] at hM
            subst hM
            have hC0 : 0 < C := by omega
            clear hy0 hst HO HB hgo hy1
            generalize os.getD (i + k) 0 = z at *
            have hand := and30 S (by omega)
            have hcS : (S : Int) = (C : Int) + (z : Int) := by omega
            rw [hcS] at hand
            have hdiv : ((C : Int) + (z : Int)) / 1073741824 = ((S / D30 : Nat) : Int) := by rw [← hcS]; simp [D30]
            unfold D30 at HN hdiv
            generalize S % 1073741824 = d at *
            generalize S / 1073741824 = q at *
            clear hS
            go_wp2
            go_roundw
            case rel => exact HN.out 0
            case measure => simp [intOf]; omega
        · have hk : ¬ k < ys.length := by omega
          obtain rfl : C = 0 := by omega
          have HN := Lib.hid (MulRel.next hlt HXE.out HV0.out (by omega) hst.out HO.out HB.out)
          clear hgo hst HO HB
          go_wp2
          go_roundw
          case rel => exact HN.out
          case measure => simp [intOf]; omega
    · obtain rfl : i = xs.length := by omega
      have hlen := Lib.hid hst.out.1
      have Hok := Lib.hid hst.out.2.1
      have HV : Hid (val os = x * y) := Lib.hid (by rw [hst.out.2.2, List.take_of_length_le (Nat.le_refl _), HVX.out, HVY.out])
      have hcap := Dig.cap HO.out
      have HOL1 : os.length ≤ xs.length + ys.length := by rw [hlen.out]; exact Nat.le_refl _
      have HOL2 : xs.length + ys.length ≤ os.length := by rw [hlen.out]; exact Nat.le_refl _
      clear hst HX HY
      go_wp2
      go_loop [5] (fun ov => TrimRel (some ⟨w.heap.size, 0, none⟩) (xs.length + ys.length) os ov) (fun ov => sLen ov)
      case atStart => exact ⟨os.length, Nat.le_refl _, by first | rfl | rw [hlen.out], Lib.hid (by rw [List.take_of_length_le (Nat.le_refl _)])⟩
      case round =>
        obtain ⟨n, hn, rfl, hv⟩ := hrel
        by_cases hpos : 0 < n
        · obtain ⟨m, rfl⟩ : ∃ m, n = m + 1 := ⟨n - 1, by omega⟩
          obtain ⟨g, hg0, _, _, hcell⟩ := Dig.cell HO.out (show m < os.length by omega)
          first | subst hg0 | (injection hg0 with hg0; injection hg0 with hg0 _ _; subst hg0)
          have hmc : ((m : Int) ≤ (((xs.length + ys.length) : Nat) : Int)) := by have := hcap; omega
          by_cases hz : os.getD m 0 = 0
          · have HN := Lib.hid (trim_step hn hv.out hz)
            rw [hz] at hcell
            clear hz
            go_wp2
            go_round
            case rel => exact ⟨m, by omega, by first | rfl | simp, HN⟩
            case measure => simp [sLen]
          · have HR := Lib.hid (trim_end HO.out Hok.out hn hv.out (.inr (by simpa using hz)) HB.out)
            have hzb : (((os.getD m 0 : Nat) : Int) == 0) = false := by simp only [beq_eq_false_iff_ne]; omega
            clear hz
            generalize os.getD m 0 = y at *
            go_wp2
            go_ret
            rw [← HV.out]
            exact HR.out
        · obtain rfl : n = 0 := by omega
          have HR := Lib.hid (trim_end HO.out Hok.out hn hv.out (.inl rfl) HB.out)
          go_wp2
          go_ret
          rw [← HV.out]
          exact HR.out
end Go.Proofs.YtionognmgcabbaaGreat.Big
/- Whole lists are appended to own ones, of any element. -/
namespace Go.Proofs.YtionognmgcabbaaGreat.AppG
open Go.RowKit Go.Proofs.YtionognmgcabbaaGreat Go.Proofs.YtionognmgcabbaaGreat.Base Go.Proofs.YtionognmgcabbaaGreat.Mem
set_option linter.unusedVariables false
theorem run_append_none_gen (w : World) (base : Nat) (v : Value) (n : Nat) (xs : List Value) (ts e : TypeId) (size : Nat) (i0 : TypeInfo) (ht : Tryz.prog.underlying ts = some (.slice e)) (hi : Tryz.prog.info? e = some i0) (hown : w.ownsRow base e size v n xs) (ty : TypeId) (c : Nat) :
    (Builtin.append_ #[ts, ts] ty #[v, .slice none 0 c]).run Tryz.prog w = .ok v w := by
  rcases hown.2 with ⟨rfl, rfl⟩ | ⟨g, cap, cur, rfl, hbg, hg, hnc, hcm, hcs, htake⟩
  · simp [Builtin.append_, run_underlying ht, sizeOf, typeInfo, hi, Builtin.lenOf, Builtin.firstCells]
  · have := run_append_room_src (P := Tryz.prog) w ts ts ty e i0 ht hi g 0 n cap (.slice none 0 c) 0 [] (Src.ofNil w ht c) (by omega) (fun j hj => absurd hj (Nat.not_lt_zero j)) (fun j hj => absurd hj (Nat.not_lt_zero j))
    simpa [World.setCells] using this
/-- what lies behind A: these cells (nothing, if there are none) -/
def Behind (w : World) (A : Option Addr) (news : List Value) : Prop := (news = [] ∧ A = none) ∨ ∃ ad, A = some ad ∧ ∀ j u, news[j]? = some u → w.cell? (ad.add j) = some u
theorem add_off (b off j : Nat) : (⟨b, off, none⟩ : Addr).add j = ⟨b, off + j, none⟩ := by
  unfold Addr.add; split <;> simp_all
theorem wpList_append_gen {ops : Array Oper} {rest : List Oper} {o : Oper} {a : Act} {w : World} {Q : Exit → Act → World → Prop} (hgd : o.guard = none) (s x : Operand) (ts e : TypeId)
    (ho : o.op = .call { callee := .builtin .append, args := #[s, x], argTypes := #[ts, ts] })
    (base : Nat) (i0 : TypeInfo) (z : Value) (size bytes : Nat) (ht : Tryz.prog.underlying ts = some (.slice e)) (hi : Tryz.prog.info? e = some i0) (hz : i0.zero = some z) (hsize : i0.size = size) (hby : i0.bytes = bytes) (hzs : z.cells.size = size) (hsz : 0 < size)
    (v : Value) (n : Nat) (xs : List Value) (hs : a.eval s = v) (hown : w.ownsRow base e size v n xs)
    (A : Option Addr) (m c : Nat) (news : List Value) (hx : a.eval x = .slice A m c) (hm : news.length = m * size) (hb : Behind w A news) (h1 : ∀ u ∈ news, u.oneCell' = true) (h63 : n + m ≤ maxLen) (hbytes : (n + m) * bytes ≤ 140737488355328) (hbase : base ≤ w.heap.size)
    (h : ∀ v' w', w'.ownsRow base e size v' (n + m) (xs ++ news) → w.grownBy w' v.ownBlock → wpList Tryz.prog ops Q rest (a.put o.dst v') w') :
    wpList Tryz.prog ops Q (o :: rest) a w := by
  rcases hb with ⟨rfl, rfl⟩ | ⟨ad, rfl, hnews⟩
  · obtain rfl : m = 0 := by
      rcases Nat.eq_zero_or_pos m with h | h
      · exact h
      · have := Nat.mul_pos h hsz
        simp at hm
        omega
    refine wpList_plain hgd fun K hK => ?_
    have hr := run_append_none_gen w base v n xs ts e size i0 ht hi hown o.type c
    unfold Oper.wp execOp
    simp only [ho, resolve, invoke, builtin, Sem.run_bind, Sem.run_pure, Result.andThen_ok, List.map_toArray, List.map_cons, List.map_nil, hs, hx, hr]
    refine hK _ _ (h v w (by simpa using hown) ⟨rfl, rfl, rfl, Nat.le_refl _, fun _ _ _ => rfl⟩)
  · exact wpList_append_own_at w hgd s x ts ho base e i0 z size bytes ht hi hz hsize hby hzs hsz v n xs hs hown ad m c news hx hm hnews h1 h63 hbytes hbase fun v' w' h1 h2 _ _ => h v' w' h1 h2
end Go.Proofs.YtionognmgcabbaaGreat.AppG

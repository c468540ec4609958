/- Lists that are joined: append of a whole list to an own one, and slices.Concat of two. -/
import Derived.Test.YtjkcdnfmmfpbjaaScr
import Derived.Shelf.Lay
import Derived.Shelf.Spec.SlicesGrow
namespace Go.Proofs
open Go.Shelf
def Ytjkcdnfmmfpbjaa.growI_ren : Go.Shelf.Ren := ⟨fun | 4 => 97 | n => n, fun | 22 => 28 | 25 => 2 | 3 => 3 | 4 => 4 | 9 => 9 | 20 => 20 | 0 => 0 | n => n, fun | n => n⟩
theorem Ytjkcdnfmmfpbjaa.growI : Go.Proofs.Lays8.n4 Try.prog Ytjkcdnfmmfpbjaa.growI_ren := {
  mixed := by kernel_rfl
  f4 := ⟨Try.f97.name, by decide, Try.func97.trans (congrArg some (by kernel_rfl))⟩
  t0 := Try.underlying0
  a0 := Try.isAgg0
  z0 := Try.sizeOf0
  v0 := Try.zeroValue0
  t3 := Try.underlying3
  a3 := Try.isAgg3
  z3 := Try.sizeOf3
  v3 := Try.zeroValue3
  t4 := Try.underlying4
  a4 := Try.isAgg4
  z4 := Try.sizeOf4
  v4 := Try.zeroValue4
  t9 := Try.underlying9
  a9 := Try.isAgg9
  z9 := Try.sizeOf9
  v9 := Try.zeroValue9
  t20 := Try.underlying20
  a20 := Try.isAgg20
  z20 := Try.sizeOf20
  v20 := Try.zeroValue20
  t22 := Try.underlying28
  a22 := Try.isAgg28
  z22 := Try.sizeOf28
  v22 := Try.zeroValue28 }
end Go.Proofs
namespace Go.Proofs.Ytjkcdnfmmfpbjaa.Concat
open Go.RowKit Go.Proofs.Ytjkcdnfmmfpbjaa Go.Proofs.Ytjkcdnfmmfpbjaa.Base Go.Proofs.Ytjkcdnfmmfpbjaa.Mem Go.Proofs.Ytjkcdnfmmfpbjaa.Scr
set_option linter.unusedVariables false
theorem run_append_own_none (w : World) (base : Nat) (v : Value) (n : Nat) (xs : List Value) (hown : w.ownsRow base 2 1 v n xs) (ty : TypeId) (c : Nat) :
    (Builtin.append_ #[28, 28] ty #[v, .slice none 0 c]).run Try.prog w = .ok v w := by
  obtain ⟨i0, hi, hz0, hz1, hz2⟩ := info_parts infoI
  rcases hown.2 with ⟨rfl, rfl⟩ | ⟨g, cap, cur, rfl, hbg, hg, hnc, hcm, hcs, htake⟩
  · simp [Builtin.append_, run_underlying Try.underlying28, sizeOf, typeInfo, hi, Builtin.lenOf, Builtin.firstCells]
  · have := run_append_room_src (P := Try.prog) w 28 28 ty 2 i0 Try.underlying28 hi g 0 n cap (.slice none 0 c) 0 [] (Src.ofNil w Try.underlying28 c) (by omega) (fun j hj => absurd hj (Nat.not_lt_zero j)) (fun j hj => absurd hj (Nat.not_lt_zero j))
    simpa [World.setCells] using this
theorem rd_none {w : World} {B : Nat} {xs : List Int} (h : RdI w B none xs) : xs = [] := by
  rcases xs with _ | ⟨x, xs⟩
  · rfl
  · obtain ⟨b, off, e, _⟩ := h (by simp)
    cases e
theorem rd_news' {w : World} {B : Nat} {xs : List Int} {ad : Addr} (h : RdI w B (some ad) xs) : ∀ j u, (ints xs)[j]? = some u → w.cell? (ad.add j) = some u := fun j u hj => by
  have hl : j < xs.length := by
    have := (List.getElem?_eq_some_iff.1 hj).1
    rwa [ints_len] at this
  obtain ⟨b, off, e, _, hc⟩ := h (by omega)
  injection e with e
  subst e
  exact rd_news hc j u hj
/-- a whole list is appended to an own one -/
theorem wpList_append_list {ops : Array Oper} {rest : List Oper} {o : Oper} {a : Act} {w : World} {Q : Exit → Act → World → Prop} (hgd : o.guard = none) (s x : Operand)
    (ho : o.op = .call { callee := .builtin .append, args := #[s, x], argTypes := #[28, 28] })
    (base : Nat) (v : Value) (n : Nat) (xs : List Int) (hs : a.eval s = v) (hown : w.ownsRow base 2 1 v n (ints xs))
    (A : Option Addr) (m c B : Nat) (ys : List Int) (hx : a.eval x = .slice A m c) (hm : ys.length = m) (hrd : RdI w B A ys) (h63 : n + m ≤ 1048576) (hbase : base ≤ w.heap.size)
    (h : ∀ v' w', w'.ownsRow base 2 1 v' (n + m) (ints (xs ++ ys)) → w.grownBy w' v.ownBlock → wpList Try.prog ops Q rest (a.put o.dst v') w') :
    wpList Try.prog ops Q (o :: rest) a w := by
  obtain ⟨i0, hi, hz0, hz1, hz2⟩ := info_parts infoI
  cases A with
  | none =>
    have h0 := rd_none hrd
    subst h0
    obtain rfl : m = 0 := hm.symm
    refine wpList_plain hgd fun K hK => ?_
    have hr := run_append_own_none w base v n (ints xs) hown o.type c
    unfold Oper.wp execOp
    simp only [ho, resolve, invoke, builtin, Sem.run_bind, Sem.run_pure, Result.andThen_ok, List.map_toArray, List.map_cons, List.map_nil, hs, hx, hr]
    refine hK _ _ (h v w (by simpa using hown) ⟨rfl, rfl, rfl, Nat.le_refl _, fun _ _ _ => rfl⟩)
  | some ad =>
    refine wpList_append_own_at w hgd s x 28 ho base 2 i0 (.int .i64 0) 1 8 Try.underlying28 hi hz0 hz1 hz2 rfl (by decide) v n (ints xs) hs hown ad m c (ints ys) hx (by rw [ints_len, hm, Nat.mul_one]) (rd_news' hrd) (ints_one ys) (by simp only [maxLen]; omega) (by omega) hbase ?_
    intro v' w' h1 h2 _ _
    refine h v' w' ?_ h2
    have : ints (xs ++ ys) = ints xs ++ ints ys := by simp [ints]
    rw [this]; exact h1
/-- room for n numbers -/
theorem grow_nil (n : Nat) (hn : n ≤ 1048576) (w : World) : Calls Try.prog 97 #[.slice none 0 0, .int .i64 (n : Int)] w fun e w' => ∃ A c, e = .returned (.slice A 0 c) ∧ w'.ownsRow w.heap.size 2 1 (.slice A 0 c) 0 [] ∧ Below w.heap.size w w' := by
  obtain ⟨i0, hi, hz0, hz1, hz2⟩ := info_parts infoI
  by_cases h0 : n = 0
  · subst h0
    refine (Any8.slices_Grow_room Ytjkcdnfmmfpbjaa.growI none 0 0 0 w (Nat.le_refl _) (by decide) (by decide) (by decide)).mono ?_
    rintro e w' ⟨rfl, rfl⟩
    exact ⟨none, 0, rfl, World.ownsRow_nil _ _ _ _, Below.refl _ _⟩
  · refine (Any8.slices_Grow_grow Ytjkcdnfmmfpbjaa.growI i0 (.int .i64 0) hi hz0 (by rw [hz1]; decide) none 0 0 n [] w (Nat.le_refl _) (by omega) (by rw [hz2]; omega) (by omega) (by simp) (fun _ => rfl) (fun a h => by cases h)).mono ?_
    have et : growI_ren.t 25 = 2 := by kernel_rfl
    rw [et]
    rintro e w' ⟨rfl, rfl⟩
    refine ⟨_, _, rfl, ?_, ((Below.refl _ _).drew).alloc (Nat.le_refl _) _⟩
    have hge := grownCap_ge w (0 + n) 0 2
    have hcm := grownCap_le_maxLen w (0 + n) 0 2 (by simp only [maxLen]; omega)
    refine World.ownsRow_made (base := w.heap.size) (e := 2) (size := 1) w.drew _ _ (Nat.le_refl _) hcm ?_
    have hz : (Value.int .i64 0).cells.size = 1 := rfl
    simp only [Array.size_append, size_zeroCells, hz]
    show (0 + _ + _) = _
    have hge2 : 0 + n ≤ grownCap w (0 + n) 0 2 := hge
    generalize grownCap w (0 + n) 0 2 = G at *
    omega
def tk (xs ys : List Int) : Nat → List Int
  | 0 => []
  | 1 => xs
  | _ => xs ++ ys
def CcRel (xs ys : List Int) (w : World) (v iv : Value) (wr : World) : Prop := ∃ k : Nat, k ≤ 2 ∧ iv = .int .i64 (k : Int) ∧ Hid (wr.ownsRow w.heap.size 2 1 v (tk xs ys k).length (ints (tk xs ys k))) ∧ Hid (Below w.heap.size w wr)
set_option maxHeartbeats 2000000 in
set_option maxRecDepth 100000 in
theorem concat2 (g n m c c' B B' : Nat) (A A' : Option Addr) (xs ys : List Int) (w : World) (hn : xs.length = n) (hm : ys.length = m) (g0 : w.cell? ⟨g, 0, none⟩ = some (.slice A n c)) (g1 : w.cell? ⟨g, 1, none⟩ = some (.slice A' m c')) (hx : RdI w B A xs) (hy : RdI w B' A' ys) (hB : B ≤ w.heap.size) (hB' : B' ≤ w.heap.size) (hl : n ≤ 100000) (hl' : m ≤ 100000) :
    Calls Try.prog 85 #[.slice (some ⟨g, 0, none⟩) 2 2] w (ListMade (xs ++ ys) w) := by
  have hgl : g < w.heap.size := block_lt_of_cell g0
  have HX := Lib.hid hx
  have HY := Lib.hid hy
  have HN := Lib.hid hn
  have HM := Lib.hid hm
  have HG := Lib.hid (grow_nil (n + m) (by omega) w)
  clear hx hy hn hm
  go_enter Try.func85, Try.ntmps85
  go_wp2
  go_loop [3, 11] (fun sv iv => ∃ k : Nat, k ≤ 2 ∧ iv = .int .i64 (k : Int) ∧ ((k = 0 ∧ sv = .int .i64 0) ∨ (k = 1 ∧ sv = .int .i64 (n : Int)) ∨ (k = 2 ∧ sv = .int .i64 ((n : Int) + (m : Int))))) (fun _ iv => 2 - (intOf iv).toNat)
  case atStart => exact ⟨0, by decide, rfl, .inl ⟨rfl, rfl⟩⟩
  case round =>
    obtain ⟨k, hk, rfl, hs⟩ := hrel
    rcases hs with ⟨rfl, rfl⟩ | ⟨rfl, rfl⟩ | ⟨rfl, rfl⟩
    · go_wp2
      go_round
      case rel => exact ⟨1, by decide, rfl, .inr (.inl ⟨rfl, by simp⟩)⟩
      case measure => simp [intOf]
    · go_wp2
      go_round
      case rel => exact ⟨2, by decide, rfl, .inr (.inr ⟨rfl, by simp⟩)⟩
      case measure => simp [intOf]
    · clear hk
      go_wp2_with fail
      refine HG.out.mono ?_
      rintro e w1 ⟨A1, c1, rfl, ho, hb⟩
      have H0 : Hid (CcRel xs ys w (.slice A1 0 c1) (.int .i64 0) w1) := Lib.hid ⟨0, by decide, rfl, Lib.hid ho, Lib.hid hb⟩
      clear ho hb
      go_wp2
      go_loopw [6, 27] (fun v iv wr => CcRel xs ys w v iv wr) (fun _ iv _ => 2 - (intOf iv).toNat)
      case atStart => exact H0.out
      case round =>
        obtain ⟨k, hk, rfl, HO, HB⟩ := hrel
        clear H0
        have hsz := HB.out.size
        have q0 := (HB.out.cell (p := ⟨g, 0, none⟩) hgl).trans g0
        have q1 := (HB.out.cell (p := ⟨g, 1, none⟩) hgl).trans g1
        have HX1 := Lib.hid (HX.out.below HB.out hB)
        have HY1 := Lib.hid (HY.out.below HB.out hB')
        have h3 : k = 0 ∨ k = 1 ∨ k = 2 := by omega
        rcases h3 with rfl | rfl | rfl
        · go_wp2_with (at_builtin; refine wpList_append_list rfl (.tmp 31) (.tmp 32) rfl w.heap.size _ 0 [] rfl HO.out A n c B xs rfl HN.out HX1.out (by omega) hsz ?_)
          intro v' w2 h1 h2
          have HNx : Hid (CcRel xs ys w v' (.int .i64 1) w2) := Lib.hid ⟨1, by decide, rfl, Lib.hid (by
            show w2.ownsRow _ _ _ _ xs.length (ints xs)
            rw [HN.out]; simpa using h1), Lib.hid (HB.out.trans (grown_below h2 (fun q he => by obtain ⟨_, _, h3, _⟩ := ownsRow_block HO.out he; exact h3) hsz))⟩
          clear h1 h2
          go_wp2
          go_roundw
          case rel => exact HNx.out
          case measure => simp [intOf]
        · go_wp2_with (at_builtin; refine wpList_append_list rfl (.tmp 31) (.tmp 32) rfl w.heap.size _ xs.length xs rfl HO.out A' m c' B' ys rfl HM.out HY1.out (by rw [HN.out]; omega) hsz ?_)
          intro v' w2 h1 h2
          have HNx : Hid (CcRel xs ys w v' (.int .i64 2) w2) := Lib.hid ⟨2, by decide, rfl, Lib.hid (by
            show w2.ownsRow _ _ _ _ (xs ++ ys).length (ints (xs ++ ys))
            rw [List.length_append, HM.out]; exact h1), Lib.hid (HB.out.trans (grown_below h2 (fun q he => by obtain ⟨_, _, h3, _⟩ := ownsRow_block HO.out he; exact h3) hsz))⟩
          clear h1 h2
          go_wp2
          go_roundw
          case rel => exact HNx.out
          case measure => simp [intOf]
        · have ho : OwnI wr w.heap.size _ (xs ++ ys) := HO.out
          obtain ⟨A9, c9, e9, _⟩ := ho.form
          subst e9
          have HR : Hid (ListMade (xs ++ ys) w (.returned (.slice A9 (xs ++ ys).length c9)) wr) := Lib.hid ⟨A9, c9, rfl, ho, HB.out⟩
          clear ho
          go_wp2
          go_ret
          exact HR.out
end Go.Proofs.Ytjkcdnfmmfpbjaa.Concat

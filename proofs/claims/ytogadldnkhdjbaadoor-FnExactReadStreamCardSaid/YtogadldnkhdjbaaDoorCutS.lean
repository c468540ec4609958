/- The parts of a text between marks: the reference, and strings.Split off the kit's shelf. -/
import Derived.Test.YtogadldnkhdjbaaDoorRecS
import Derived.Shelf.Strings.Split
namespace Go.Proofs
open Go.Shelf
def YtogadldnkhdjbaaDoor.lays146_ren : Go.Shelf.Ren := ⟨fun | 146 => 34 | 221 => 59 | 268 => 83 | 138 => 84 | 143 => 54 | 195 => 104 | 197 => 105 | 218 => 106 | 219 => 78 | 260 => 119 | 217 => 97 | 225 => 98 | 224 => 99 | 267 => 100 | 266 => 117 | 314 => 118 | n => n, fun | 9 => 9 | 31 => 24 | 3 => 3 | 4 => 4 | 0 => 0 | 105 => 148 | 21 => 21 | 5 => 5 | 46 => 106 | 119 => 167 | 139 => 170 | 138 => 169 | 146 => 158 | 51 => 139 | n => n, fun | 1 => 1 | 3 => 6 | 4 => 7 | n => n⟩
theorem YtogadldnkhdjbaaDoor.lays146 : Go.Proofs.Lays.n146 Tryd.prog YtogadldnkhdjbaaDoor.lays146_ren := {
  mixed := by kernel_rfl
  f138 := Tryd.func84.trans (congrArg some (by kernel_rfl))
  f143 := Tryd.func54.trans (congrArg some (by kernel_rfl))
  f146 := Tryd.func34.trans (congrArg some (by kernel_rfl))
  f195 := Tryd.func104.trans (congrArg some (by kernel_rfl))
  f197 := Tryd.func105.trans (congrArg some (by kernel_rfl))
  f217 := Tryd.func97.trans (congrArg some (by kernel_rfl))
  f218 := Tryd.func106.trans (congrArg some (by kernel_rfl))
  f219 := Tryd.func78.trans (congrArg some (by kernel_rfl))
  f221 := Tryd.func59.trans (congrArg some (by kernel_rfl))
  f224 := Tryd.func99.trans (congrArg some (by kernel_rfl))
  f225 := Tryd.func98.trans (congrArg some (by kernel_rfl))
  f260 := Tryd.func119.trans (congrArg some (by kernel_rfl))
  f266 := Tryd.func117.trans (congrArg some (by kernel_rfl))
  f267 := Tryd.func100.trans (congrArg some (by kernel_rfl))
  f268 := Tryd.func83.trans (congrArg some (by kernel_rfl))
  f314 := Tryd.func118.trans (congrArg some (by kernel_rfl))
  t0 := Tryd.underlying0
  a0 := Tryd.isAgg0
  z0 := Tryd.sizeOf0
  v0 := Tryd.zeroValue0
  t3 := Tryd.underlying3
  a3 := Tryd.isAgg3
  z3 := Tryd.sizeOf3
  v3 := Tryd.zeroValue3
  t4 := Tryd.underlying4
  a4 := Tryd.isAgg4
  z4 := Tryd.sizeOf4
  v4 := Tryd.zeroValue4
  t5 := Tryd.underlying5
  a5 := Tryd.isAgg5
  z5 := Tryd.sizeOf5
  v5 := Tryd.zeroValue5
  t9 := Tryd.underlying9
  a9 := Tryd.isAgg9
  z9 := Tryd.sizeOf9
  v9 := Tryd.zeroValue9
  t21 := Tryd.underlying21
  a21 := Tryd.isAgg21
  z21 := Tryd.sizeOf21
  v21 := Tryd.zeroValue21
  t31 := Tryd.underlying24
  a31 := Tryd.isAgg24
  z31 := Tryd.sizeOf24
  v31 := Tryd.zeroValue24
  t46 := Tryd.underlying106
  a46 := Tryd.isAgg106
  z46 := Tryd.sizeOf106
  v46 := Tryd.zeroValue106
  t51 := Tryd.underlying139
  a51 := Tryd.isAgg139
  z51 := Tryd.sizeOf139
  v51 := Tryd.zeroValue139
  t105 := Tryd.underlying148
  a105 := Tryd.isAgg148
  z105 := Tryd.sizeOf148
  v105 := Tryd.zeroValue148
  t119 := Tryd.underlying167
  a119 := Tryd.isAgg167
  z119 := Tryd.sizeOf167
  t138 := Tryd.underlying169
  a138 := Tryd.isAgg169
  z138 := Tryd.sizeOf169
  v138 := Tryd.zeroValue169
  t139 := Tryd.underlying170
  a139 := Tryd.isAgg170
  z139 := Tryd.sizeOf170
  v139 := Tryd.zeroValue170
  t146 := Tryd.underlying158
  a146 := Tryd.isAgg158
  z146 := Tryd.sizeOf158
  v146 := Tryd.zeroValue158
  g1 := by kernel_rfl
  g3 := by kernel_rfl
  g4 := by kernel_rfl }
end Go.Proofs
namespace Go.Proofs.YtogadldnkhdjbaaDoor.CutP
open Go.RowKit Go.Proofs.YtogadldnkhdjbaaDoor Go.Proofs.YtogadldnkhdjbaaDoor.Base Go.Proofs.YtogadldnkhdjbaaDoor.Mem Go.Proofs.YtogadldnkhdjbaaDoor.Dec Go.Proofs.YtogadldnkhdjbaaDoor.LabM Go.Proofs.YtogadldnkhdjbaaDoor.RecJ
set_option linter.unusedVariables false
/-- the parts between marks -/
noncomputable def cutR (c : UInt8) (l : List UInt8) : List (List UInt8) := match h : posOf l c with
  | none => [l]
  | some o => l.take o :: cutR c (l.drop (o + 1))
termination_by l.length
decreasing_by
  have := pos_at l c
  rw [h] at this
  cases this with
  | yes e hlt => rw [List.length_drop]; omega
theorem cutR_no {c : UInt8} {l : List UInt8} (h : At l c none) : cutR c l = [l] := by
  rw [cutR]
  split
  · rfl
  · rename_i o ho
    rw [h.pos] at ho; cases ho
theorem cutR_yes {c : UInt8} {l : List UInt8} {o : Nat} (h : At l c (some o)) : cutR c l = l.take o :: cutR c (l.drop (o + 1)) := by
  rw [cutR]
  split
  · rename_i ho
    rw [h.pos] at ho; cases ho
  · rename_i p hp
    rw [h.pos] at hp; cases hp; rfl
theorem cutR_len (c : UInt8) : ∀ (n : Nat) (l : List UInt8), l.length ≤ n → 1 ≤ (cutR c l).length ∧ (cutR c l).length ≤ l.length + 1 ∧ ∀ e, e ∈ cutR c l → e.length ≤ l.length
  | n, l, h => by
    rcases at_any l c with h1 | ⟨o, h1⟩
    · rw [cutR_no h1]; simp
    · rw [cutR_yes h1]
      cases h1 with
      | yes e hlt =>
        cases n with
        | zero => omega
        | succ n =>
          obtain ⟨i0, i1, i2⟩ := cutR_len c n (l.drop (o + 1)) (by rw [List.length_drop]; omega)
          rw [List.length_drop] at i1
          refine ⟨by simp, by rw [List.length_cons]; omega, fun x hx => ?_⟩
          rcases List.mem_cons.1 hx with rfl | hx
          · rw [List.length_take]; omega
          · have := i2 x hx; rw [List.length_drop] at this; omega
def CtTo (s : ByteArray) (c : UInt8) (w : World) (v fv iv : Value) (wr : World) : Prop :=
  ∃ (f i : Nat) (D : List (List UInt8)), i ≤ s.size + 1 ∧ f ≤ s.size + 1 ∧ D.length ≤ i ∧ fv = .int .i64 (f : Int) ∧ iv = .int .i64 (i : Int) ∧
    Hid ((f ≤ i ∧ i ≤ s.size ∧ cutR c s.data.toList = D ++ cutR c (s.data.toList.drop f) ∧ ∀ j, f ≤ j → j < i → s.data.toList[j]? ≠ some c) ∨ (i = s.size + 1 ∧ cutR c s.data.toList = D)) ∧
    Hid (wr.ownsRow w.heap.size 9 1 v D.length (texts (txs D))) ∧ Hid (Below w.heap.size w wr)
def CutRet (l : List UInt8) (c : UInt8) (w : World) (e : Ending) (w' : World) : Prop := ∃ (A : Option Addr) (cp : Nat), e = .returned (.slice A (cutR c l).length cp) ∧ RdT w' w'.heap.size A (txs (cutR c l)) ∧ Below w.heap.size w w'
set_option maxHeartbeats 2000000 in
set_option maxRecDepth 100000 in
theorem l11Cut_any (s : ByteArray) (c : UInt8) (hs : s.size ≤ 1048576) (w : World) : Calls Tryd.prog 56 #[.string s, .int .u8 (c.toNat : Int)] w (CutRet s.data.toList c w) := by
  obtain ⟨ix, hix, xz0, xz1, xz2⟩ := info_parts infoT
  have hsz : s.data.toList.length = s.size := by rw [Array.length_toList]; rfl
  have HSZ := Lib.hid hsz
  have H0 : Hid (CtTo s c w (.slice (some ⟨w.heap.size, 0, none⟩) 0 0) (.int .i64 0) (.int .i64 0) (w.alloc (.cells #[] 9))) := Lib.hid ⟨0, 0, [], Nat.zero_le _, Nat.zero_le _, Nat.le_refl _, rfl, rfl, Lib.hid (.inl ⟨Nat.le_refl _, Nat.zero_le _, by simp, fun j h1 h2 => absurd h2 (Nat.not_lt_zero j)⟩), Lib.hid (World.ownsRow_made w #[] 0 (Nat.le_refl _) (Nat.zero_le _) (by simp)), Lib.hid ((Below.refl _ _).alloc (Nat.le_refl _) _)⟩
  obtain ⟨m, hm⟩ : ∃ m, c.toNat = m := ⟨_, rfl⟩
  have hm2 : m < 256 := by rw [← hm]; exact c.toNat_lt
  have HM := Lib.hid hm
  rw [hm]
  clear hsz hm
  go_enter Tryd.func56, Tryd.ntmps56
  go_wp2
  go_loopw [5, 6, 7] (fun v fv iv wr => CtTo s c w v fv iv wr) (fun _ _ i _ => s.size + 1 - (intOf i).toNat)
  case atStart => exact H0.out
  case round =>
    obtain ⟨f, i, D, hin, hfs, hDi, rfl, rfl, HC, HO, HB⟩ := hrel
    clear H0
    have hws := HB.out.size
    by_cases hle : i ≤ s.size
    · have hA : Hid (f ≤ i ∧ cutR c s.data.toList = D ++ cutR c (s.data.toList.drop f) ∧ ∀ j, f ≤ j → j < i → s.data.toList[j]? ≠ some c) := Lib.hid (by
        rcases HC.out with ⟨a, b, d, e⟩ | ⟨a, b⟩
        · exact ⟨a, d, e⟩
        · omega)
      have hfi := hA.out.1
      clear HC
      have E1 : Hid (s.extract f i = tx ((s.data.toList.drop f).take (i - f))) := Lib.hid (by rw [ext_tx, List.drop_take])
      have hfi' : (f : Int) ≤ (i : Int) := by omega
      have hin' : (i : Int) ≤ (s.size : Int) := by omega
      by_cases hlt : i < s.size
      · obtain ⟨x, hx⟩ : ∃ x, (s[i]'hlt).toNat = x := ⟨_, rfl⟩
        have HX : Hid (s.data.toList[i]? = some (UInt8.ofNat x)) := Lib.hid (by
          rw [← hx, List.getElem?_eq_getElem (by have := HSZ.out; omega)]
          congr 1
          apply UInt8.toNat_inj.1
          simp
          rfl)
        have hx2 : x < 256 := by rw [← hx]; exact (s[i]'hlt).toNat_lt
        have hie : ((i : Int) == (s.size : Int)) = false := beq_eq_false_iff_ne.2 (by omega)
        by_cases h10 : x = m
        · subst h10
          have HXc : Hid (s.data.toList[i]? = some c) := Lib.hid (by rw [HX.out, ← HM.out]; congr 1; simp)
          have HAt : Hid (At (s.data.toList.drop f) c (some (i - f))) := Lib.hid (At.of (by rw [List.getElem?_drop, show f + (i - f) = i by omega, HXc.out]) fun j hj => by rw [List.getElem?_drop]; exact hA.out.2.2 (f + j) (by omega) (by omega))
          have HNx : Hid (∀ v' w3, w3.ownsRow w.heap.size 9 1 v' (D.length + 1) (texts (txs D) ++ [.string (s.extract f i)]) → (wr.alloc (.cells #[.string (s.extract f i)] 9)).grownBy w3 u5.ownBlock → CtTo s c w v' (.int .i64 ((i : Int) + 1)) (.int .i64 ((i : Int) + 1)) w3) := Lib.hid fun v' w3 h1 h2 => by
            rw [E1.out] at h1
            refine ⟨i + 1, i + 1, D ++ [(s.data.toList.drop f).take (i - f)], by omega, by omega, by simp; omega, by simp, by simp, Lib.hid (.inl ⟨Nat.le_refl _, hlt, ?_, fun j a b => absurd b (by omega)⟩), Lib.hid (own_txt h1), Lib.hid (grow_below HO.out HB.out h2)⟩
            rw [hA.out.2.1, cutR_yes HAt.out, List.drop_drop, show f + (i - f + 1) = i + 1 by omega]
            simp
          have HW := Lib.hid (World.ownsRow.alloc HO.out (.cells #[.string (s.extract f i)] 9))
          go_wp2_with (at_builtin; refine wpList_append_own_at _ rfl (.tmp 26) (.tmp 31) 24 rfl w.heap.size 9 ix (.string ByteArray.empty) 1 16 Tryd.underlying24 hix xz0 xz1 xz2 rfl (by decide) _ _ _ rfl HW.out ⟨wr.heap.size, 0, none⟩ 1 1 [.string (s.extract f i)] rfl rfl ?p1a ?p2a ?p3a ?p4a ?p5a ?_)
          try case p1a => exact news_one _ _ _ (by simp)
          try case p2a => first | rfl | (intro u hu; simp at hu; subst hu; rfl)
          try case p3a => first | (simp only [maxLen]; omega) | omega
          try case p4a => omega
          try case p5a => first | (simp only [World.size_alloc]; omega) | omega
          intro v' w3 hown' hg' _ he
          have HN2 := Lib.hid (HNx.out v' w3 hown' hg')
          clear hown' hg' he
          go_wp2_with fail
          go_roundw
          case rel => exact HN2.out
          case measure => simp [intOf]; omega
        · have hne : ((x : Int) == (m : Int)) = false := by simp only [beq_eq_false_iff_ne]; omega
          go_wp2
          go_roundw
          case rel =>
            refine ⟨f, i + 1, D, by omega, hfs, by omega, rfl, by simp, Lib.hid (.inl ⟨by omega, hlt, hA.out.2.1, fun j a b => ?_⟩), HO, HB⟩
            by_cases e : j = i
            · subst e
              rw [HX.out]
              intro h
              have := congrArg UInt8.toNat (Option.some.inj h)
              rw [HM.out] at this
              simp at this
              omega
            · exact hA.out.2.2 j a (by omega)
          case measure => simp [intOf]; omega
      · obtain rfl : i = s.size := by omega
        have HAt : Hid (At (s.data.toList.drop f) c none) := Lib.hid (At.none_of fun j hj => by rw [List.getElem?_drop]; rw [List.length_drop] at hj; have := HSZ.out; exact hA.out.2.2 (f + j) (by omega) (by omega))
        have HNx : Hid (∀ v' w3, w3.ownsRow w.heap.size 9 1 v' (D.length + 1) (texts (txs D) ++ [.string (s.extract f s.size)]) → (wr.alloc (.cells #[.string (s.extract f s.size)] 9)).grownBy w3 u5.ownBlock → CtTo s c w v' (.int .i64 ((s.size : Int) + 1)) (.int .i64 ((s.size : Int) + 1)) w3) := Lib.hid fun v' w3 h1 h2 => by
          rw [E1.out] at h1
          refine ⟨s.size + 1, s.size + 1, D ++ [(s.data.toList.drop f).take (s.size - f)], by omega, by omega, by simp; omega, by simp, by simp, Lib.hid (.inr ⟨rfl, ?_⟩), Lib.hid (own_txt h1), Lib.hid (grow_below HO.out HB.out h2)⟩
          rw [hA.out.2.1, cutR_no HAt.out, List.take_of_length_le (by rw [List.length_drop]; have := HSZ.out; omega)]
        have HW := Lib.hid (World.ownsRow.alloc HO.out (.cells #[.string (s.extract f s.size)] 9))
        go_wp2_with (at_builtin; refine wpList_append_own_at _ rfl (.tmp 26) (.tmp 31) 24 rfl w.heap.size 9 ix (.string ByteArray.empty) 1 16 Tryd.underlying24 hix xz0 xz1 xz2 rfl (by decide) _ _ _ rfl HW.out ⟨wr.heap.size, 0, none⟩ 1 1 [.string (s.extract f s.size)] rfl rfl ?p1a ?p2a ?p3a ?p4a ?p5a ?_)
        try case p1a => exact news_one _ _ _ (by simp)
        try case p2a => first | rfl | (intro u hu; simp at hu; subst hu; rfl)
        try case p3a => first | (simp only [maxLen]; omega) | omega
        try case p4a => omega
        try case p5a => first | (simp only [World.size_alloc]; omega) | omega
        intro v' w3 hown' hg' _ he
        have HN2 := Lib.hid (HNx.out v' w3 hown' hg')
        clear hown' hg' he
        go_wp2_with fail
        go_roundw
        case rel => exact HN2.out
        case measure => first | (simp [intOf]; done) | (simp [intOf]; omega)
    · have HE : Hid (cutR c s.data.toList = D) := Lib.hid (by
        rcases HC.out with ⟨a, b, d, e⟩ | ⟨a, b⟩
        · omega
        · exact b)
      obtain ⟨A0, c0, e0, _⟩ := ownsRow_form HO.out
      subst e0
      have HR : Hid (RdT wr wr.heap.size A0 (txs D)) := Lib.hid (by
        have o : OwnT wr w.heap.size (.slice A0 D.length c0) (txs D) := by unfold OwnT; rw [txs_len]; exact HO.out
        exact o.rd)
      go_wp2
      go_ret
      exact ⟨A0, c0, by rw [HE.out]; rfl, by rw [HE.out]; exact HR.out, HB.out⟩
/-! ### strings.Split at one byte -/
theorem splitK_cut (c : UInt8) : ∀ (n : Nat) (l : List UInt8), l.length ≤ n → Lib.splitK [c] 0 (Lib.count l [c]) l = cutR c l
  | n, l, h => by
    rcases at_any l c with h1 | ⟨o, h1⟩
    · have hi : Lib.index l [c] = -1 := by rw [Lib.index_one]; cases h1 with | no e => exact e
      rw [Lib.count_miss hi, cutR_no h1]; rfl
    · have hi : Lib.index l [c] = (o : Int) := by rw [Lib.index_one]; cases h1 with | yes e _ => exact e
      have hlt : o < l.length := by cases h1 with | yes _ e => exact e
      cases n with
      | zero => omega
      | succ n =>
        have ih := splitK_cut c n (l.drop (o + 1)) (by rw [List.length_drop]; omega)
        have hc := Lib.count_hit (s := l) (sub := [c]) (by simp) hi
        rw [show ([c] : List UInt8).length = 1 from rfl] at hc
        rw [cutR_yes h1, ← ih, hc, Nat.add_comm 1, Lib.splitK, if_neg (by rw [hi]; simp), hi]
        rfl
theorem splitB_cut (c : UInt8) (s : ByteArray) : Lib.splitB ⟨#[c]⟩ 0 (Lib.countB s ⟨#[c]⟩) s = txs (cutR c s.data.toList) := by
  have h := Lib.splitB_data ⟨#[c]⟩ 0 (Lib.countB s ⟨#[c]⟩) s
  have e : Lib.countB s ⟨#[c]⟩ = Lib.count s.data.toList [c] := rfl
  rw [e] at h ⊢
  rw [show (⟨#[c]⟩ : ByteArray).data.toList = [c] from rfl, splitK_cut c _ _ (Nat.le_refl _)] at h
  rw [← h, txs, List.map_map]
  have : (tx ∘ fun x : ByteArray => x.data.toList) = id := funext fun a => tx_list a
  rw [this, List.map_id]
theorem split_any (s : ByteArray) (c : UInt8) (hs : s.size ≤ 1048576) (m : Int) (w : World) (hm : w.cell? ⟨YtogadldnkhdjbaaDoor.lays146_ren.g 1, 0, none⟩ = some (.int .i64 m)) : Calls Tryd.prog 34 #[.string s, .string ⟨#[c]⟩] w (CutRet s.data.toList c w) := by
  have et : YtogadldnkhdjbaaDoor.lays146_ren.t 9 = 9 := by kernel_rfl
  refine (Any.strings_Split YtogadldnkhdjbaaDoor.lays146 (by rw [et]; exact infoT) s ⟨#[c]⟩ m w (by omega) hm (Nat.le_refl 1)).mono ?_
  rintro e w' ⟨rfl, rfl⟩
  rw [et, splitB_cut]
  have hl := Lib.splitB_all ⟨#[c]⟩ (Nat.le_refl 1) 0 (Lib.countB s ⟨#[c]⟩) s rfl
  rw [splitB_cut, txs_len] at hl
  refine ⟨some ⟨w.heap.size, 0, none⟩, Lib.countB s ⟨#[c]⟩ + 1, by rw [hl], fun _ => ⟨w.heap.size, 0, rfl, by simp, fun i hi => ?_⟩, (Below.refl _ _).alloc (Nat.le_refl _) _⟩
  have hcell : (w.alloc (.cells ((txs (cutR c s.data.toList)).map Value.string).toArray 9)).heap[w.heap.size]? = some (.cells ((txs (cutR c s.data.toList)).map Value.string).toArray 9 (0, 0)) := by
    show (w.heap.push _)[w.heap.size]? = _
    simp
  rw [Lib.cell_of_heap hcell]
  simp [List.getD, hi]
end Go.Proofs.YtogadldnkhdjbaaDoor.CutP

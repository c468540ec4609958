/- The parts of a text between marks: the reference, and strings.Split off the kit's shelf. -/
import Derived.Test.YtogadldnkhdjbaaDoorRecS
import Derived.Shelf.Strings.Split
import Derived.Test.YtogadldnkhdjbaaDoorDecI
import Derived.Shelf.Strconv.ParseIntPublic10
import Derived.Test.YtogadldnkhdjbaaDoorRec
namespace Go.Proofs
open Go.Shelf
def YtogadldnkhdjbaaDoor.lays146_ren : Go.Shelf.Ren := ⟨fun | 146 => 34 | 221 => 59 | 268 => 83 | 138 => 84 | 143 => 54 | 195 => 104 | 197 => 105 | 218 => 106 | 219 => 78 | 260 => 119 | 217 => 97 | 225 => 98 | 224 => 99 | 267 => 100 | 266 => 117 | 314 => 118 | n => n, fun | 9 => 9 | 31 => 24 | 3 => 3 | 4 => 4 | 0 => 0 | 105 => 148 | 21 => 21 | 5 => 5 | 46 => 106 | 119 => 167 | 139 => 170 | 138 => 169 | 146 => 158 | 51 => 139 | n => n, fun | 1 => 1 | 3 => 6 | 4 => 7 | n => n⟩
theorem YtogadldnkhdjbaaDoor.lays146 : Go.Proofs.Lays.n146 Tryd.prog YtogadldnkhdjbaaDoor.lays146_ren := {
  mixed := by kernel_rfl
  f138 := Tryd.func84.trans (congrArg some (by kernel_rfl))
  f143 := Tryd.func54.trans (congrArg some (by kernel_rfl))
  f146 := Tryd.func34.trans (congrArg some (by kernel_rfl))
  f195 := Tryd.func104.trans (congrArg some (by kernel_rfl))
  f197 := Tryd.func105.trans (congrArg some (by kernel_rfl))
  f217 := Tryd.func97.trans (congrArg some (by kernel_rfl))
  f218 := Tryd.func106.trans (congrArg some (by kernel_rfl))
  f219 := Tryd.func78.trans (congrArg some (by kernel_rfl))
  f221 := Tryd.func59.trans (congrArg some (by kernel_rfl))
  f224 := Tryd.func99.trans (congrArg some (by kernel_rfl))
  f225 := Tryd.func98.trans (congrArg some (by kernel_rfl))
  f260 := Tryd.func119.trans (congrArg some (by kernel_rfl))
  f266 := Tryd.func117.trans (congrArg some (by kernel_rfl))
  f267 := Tryd.func100.trans (congrArg some (by kernel_rfl))
  f268 := Tryd.func83.trans (congrArg some (by kernel_rfl))
  f314 := Tryd.func118.trans (congrArg some (by kernel_rfl))
  t0 := Tryd.underlying0
  a0 := Tryd.isAgg0
  z0 := Tryd.sizeOf0
  v0 := Tryd.zeroValue0
  t3 := Tryd.underlying3
  a3 := Tryd.isAgg3
  z3 := Tryd.sizeOf3
  v3 := Tryd.zeroValue3
  t4 := Tryd.underlying4
  a4 := Tryd.isAgg4
  z4 := Tryd.sizeOf4
  v4 := Tryd.zeroValue4
  t5 := Tryd.underlying5
  a5 := Tryd.isAgg5
  z5 := Tryd.sizeOf5
  v5 := Tryd.zeroValue5
  t9 := Tryd.underlying9
  a9 := Tryd.isAgg9
  z9 := Tryd.sizeOf9
  v9 := Tryd.zeroValue9
  t21 := Tryd.underlying21
  a21 := Tryd.isAgg21
  z21 := Tryd.sizeOf21
  v21 := Tryd.zeroValue21
  t31 := Tryd.underlying24
  a31 := Tryd.isAgg24
  z31 := Tryd.sizeOf24
  v31 := Tryd.zeroValue24
  t46 := Tryd.underlying106
  a46 := Tryd.isAgg106
  z46 := Tryd.sizeOf106
  v46 := Tryd.zeroValue106
  t51 := Tryd.underlying139
  a51 := Tryd.isAgg139
  z51 := Tryd.sizeOf139
  v51 := Tryd.zeroValue139
  t105 := Tryd.underlying148
  a105 := Tryd.isAgg148
  z105 := Tryd.sizeOf148
  v105 := Tryd.zeroValue148
  t119 := Tryd.underlying167
  a119 := Tryd.isAgg167
  z119 := Tryd.sizeOf167
  t138 := Tryd.underlying169
  a138 := Tryd.isAgg169
  z138 := Tryd.sizeOf169
  v138 := Tryd.zeroValue169
  t139 := Tryd.underlying170
  a139 := Tryd.isAgg170
  z139 := Tryd.sizeOf170
  v139 := Tryd.zeroValue170
  t146 := Tryd.underlying158
  a146 := Tryd.isAgg158
  z146 := Tryd.sizeOf158
  v146 := Tryd.zeroValue158
  g1 := by kernel_rfl
  g3 := by kernel_rfl
  g4 := by kernel_rfl }
end Go.Proofs
namespace Go.Proofs.YtogadldnkhdjbaaDoor.CutP
open Go.RowKit Go.Proofs.YtogadldnkhdjbaaDoor Go.Proofs.YtogadldnkhdjbaaDoor.Base Go.Proofs.YtogadldnkhdjbaaDoor.Mem Go.Proofs.YtogadldnkhdjbaaDoor.Dec Go.Proofs.YtogadldnkhdjbaaDoor.LabM Go.Proofs.YtogadldnkhdjbaaDoor.RecJ
set_option linter.unusedVariables false
/-- the parts between marks -/
noncomputable def cutR (c : UInt8) (l : List UInt8) : List (List UInt8) := match h : posOf l c with
  | none => [l]
  | some o => l.take o :: cutR c (l.drop (o + 1))
termination_by l.length
decreasing_by
  have := pos_at l c
  rw [h] at this
  cases this with
  | yes e hlt => rw [List.length_drop]; omega
theorem cutR_no {c : UInt8} {l : List UInt8} (h : At l c none) : cutR c l = [l] := by
  rw [cutR]
  split
  · rfl
  · rename_i o ho
    rw [h.pos] at ho; cases ho
theorem cutR_yes {c : UInt8} {l : List UInt8} {o : Nat} (h : At l c (some o)) : cutR c l = l.take o :: cutR c (l.drop (o + 1)) := by
  rw [cutR]
  split
  · rename_i ho
    rw [h.pos] at ho; cases ho
  · rename_i p hp
    rw [h.pos] at hp; cases hp; rfl
theorem cutR_len (c : UInt8) : ∀ (n : Nat) (l : List UInt8), l.length ≤ n → 1 ≤ (cutR c l).length ∧ (cutR c l).length ≤ l.length + 1 ∧ ∀ e, e ∈ cutR c l → e.length ≤ l.length
  | n, l, h => by
    rcases at_any l c with h1 | ⟨o, h1⟩
    · rw [cutR_no h1]; simp
    · rw [cutR_yes h1]
      cases h1 with
      | yes e hlt =>
        cases n with
        | zero => omega
        | succ n =>
          obtain ⟨i0, i1, i2⟩ := cutR_len c n (l.drop (o + 1)) (by rw [List.length_drop]; omega)
          rw [List.length_drop] at i1
          refine ⟨by simp, by rw [List.length_cons]; omega, fun x hx => ?_⟩
          rcases List.mem_cons.1 hx with rfl | hx
          · rw [List.length_take]; omega
          · have := i2 x hx; rw [List.length_drop] at this; omega
def CtTo (s : ByteArray) (c : UInt8) (w : World) (v fv iv : Value) (wr : World) : Prop :=
  ∃ (f i : Nat) (D : List (List UInt8)), i ≤ s.size + 1 ∧ f ≤ s.size + 1 ∧ D.length ≤ i ∧ fv = .int .i64 (f : Int) ∧ iv = .int .i64 (i : Int) ∧
    Hid ((f ≤ i ∧ i ≤ s.size ∧ cutR c s.data.toList = D ++ cutR c (s.data.toList.drop f) ∧ ∀ j, f ≤ j → j < i → s.data.toList[j]? ≠ some c) ∨ (i = s.size + 1 ∧ cutR c s.data.toList = D)) ∧
    Hid (wr.ownsRow w.heap.size 9 1 v D.length (texts (txs D))) ∧ Hid (Below w.heap.size w wr)
def CutRet (l : List UInt8) (c : UInt8) (w : World) (e : Ending) (w' : World) : Prop := ∃ (A : Option Addr) (cp : Nat), e = .returned (.slice A (cutR c l).length cp) ∧ RdT w' w'.heap.size A (txs (cutR c l)) ∧ Below w.heap.size w w'
set_option maxHeartbeats 2000000 in
set_option maxRecDepth 100000 in
theorem l11Cut_any (s : ByteArray) (c : UInt8) (hs : s.size ≤ 1048576) (w : World) : Calls Tryd.prog 56 #[.string s, .int .u8 (c.toNat : Int)] w (CutRet s.data.toList c w) := by
  obtain ⟨ix, hix, xz0, xz1, xz2⟩ := info_parts infoT
  have hsz : s.data.toList.length = s.size := by rw [Array.length_toList]; rfl
  have HSZ := Lib.hid hsz
  have H0 : Hid (CtTo s c w (.slice (some ⟨w.heap.size, 0, none⟩) 0 0) (.int .i64 0) (.int .i64 0) (w.alloc (.cells #[] 9))) := Lib.hid ⟨0, 0, [], Nat.zero_le _, Nat.zero_le _, Nat.le_refl _, rfl, rfl, Lib.hid (.inl ⟨Nat.le_refl _, Nat.zero_le _, by simp, fun j h1 h2 => absurd h2 (Nat.not_lt_zero j)⟩), Lib.hid (World.ownsRow_made w #[] 0 (Nat.le_refl _) (Nat.zero_le _) (by simp)), Lib.hid ((Below.refl _ _).alloc (Nat.le_refl _) _)⟩
  obtain ⟨m, hm⟩ : ∃ m, c.toNat = m := ⟨_, rfl⟩
  have hm2 : m < 256 := by rw [← hm]; exact c.toNat_lt
  have HM := Lib.hid hm
  rw [hm]
  clear hsz hm
  go_enter Tryd.func56, Tryd.ntmps56
  go_wp2
  go_loopw [5, 6, 7] (fun v fv iv wr => CtTo s c w v fv iv wr) (fun _ _ i _ => s.size + 1 - (intOf i).toNat)
  case atStart => exact H0.out
  case round =>
    obtain ⟨f, i, D, hin, hfs, hDi, rfl, rfl, HC, HO, HB⟩ := hrel
    clear H0
    have hws := HB.out.size
    by_cases hle : i ≤ s.size
    · have hA : Hid (f ≤ i ∧ cutR c s.data.toList = D ++ cutR c (s.data.toList.drop f) ∧ ∀ j, f ≤ j → j < i → s.data.toList[j]? ≠ some c) := Lib.hid (by
        rcases HC.out with ⟨a, b, d, e⟩ | ⟨a, b⟩
        · exact ⟨a, d, e⟩
        · omega)
      have hfi := hA.out.1
      clear HC
      have E1 : Hid (s.extract f i = tx ((s.data.toList.drop f).take (i - f))) := Lib.hid (by rw [ext_tx, List.drop_take])
      have hfi' : (f : Int) ≤ (i : Int) := by omega
      have hin' : (i : Int) ≤ (s.size : Int) := by omega
      by_cases hlt : i < s.size
      · obtain ⟨x, hx⟩ : ∃ x, (s[i]'hlt).toNat = x := ⟨_, rfl⟩
        have HX : Hid (s.data.toList[i]? = some (UInt8.ofNat x)) := Lib.hid (by
          rw [← hx, List.getElem?_eq_getElem (by have := HSZ.out; omega)]
          congr 1
          apply UInt8.toNat_inj.1
          simp
          rfl)
        have hx2 : x < 256 := by rw [← hx]; exact (s[i]'hlt).toNat_lt
        have hie : ((i : Int) == (s.size : Int)) = false := beq_eq_false_iff_ne.2 (by omega)
        by_cases h10 : x = m
        · subst h10
          have HXc : Hid (s.data.toList[i]? = some c) := Lib.hid (by rw [HX.out, ← HM.out]; congr 1; simp)
          have HAt : Hid (At (s.data.toList.drop f) c (some (i - f))) := Lib.hid (At.of (by rw [List.getElem?_drop, show f + (i - f) = i by omega, HXc.out]) fun j hj => by rw [List.getElem?_drop]; exact hA.out.2.2 (f + j) (by omega) (by omega))
          have HNx : Hid (∀ v' w3, w3.ownsRow w.heap.size 9 1 v' (D.length + 1) (texts (txs D) ++ [.string (s.extract f i)]) → (wr.alloc (.cells #[.string (s.extract f i)] 9)).grownBy w3 u5.ownBlock → CtTo s c w v' (.int .i64 ((i : Int) + 1)) (.int .i64 ((i : Int) + 1)) w3) := Lib.hid fun v' w3 h1 h2 => by
            rw [E1.out] at h1
            refine ⟨i + 1, i + 1, D ++ [(s.data.toList.drop f).take (i - f)], by omega, by omega, by simp; omega, by simp, by simp, Lib.hid (.inl ⟨Nat.le_refl _, hlt, ?_, fun j a b => absurd b (by omega)⟩), Lib.hid (own_txt h1), Lib.hid (grow_below HO.out HB.out h2)⟩
            rw [hA.out.2.1, cutR_yes HAt.out, List.drop_drop, show f + (i - f + 1) = i + 1 by omega]
            simp
          have HW := Lib.hid (World.ownsRow.alloc HO.out (.cells #[.string (s.extract f i)] 9))
          go_wp2_with (at_builtin; refine wpList_append_own_at _ rfl (.tmp 26) (.tmp 31) 24 rfl w.heap.size 9 ix (.string ByteArray.empty) 1 16 Tryd.underlying24 hix xz0 xz1 xz2 rfl (by decide) _ _ _ rfl HW.out ⟨wr.heap.size, 0, none⟩ 1 1 [.string (s.extract f i)] rfl rfl ?p1a ?p2a ?p3a ?p4a ?p5a ?_)
          try case p1a => exact news_one _ _ _ (by simp)
          try case p2a => first | rfl | (intro u hu; simp at hu; subst hu; rfl)
          try case p3a => first | (simp only [maxLen]; omega) | omega
          try case p4a => omega
          try case p5a => first | (simp only [World.size_alloc]; omega) | omega
          intro v' w3 hown' hg' _ he
          have HN2 := Lib.hid (HNx.out v' w3 hown' hg')
          clear hown' hg' he
          go_wp2_with fail
          go_roundw
          case rel => exact HN2.out
          case measure => simp [intOf]; omega
        · have hne : ((x : Int) == (m : Int)) = false := by simp only [beq_eq_false_iff_ne]; omega
          go_wp2
          go_roundw
          case rel =>
            refine ⟨f, i + 1, D, by omega, hfs, by omega, rfl, by simp, Lib.hid (.inl ⟨by omega, hlt, hA.out.2.1, fun j a b => ?_⟩), HO, HB⟩
            by_cases e : j = i
            · subst e
              rw [HX.out]
              intro h
              have := congrArg UInt8.toNat (Option.some.inj h)
              rw [HM.out] at this
              simp at this
              omega
            · exact hA.out.2.2 j a (by omega)
          case measure => simp [intOf]; omega
      · obtain rfl : i = s.size := by omega
        have HAt : Hid (At (s.data.toList.drop f) c none) := Lib.hid (At.none_of fun j hj => by rw [List.getElem?_drop]; rw [List.length_drop] at hj; have := HSZ.out; exact hA.out.2.2 (f + j) (by omega) (by omega))
        have HNx : Hid (∀ v' w3, w3.ownsRow w.heap.size 9 1 v' (D.length + 1) (texts (txs D) ++ [.string (s.extract f s.size)]) → (wr.alloc (.cells #[.string (s.extract f s.size)] 9)).grownBy w3 u5.ownBlock → CtTo s c w v' (.int .i64 ((s.size : Int) + 1)) (.int .i64 ((s.size : Int) + 1)) w3) := Lib.hid fun v' w3 h1 h2 => by
          rw [E1.out] at h1
          refine ⟨s.size + 1, s.size + 1, D ++ [(s.data.toList.drop f).take (s.size - f)], by omega, by omega, by simp; omega, by simp, by simp, Lib.hid (.inr ⟨rfl, ?_⟩), Lib.hid (own_txt h1), Lib.hid (grow_below HO.out HB.out h2)⟩
          rw [hA.out.2.1, cutR_no HAt.out, List.take_of_length_le (by rw [List.length_drop]; have := HSZ.out; omega)]
        have HW := Lib.hid (World.ownsRow.alloc HO.out (.cells #[.string (s.extract f s.size)] 9))
        go_wp2_with (at_builtin; refine wpList_append_own_at _ rfl (.tmp 26) (.tmp 31) 24 rfl w.heap.size 9 ix (.string ByteArray.empty) 1 16 Tryd.underlying24 hix xz0 xz1 xz2 rfl (by decide) _ _ _ rfl HW.out ⟨wr.heap.size, 0, none⟩ 1 1 [.string (s.extract f s.size)] rfl rfl ?p1a ?p2a ?p3a ?p4a ?p5a ?_)
        try case p1a => exact news_one _ _ _ (by simp)
        try case p2a => first | rfl | (intro u hu; simp at hu; subst hu; rfl)
        try case p3a => first | (simp only [maxLen]; omega) | omega
        try case p4a => omega
        try case p5a => first | (simp only [World.size_alloc]; omega) | omega
        intro v' w3 hown' hg' _ he
        have HN2 := Lib.hid (HNx.out v' w3 hown' hg')
        clear hown' hg' he
        go_wp2_with fail
        go_roundw
        case rel => exact HN2.out
        case measure => first | (simp [intOf]; done) | (simp [intOf]; omega)
    · have HE : Hid (cutR c s.data.toList = D) := Lib.hid (by
        rcases HC.out with ⟨a, b, d, e⟩ | ⟨a, b⟩
        · omega
        · exact b)
      obtain ⟨A0, c0, e0, _⟩ := ownsRow_form HO.out
      subst e0
      have HR : Hid (RdT wr wr.heap.size A0 (txs D)) := Lib.hid (by
        have o : OwnT wr w.heap.size (.slice A0 D.length c0) (txs D) := by unfold OwnT; rw [txs_len]; exact HO.out
        exact o.rd)
      go_wp2
      go_ret
      exact ⟨A0, c0, by rw [HE.out]; rfl, by rw [HE.out]; exact HR.out, HB.out⟩
/-! ### strings.Split at one byte -/
theorem splitK_cut (c : UInt8) : ∀ (n : Nat) (l : List UInt8), l.length ≤ n → Lib.splitK [c] 0 (Lib.count l [c]) l = cutR c l
  | n, l, h => by
    rcases at_any l c with h1 | ⟨o, h1⟩
    · have hi : Lib.index l [c] = -1 := by rw [Lib.index_one]; cases h1 with | no e => exact e
      rw [Lib.count_miss hi, cutR_no h1]; rfl
    · have hi : Lib.index l [c] = (o : Int) := by rw [Lib.index_one]; cases h1 with | yes e _ => exact e
      have hlt : o < l.length := by cases h1 with | yes _ e => exact e
      cases n with
      | zero => omega
      | succ n =>
        have ih := splitK_cut c n (l.drop (o + 1)) (by rw [List.length_drop]; omega)
        have hc := Lib.count_hit (s := l) (sub := [c]) (by simp) hi
        rw [show ([c] : List UInt8).length = 1 from rfl] at hc
        rw [cutR_yes h1, ← ih, hc, Nat.add_comm 1, Lib.splitK, if_neg (by rw [hi]; simp), hi]
        rfl
theorem splitB_cut (c : UInt8) (s : ByteArray) : Lib.splitB ⟨#[c]⟩ 0 (Lib.countB s ⟨#[c]⟩) s = txs (cutR c s.data.toList) := by
  have h := Lib.splitB_data ⟨#[c]⟩ 0 (Lib.countB s ⟨#[c]⟩) s
  have e : Lib.countB s ⟨#[c]⟩ = Lib.count s.data.toList [c] := rfl
  rw [e] at h ⊢
  rw [show (⟨#[c]⟩ : ByteArray).data.toList = [c] from rfl, splitK_cut c _ _ (Nat.le_refl _)] at h
  rw [← h, txs, List.map_map]
  have : (tx ∘ fun x : ByteArray => x.data.toList) = id := funext fun a => tx_list a
  rw [this, List.map_id]
theorem split_any (s : ByteArray) (c : UInt8) (hs : s.size ≤ 1048576) (m : Int) (w : World) (hm : w.cell? ⟨YtogadldnkhdjbaaDoor.lays146_ren.g 1, 0, none⟩ = some (.int .i64 m)) : Calls Tryd.prog 34 #[.string s, .string ⟨#[c]⟩] w (CutRet s.data.toList c w) := by
  have et : YtogadldnkhdjbaaDoor.lays146_ren.t 9 = 9 := by kernel_rfl
  refine (Any.strings_Split YtogadldnkhdjbaaDoor.lays146 (by rw [et]; exact infoT) s ⟨#[c]⟩ m w (by omega) hm (Nat.le_refl 1)).mono ?_
  rintro e w' ⟨rfl, rfl⟩
  rw [et, splitB_cut]
  have hl := Lib.splitB_all ⟨#[c]⟩ (Nat.le_refl 1) 0 (Lib.countB s ⟨#[c]⟩) s rfl
  rw [splitB_cut, txs_len] at hl
  refine ⟨some ⟨w.heap.size, 0, none⟩, Lib.countB s ⟨#[c]⟩ + 1, by rw [hl], fun _ => ⟨w.heap.size, 0, rfl, by simp, fun i hi => ?_⟩, (Below.refl _ _).alloc (Nat.le_refl _) _⟩
  have hcell : (w.alloc (.cells ((txs (cutR c s.data.toList)).map Value.string).toArray 9)).heap[w.heap.size]? = some (.cells ((txs (cutR c s.data.toList)).map Value.string).toArray 9 (0, 0)) := by
    show (w.heap.push _)[w.heap.size]? = _
    simp
  rw [Lib.cell_of_heap hcell]
  simp [List.getD, hi]
end Go.Proofs.YtogadldnkhdjbaaDoor.CutP
/- The decimal text of a number below 0; of the reference and of the program. -/
namespace Go.Proofs.YtogadldnkhdjbaaDoor.Dec
open Go.RowKit Go.Proofs.YtogadldnkhdjbaaDoor Go.Proofs.YtogadldnkhdjbaaDoor.Base Go.Proofs.YtogadldnkhdjbaaDoor.Mem
set_option linter.unusedVariables false
def DigToN (u : Nat) (w : World) (v i : Value) (wr : World) : Prop := ∃ r : Nat, i = .int .i64 (-(r : Int)) ∧ DigTo u w v (.int .i64 (r : Int)) wr
set_option maxHeartbeats 2000000 in
set_option maxRecDepth 100000 in
theorem l01Dec_neg (u : Nat) (hu0 : 0 < u) (hu : u ≤ 9223372036854775807) (w : World) : Calls Tryd.prog 50 #[.int .i64 (-(u : Int))] w fun e w' => e = .returned (.string (tx (45 :: Lib.decDigits u))) ∧ Below w.heap.size w w' := by
  obtain ⟨i0, hi, hz0, hz1, hz2⟩ := info_parts infoByte
  have hu20 : u < 10 ^ 20 := by omega
  have hz' : (-(u : Int) == 0) = false := by simp only [beq_eq_false_iff_ne]; omega
  have HR := Lib.hid (rd_rev u hu0)
  have HLn := Lib.hid (rd_len 20 u hu20)
  have H0 : Hid (DigToN u w (.slice (some ⟨w.heap.size, 0, none⟩) 0 0) (.int .i64 (-(u : Int))) (w.alloc (.cells #[] 5))) := Lib.hid ⟨u, rfl, u, [], rfl, Nat.le_refl _, by simp, Lib.hid (by simp), Lib.hid (World.ownsRow_made w #[] 0 (Nat.le_refl _) (Nat.zero_le _) (by simp)), Lib.hid ((Below.refl _ _).alloc (Nat.le_refl _) _)⟩
  have HU20 := Lib.hid hu20
  clear hu20
  go_enter Tryd.func50, Tryd.ntmps50
  go_wp2
  go_loopw [3, 4] (fun v i wr => DigToN u w v i wr) (fun _ i _ => (-(intOf i)).toNat)
  case atStart => exact H0.out
  case round =>
    obtain ⟨r, rfl, r', D, hrr, hru, hD20, HD, HO, HB⟩ := hrel
    obtain rfl : r = r' := by injection hrr with _ h; omega
    clear hrr
    clear H0
    by_cases hr : r = 0
    · subst hr
      have HDu : Hid (D = rd u) := Lib.hid (by have := HD.out; rwa [rd_zero, List.append_nil] at this)
      have hDl : D.length ≤ 20 := hD20
      obtain ⟨A0, c0, e0, hf0⟩ := ownsRow_form HO.out
      have HF0 := Lib.hid hf0
      clear hf0
      subst e0
      have hneg : -(u : Int) < 0 := by omega
      have HWs := Lib.hid (World.ownsRow.alloc HO.out (.cells #[.int .u8 45] 5))
      have hwsz := HB.out.size
      have HSg : Hid (∀ v' w3, w3.ownsRow w.heap.size 5 1 v' (D.length + 1) (Lib.byteCells D ++ [.int .u8 (45 : Int)]) → (wr.alloc (.cells #[.int .u8 45] 5)).grownBy w3 (Value.slice A0 D.length c0).ownBlock → w3.ownsRow w.heap.size 5 1 v' (D ++ [45]).length (Lib.byteCells (D ++ [45])) ∧ Below w.heap.size w w3) := Lib.hid fun v' w3 h1 h2 =>
        ⟨own_byte (x := 45) (by decide) h1, HB.out.trans (((Below.refl wr.heap.size wr).alloc (Nat.le_refl _) _ |>.mono HB.out.size).trans (grown_below h2 (fun g e => by obtain ⟨_, _, q, _⟩ := ownsRow_block HO.out e; exact q) (by have := HB.out.size; simp; omega)))⟩
      have hneg2 : (0 : Int) < (u : Int) := by omega
      go_wp2_with (at_builtin; refine wpList_append_own_at _ rfl (.tmp 30) (.tmp 31) 22 rfl w.heap.size 5 i0 (.int .u8 0) 1 1 Tryd.underlying22 hi hz0 hz1 hz2 rfl (by decide) _ _ _ rfl HWs.out ⟨wr.heap.size, 0, none⟩ 1 1 [.int .u8 45] rfl rfl ?p1s ?p2s ?p3s ?p4s ?p5s ?_)
      try case p1s => exact news_one _ _ _ (by simp)
      try case p2s => first | rfl | (intro u hu; simp at hu; subst hu; rfl)
      try case p3s => first | (simp only [maxLen]; omega) | omega
      try case p4s => omega
      try case p5s => first | (simp only [World.size_alloc]; omega) | omega
      intro v5 w5 hown5 hg5 _ he5
      obtain ⟨ho5, hb5⟩ := HSg.out v5 w5 hown5 hg5
      have HO5 := Lib.hid ho5
      have HB5 := Lib.hid hb5
      obtain ⟨A0, c0, e0, hf0⟩ := ownsRow_form ho5
      have HF5 := Lib.hid hf0
      clear hf0 hown5 hg5 he5 ho5 hb5 HSg HWs HO HB HF0
      subst e0
      obtain ⟨E, hE⟩ : ∃ E, D ++ [45] = E := ⟨_, rfl⟩
      have hE20 : E.length ≤ 21 := by rw [← hE]; simp; omega
      rw [hE] at HO5 HF5 ⊢
      have HEr : Hid (E.reverse = 45 :: Lib.decDigits u) := Lib.hid (by rw [← hE, List.reverse_append, HDu.out, HR.out]; rfl)
      have H1 : Hid (DigBack E w5 (.slice (some ⟨w5.heap.size, 0, none⟩) 0 0) (.int .i64 ((E.length : Int) - 1)) (w5.alloc (.cells #[] 5))) := Lib.hid ⟨E.length, Nat.le_refl _, rfl, Lib.hid (by rw [Nat.sub_self, List.drop_length]; exact World.ownsRow_made w5 #[] 0 (Nat.le_refl _) (Nat.zero_le _) (by simp)), Lib.hid ((Below.refl _ _).alloc (Nat.le_refl _) _)⟩
      clear hE
      go_wp2
      obtain ⟨W0, hW0⟩ : ∃ W0, W0 = w5 := ⟨_, rfl⟩
      rw [← hW0] at H1 HO5 HB5 HF5
      have HW0 := Lib.hid hW0
      clear hW0
      go_loopw [6, 7] (fun v i w2 => DigBack E W0 v i w2) (fun _ i _ => (intOf i + 1).toNat)
      case atStart => rw [← HW0.out]; exact H1.out
      case round =>
        obtain ⟨j, hj, rfl, HO2, HB2⟩ := hrel
        clear H1
        by_cases hj0 : j = 0
        · subst hj0
          have hC := convT_any HO2.out (by simp)
          have HRs : Hid ((E.drop 0).reverse = 45 :: Lib.decDigits u) := Lib.hid (by rw [List.drop_zero, HEr.out])
          rw [HRs.out] at hC
          go_wp2
          go_ret
          exact ⟨rfl, HB5.out.trans (HB2.out.mono HB5.out.size)⟩
        · obtain ⟨k, rfl⟩ : ∃ k, j = k + 1 := ⟨j - 1, by omega⟩
          have hk : k < E.length := by omega
          obtain ⟨g, hg0, hg1, hg2⟩ := HF5.out (by omega)
          subst hg0
          have hcell0 := HO5.out.cellAt k (by omega)
          have hcell : wr.cell? ⟨g, k, none⟩ = some (.int .u8 ((E[k]'hk).toNat : Int)) := by
            have h3 := (HB2.out.cell (p := ⟨g, k, none⟩) (show g < W0.heap.size from hg2)).trans hcell0
            rw [h3]
            simp [Lib.byteCells, hk]
          have HNx := Lib.hid (fun v' w3 h1 h2 => DigBack.next (o := .cells #[.int .u8 ((E[k]'hk).toNat : Int)] 5) (v' := v') (w3 := w3) hk HO2.out HB2.out h1 h2)
          have hby : (E[k]'hk).toNat < 256 := (E[k]'hk).toNat_lt
          have hws := HB2.out.size
          have HW2 := Lib.hid (World.ownsRow.alloc HO2.out (.cells #[.int .u8 ((E[k]'hk).toNat : Int)] 5))
          clear hcell0
          generalize (E[k]'hk).toNat = y at *
          go_wp2_with (at_builtin; refine wpList_append_own_at _ rfl (.tmp 41) (.tmp 46) 22 rfl W0.heap.size 5 i0 (.int .u8 0) 1 1 Tryd.underlying22 hi hz0 hz1 hz2 rfl (by decide) _ _ _ rfl HW2.out ⟨wr.heap.size, 0, none⟩ 1 1 [.int .u8 (y : Int)] rfl rfl ?p1b ?p2b ?p3b ?p4b ?p5b ?_)
          try case p1b => exact news_one _ _ _ (by simp)
          try case p2b => first | rfl | (intro u hu; simp at hu; subst hu; rfl)
          try case p3b => first | (simp only [maxLen]; omega) | omega
          try case p4b => omega
          try case p5b => first | (simp only [World.size_alloc]; omega) | omega
          intro v' w3 hown' hg' _ he
          have HN := Lib.hid (HNx.out v' w3 hown' hg')
          clear hown' hg' he hcell
          go_wp2_with fail
          go_roundw
          case rel => exact HN.out
          case measure => simp [intOf]
    · have hr0 : 0 < r := by omega
      have hne : (-(r : Int) != 0) = true := by simp only [bne_iff_ne, ne_eq]; omega
      have hws := HB.out.size
      have HNx := Lib.hid (fun v' w3 h1 h2 => DigTo.next (o := .cells #[.int .u8 ((48 + r % 10 : Nat) : Int)] 5) (v' := v') (w3 := w3) hr0 hru HU20.out HD.out HO.out HB.out h1 h2)
      have HW := Lib.hid (World.ownsRow.alloc HO.out (.cells #[.int .u8 ((48 + r % 10 : Nat) : Int)] 5))
      obtain ⟨x, hx⟩ : ∃ x, r % 10 = x := ⟨_, rfl⟩
      obtain ⟨q, hq⟩ : ∃ q, r / 10 = q := ⟨_, rfl⟩
      have hmt : (-(r : Int)).tmod 10 = -(x : Int) := by rw [Int.neg_tmod, Int.tmod_eq_emod_of_nonneg (by omega)]; omega
      have hdt : (-(r : Int)).tdiv 10 = -(q : Int) := by rw [Int.neg_tdiv, Int.tdiv_eq_ediv_of_nonneg (by omega)]; omega
      have hmu : (r : Int).tmod 10 = (x : Int) := by rw [Int.tmod_eq_emod_of_nonneg (by omega)]; omega
      have hdu : (r : Int).tdiv 10 = (q : Int) := by rw [Int.tdiv_eq_ediv_of_nonneg (by omega)]; omega
      have hx10 : x < 10 := by omega
      have hqr : q < r := by omega
      rw [hx, hq] at HNx
      rw [hx] at HW
      have hcast : ((48 + x : Nat) : Int) = 48 + (x : Int) := by omega
      rw [hcast] at HW HNx
      clear hx hq
      by_cases hx0 : x = 0
      · subst hx0
        rw [show -((0 : Nat) : Int) = 0 from rfl] at hmt
        simp only [Int.natCast_zero, Int.add_zero] at HW HNx
        go_wp2_with (at_builtin; refine wpList_append_own_at _ rfl (.tmp 22) (.tmp 26) 22 rfl w.heap.size 5 i0 (.int .u8 0) 1 1 Tryd.underlying22 hi hz0 hz1 hz2 rfl (by decide) _ _ _ rfl HW.out ⟨wr.heap.size, 0, none⟩ 1 1 [.int .u8 48] rfl rfl ?p1a ?p2a ?p3a ?p4a ?p5a ?_)
        try case p1a => exact news_one _ _ _ (by simp)
        try case p2a => first | rfl | (intro u hu; simp at hu; subst hu; rfl)
        try case p3a => first | (simp only [maxLen]; omega) | omega
        try case p4a => omega
        try case p5a => first | (simp only [World.size_alloc]; omega) | omega
        intro v' w3 hown' hg' _ he
        obtain ⟨r2, D2, e2, rest⟩ := HNx.out v' w3 hown' hg'
        have HN := Lib.hid (show DigToN u w v' (.int .i64 (-(q : Int))) w3 from ⟨q, rfl, r2, D2, e2, rest⟩)
        clear hown' hg' he
        go_wp2_with fail
        go_roundw
        case rel => exact HN.out
        case measure => simp [intOf]; omega
      · have hxn : -(x : Int) < 0 := by omega
        have hxp : (0 : Int) < (x : Int) := by omega
        go_wp2_with (at_builtin; refine wpList_append_own_at _ rfl (.tmp 22) (.tmp 26) 22 rfl w.heap.size 5 i0 (.int .u8 0) 1 1 Tryd.underlying22 hi hz0 hz1 hz2 rfl (by decide) _ _ _ rfl HW.out ⟨wr.heap.size, 0, none⟩ 1 1 [.int .u8 (48 + (x : Int))] rfl rfl ?p1a ?p2a ?p3a ?p4a ?p5a ?_)
        try case p1a => exact news_one _ _ _ (by simp)
        try case p2a => first | rfl | (intro u hu; simp at hu; subst hu; rfl)
        try case p3a => first | (simp only [maxLen]; omega) | omega
        try case p4a => omega
        try case p5a => first | (simp only [World.size_alloc]; omega) | omega
        intro v' w3 hown' hg' _ he
        obtain ⟨r2, D2, e2, rest⟩ := HNx.out v' w3 hown' hg'
        have HN := Lib.hid (show DigToN u w v' (.int .i64 (-(q : Int))) w3 from ⟨q, rfl, r2, D2, e2, rest⟩)
        clear hown' hg' he
        go_wp2_with fail
        go_roundw
        case rel => exact HN.out
        case measure => simp [intOf]; omega
theorem l01DecZ_any (v : Int) (h1 : -9223372036854775807 ≤ v) (h2 : v ≤ 9223372036854775807) (w : World) : Calls Tryd.prog 50 #[.int .i64 v] w fun e w' => e = .returned (.string (tx (Lib.itoa v))) ∧ Below w.heap.size w w' := by
  by_cases h : v < 0
  · obtain ⟨u, rfl⟩ : ∃ u : Nat, v = -(u : Int) := ⟨(-v).toNat, by omega⟩
    rw [Lib.itoa_neg u (by omega)]
    exact l01Dec_neg u (by omega) (by omega) w
  · obtain ⟨u, rfl⟩ := Int.eq_ofNat_of_zero_le (show 0 ≤ v by omega)
    rw [show Lib.itoa ((u : Nat) : Int) = Lib.decDigits u from Lib.itoa_nonneg u]
    exact l01Dec_any u (by omega) w
theorem decimalZ_any (v : Int) (h1 : -9223372036854775807 ≤ v) (h2 : v ≤ 9223372036854775807) (B : Nat) (w : World) (hp : Pow B w) (hB : B ≤ w.heap.size) : Calls Tryd.prog 32 #[.int .i64 v] w fun e w' => e = .returned (.string (tx (Lib.itoa v))) ∧ Below w.heap.size w w' := by
  have HC := Lib.hid (Any.strconv_FormatInt_10 YtogadldnkhdjbaaDoor.lays173 v (by omega) (by omega) w (Lib.TabBelow.here hp))
  clear hp
  go_enter Tryd.func32, Tryd.ntmps32
  go_wp2_with fail
  refine HC.out.mono ?_
  rintro e w' ⟨rfl, k, os, rfl⟩
  have hb := Lib.hid (below_grow _ w k os (Nat.le_refl _))
  go_wp2
  go_ret
  exact ⟨rfl, hb.out⟩
end Go.Proofs.YtogadldnkhdjbaaDoor.Dec
/- A number read from its decimal text: the reference and the program. -/
namespace Go.Proofs
open Go.Shelf
def YtogadldnkhdjbaaDoor.lays174_ren : Go.Shelf.Ren := ⟨fun | 174 => 60 | 247 => 85 | 245 => 86 | 287 => 107 | 279 => 108 | 280 => 109 | 281 => 110 | 282 => 111 | 321 => 120 | 322 => 121 | 316 => 122 | 171 => 124 | 205 => 123 | 243 => 126 | 246 => 53 | 283 => 74 | 284 => 75 | 285 => 76 | 286 => 77 | 129 => 93 | 317 => 92 | 318 => 94 | 319 => 95 | 320 => 96 | 337 => 115 | 338 => 116 | n => n, fun | 9 => 9 | 3 => 3 | 2 => 2 | 75 => 64 | 85 => 103 | 4 => 4 | 167 => 150 | 5 => 5 | 53 => 89 | 175 => 151 | 46 => 106 | 168 => 153 | 37 => 22 | 0 => 0 | 210 => 163 | 21 => 21 | 127 => 99 | 145 => 173 | 143 => 171 | 171 => 120 | 173 => 123 | 212 => 138 | 51 => 139 | 20 => 20 | 213 => 140 | 232 => 165 | 233 => 166 | 80 => 70 | n => n, fun | 15 => 2 | 16 => 3 | 17 => 0 | 18 => 4 | 19 => 5 | n => n⟩
theorem YtogadldnkhdjbaaDoor.lays174 : Go.Proofs.LaysC.n174 Tryd.prog YtogadldnkhdjbaaDoor.lays174_ren := {
  mixed := by kernel_rfl
  f129 := Tryd.func93.trans (congrArg some (by kernel_rfl))
  f171 := Tryd.func124.trans (congrArg some (by kernel_rfl))
  f174 := Tryd.func60.trans (congrArg some (by kernel_rfl))
  f205 := Tryd.func123.trans (congrArg some (by kernel_rfl))
  f243 := Tryd.func126.trans (congrArg some (by kernel_rfl))
  f245 := Tryd.func86.trans (congrArg some (by kernel_rfl))
  f246 := Tryd.func53.trans (congrArg some (by kernel_rfl))
  f247 := Tryd.func85.trans (congrArg some (by kernel_rfl))
  f279 := Tryd.func108.trans (congrArg some (by kernel_rfl))
  f280 := Tryd.func109.trans (congrArg some (by kernel_rfl))
  f281 := Tryd.func110.trans (congrArg some (by kernel_rfl))
  f282 := Tryd.func111.trans (congrArg some (by kernel_rfl))
  f283 := Tryd.func74.trans (congrArg some (by kernel_rfl))
  f284 := Tryd.func75.trans (congrArg some (by kernel_rfl))
  f285 := Tryd.func76.trans (congrArg some (by kernel_rfl))
  f286 := Tryd.func77.trans (congrArg some (by kernel_rfl))
  f287 := Tryd.func107.trans (congrArg some (by kernel_rfl))
  f316 := Tryd.func122.trans (congrArg some (by kernel_rfl))
  f317 := Tryd.func92.trans (congrArg some (by kernel_rfl))
  f318 := Tryd.func94.trans (congrArg some (by kernel_rfl))
  f319 := Tryd.func95.trans (congrArg some (by kernel_rfl))
  f320 := Tryd.func96.trans (congrArg some (by kernel_rfl))
  f321 := Tryd.func120.trans (congrArg some (by kernel_rfl))
  f322 := Tryd.func121.trans (congrArg some (by kernel_rfl))
  f337 := Tryd.func115.trans (congrArg some (by kernel_rfl))
  f338 := Tryd.func116.trans (congrArg some (by kernel_rfl))
  t0 := Tryd.underlying0
  a0 := Tryd.isAgg0
  z0 := Tryd.sizeOf0
  v0 := Tryd.zeroValue0
  t2 := Tryd.underlying2
  a2 := Tryd.isAgg2
  z2 := Tryd.sizeOf2
  v2 := Tryd.zeroValue2
  t3 := Tryd.underlying3
  a3 := Tryd.isAgg3
  z3 := Tryd.sizeOf3
  v3 := Tryd.zeroValue3
  t4 := Tryd.underlying4
  a4 := Tryd.isAgg4
  z4 := Tryd.sizeOf4
  v4 := Tryd.zeroValue4
  t5 := Tryd.underlying5
  a5 := Tryd.isAgg5
  z5 := Tryd.sizeOf5
  v5 := Tryd.zeroValue5
  t9 := Tryd.underlying9
  a9 := Tryd.isAgg9
  z9 := Tryd.sizeOf9
  v9 := Tryd.zeroValue9
  t20 := Tryd.underlying20
  a20 := Tryd.isAgg20
  z20 := Tryd.sizeOf20
  v20 := Tryd.zeroValue20
  t21 := Tryd.underlying21
  a21 := Tryd.isAgg21
  z21 := Tryd.sizeOf21
  v21 := Tryd.zeroValue21
  t37 := Tryd.underlying22
  a37 := Tryd.isAgg22
  z37 := Tryd.sizeOf22
  v37 := Tryd.zeroValue22
  t46 := Tryd.underlying106
  a46 := Tryd.isAgg106
  z46 := Tryd.sizeOf106
  v46 := Tryd.zeroValue106
  t51 := Tryd.underlying139
  a51 := Tryd.isAgg139
  z51 := Tryd.sizeOf139
  v51 := Tryd.zeroValue139
  t53 := Tryd.underlying89
  a53 := Tryd.isAgg89
  z53 := Tryd.sizeOf89
  v53 := Tryd.zeroValue89
  t75 := Tryd.underlying64
  a75 := Tryd.isAgg64
  z75 := Tryd.sizeOf64
  v75 := Tryd.zeroValue64
  t85 := Tryd.underlying103
  a85 := Tryd.isAgg103
  z85 := Tryd.sizeOf103
  v85 := Tryd.zeroValue103
  t127 := Tryd.underlying99
  a127 := Tryd.isAgg99
  z127 := Tryd.sizeOf99
  v127 := Tryd.zeroValue99
  t143 := Tryd.underlying171
  a143 := Tryd.isAgg171
  z143 := Tryd.sizeOf171
  v143 := Tryd.zeroValue171
  t145 := Tryd.underlying173
  a145 := Tryd.isAgg173
  z145 := Tryd.sizeOf173
  v145 := Tryd.zeroValue173
  t167 := Tryd.underlying150
  a167 := Tryd.isAgg150
  z167 := Tryd.sizeOf150
  v167 := Tryd.zeroValue150
  t168 := Tryd.underlying153
  a168 := Tryd.isAgg153
  z168 := Tryd.sizeOf153
  v168 := Tryd.zeroValue153
  t171 := Tryd.underlying120
  a171 := Tryd.isAgg120
  z171 := Tryd.sizeOf120
  v171 := Tryd.zeroValue120
  t173 := Tryd.underlying123
  a173 := Tryd.isAgg123
  z173 := Tryd.sizeOf123
  v173 := Tryd.zeroValue123
  t175 := Tryd.underlying151
  a175 := Tryd.isAgg151
  z175 := Tryd.sizeOf151
  v175 := Tryd.zeroValue151
  t210 := Tryd.underlying163
  a210 := Tryd.isAgg163
  z210 := Tryd.sizeOf163
  v210 := Tryd.zeroValue163
  t212 := Tryd.underlying138
  a212 := Tryd.isAgg138
  z212 := Tryd.sizeOf138
  v212 := Tryd.zeroValue138
  t213 := Tryd.underlying140
  a213 := Tryd.isAgg140
  z213 := Tryd.sizeOf140
  t232 := Tryd.underlying165
  a232 := Tryd.isAgg165
  z232 := Tryd.sizeOf165
  v232 := Tryd.zeroValue165
  t233 := Tryd.underlying166
  a233 := Tryd.isAgg166
  z233 := Tryd.sizeOf166
  v233 := Tryd.zeroValue166
  g15 := by kernel_rfl
  g16 := by kernel_rfl
  g17 := by kernel_rfl
  g18 := by kernel_rfl
  g19 := by kernel_rfl
  t80 := Tryd.underlying70
  a80 := Tryd.isAgg70
  z80 := Tryd.sizeOf70
  v80 := Tryd.zeroValue70
  i0 := by kernel_rfl
  i2 := by kernel_rfl
  i3 := by kernel_rfl
  i4 := by kernel_rfl
  i5 := by kernel_rfl
  i9 := by kernel_rfl
  i20 := by kernel_rfl
  i21 := by kernel_rfl
  i37 := by kernel_rfl
  i46 := by kernel_rfl
  i51 := by kernel_rfl
  i53 := by kernel_rfl
  i75 := by kernel_rfl
  i80 := by kernel_rfl
  i85 := by kernel_rfl
  i127 := by kernel_rfl
  i143 := by kernel_rfl
  i145 := by kernel_rfl
  i167 := by kernel_rfl
  i168 := by kernel_rfl
  i171 := by kernel_rfl
  i173 := by kernel_rfl
  i175 := by kernel_rfl
  i210 := by kernel_rfl
  i212 := by kernel_rfl
  i232 := by kernel_rfl
  i233 := by kernel_rfl
  m15 := by kernel_rfl
  m16 := by kernel_rfl
  m17 := by kernel_rfl
  m18 := by kernel_rfl
  m19 := by kernel_rfl
  c0 := by kernel_rfl
  c2 := by kernel_rfl
  c3 := by kernel_rfl
  c4 := by kernel_rfl
  c5 := by kernel_rfl
  c9 := by kernel_rfl
  c20 := by kernel_rfl
  c21 := by kernel_rfl
  c37 := by kernel_rfl
  c46 := by kernel_rfl
  c51 := by kernel_rfl
  c53 := by kernel_rfl
  c75 := by kernel_rfl
  c80 := by kernel_rfl
  c85 := by kernel_rfl
  c127 := by kernel_rfl
  c143 := by kernel_rfl
  c145 := by kernel_rfl
  c167 := by kernel_rfl
  c168 := by kernel_rfl
  c171 := by kernel_rfl
  c173 := by kernel_rfl
  c175 := by kernel_rfl
  c210 := by kernel_rfl
  c212 := by kernel_rfl
  c213 := by kernel_rfl
  c232 := by kernel_rfl
  c233 := by kernel_rfl }
end Go.Proofs
namespace Go.Proofs.YtogadldnkhdjbaaDoor.Val
open Go.RowKit Go.Proofs.YtogadldnkhdjbaaDoor Go.Proofs.YtogadldnkhdjbaaDoor.Base Go.Proofs.YtogadldnkhdjbaaDoor.Mem Go.Proofs.YtogadldnkhdjbaaDoor.Dec
set_option linter.unusedVariables false
/-! ### Plain -/
def foldD (a : Nat) (l : List UInt8) : Nat := l.foldl (fun a c => a * 10 + (c.toNat - 48)) a
def digs (l : List UInt8) : Prop := ∀ c ∈ l, 48 ≤ c.toNat ∧ c.toNat ≤ 57
theorem foldD_ge : ∀ (l : List UInt8) (a : Nat), a ≤ foldD a l
  | [], a => Nat.le_refl _
  | c :: r, a => by
    have := foldD_ge r (a * 10 + (c.toNat - 48))
    show a ≤ foldD (a * 10 + (c.toNat - 48)) r
    omega
theorem foldD_app (a : Nat) (l m : List UInt8) : foldD a (l ++ m) = foldD (foldD a l) m := by simp [foldD, List.foldl_append]
theorem foldD_take (l : List UInt8) (k : Nat) : foldD 0 (l.take k) ≤ foldD 0 l := by
  conv => rhs; rw [← List.take_append_drop k l, foldD_app]
  exact foldD_ge _ _
theorem foldD_step {l : List UInt8} {k : Nat} (h : k < l.length) : foldD 0 (l.take (k + 1)) = foldD 0 (l.take k) * 10 + ((l[k]'h).toNat - 48) := by
  rw [List.take_add_one, List.getElem?_eq_getElem h, foldD_app]; rfl
theorem digs_dec : ∀ (u : Nat), digs (Lib.decDigits u) ∧ foldD 0 (Lib.decDigits u) = u := by
  intro u
  induction u using Nat.strongRecOn with
  | _ u ih =>
    rw [Lib.decDigits]
    by_cases h10 : u < 10
    · rw [dif_pos h10]
      refine ⟨fun c hc => ?_, ?_⟩
      · obtain rfl := List.mem_singleton.1 hc
        rw [byte_small (by omega)]; omega
      · show 0 * 10 + ((UInt8.ofNat (48 + u)).toNat - 48) = u
        rw [byte_small (by omega)]; omega
    · rw [dif_neg h10]
      obtain ⟨i1, i2⟩ := ih (u / 10) (by omega)
      refine ⟨fun c hc => ?_, ?_⟩
      · rcases List.mem_append.1 hc with h | h
        · exact i1 c h
        · obtain rfl := List.mem_singleton.1 h
          rw [byte_small (by omega)]; omega
      · rw [foldD_app, i2]
        show u / 10 * 10 + ((UInt8.ofNat (48 + u % 10)).toNat - 48) = u
        rw [byte_small (by omega)]; omega
theorem dec_ne (u : Nat) : 1 ≤ (Lib.decDigits u).length := by
  rw [Lib.decDigits_length]; exact Lib.nDigits_pos u
theorem dec_short {u : Nat} (h : u ≤ 1000000000000000000) : (Lib.decDigits u).length ≤ 19 := by
  by_cases h0 : u = 0
  · subst h0; rw [Lib.decDigits_one (by decide)]; simp
  · rw [← rd_rev u (by omega), List.length_reverse]
    exact rd_len 19 u (by omega)
theorem parseM_digs : ∀ (l : List UInt8) (a : Nat), digs l → foldD a l ≤ 1000000000000000000 → Lib.parseUintM (2 ^ 64 - 1) a l = .ok (foldD a l)
  | [], a, _, _ => rfl
  | c :: r, a, hd, hb => by
    have h1 := hd c List.mem_cons_self
    have h2 := foldD_ge r (a * 10 + (c.toNat - 48))
    have h3 : foldD a (c :: r) = foldD (a * 10 + (c.toNat - 48)) r := rfl
    rw [h3] at hb ⊢
    rw [Lib.parseUintM, if_pos h1, if_neg (by omega), if_neg (by omega)]
    exact parseM_digs r _ (fun x hx => hd x (List.mem_cons_of_mem _ hx)) hb
/-- a text is that of a number within the limits -/
def isVal (e : List UInt8) (v : Int) : Prop := Lib.itoa v = e ∧ -1000000000000000 ≤ v ∧ v ≤ 1000000000000000
theorem parse_val {e : List UInt8} {v : Int} (h : isVal e v) : Lib.parseIntB 64 e = .ok v := by
  obtain ⟨rfl, h1, h2⟩ := h
  by_cases hn : v < 0
  · obtain ⟨u, rfl⟩ : ∃ u : Nat, v = -(u : Int) := ⟨(-v).toNat, by omega⟩
    obtain ⟨d1, d2⟩ := digs_dec u
    have hne : Lib.decDigits u ≠ [] := fun h => by have := dec_ne u; rw [h] at this; simp at this
    rw [Lib.itoa_neg u (by omega), Lib.parseIntB_minus, Lib.parseUintB, if_neg hne, parseM_digs _ _ d1 (by rw [d2]; omega), d2, Lib.signedC, if_neg (by omega)]
  · obtain ⟨u, rfl⟩ := Int.eq_ofNat_of_zero_le (show 0 ≤ v by omega)
    obtain ⟨d1, d2⟩ := digs_dec u
    have hl := dec_ne u
    rw [show Lib.itoa ((u : Nat) : Int) = Lib.decDigits u from Lib.itoa_nonneg u]
    have hp := parseM_digs (Lib.decDigits u) 0 d1 (by rw [d2]; omega)
    rw [d2] at hp
    generalize Lib.decDigits u = l at *
    cases l with
    | nil => simp at hl
    | cons c r =>
      have hc := d1 c List.mem_cons_self
      rw [Lib.parseIntB_plain 64 c r (by omega) (by omega), Lib.parseUintB, if_neg (by simp), hp, Lib.signlessC, if_neg (by omega)]
theorem isVal_uniq {e : List UInt8} {v v' : Int} (h : isVal e v) (h' : isVal e v') : v = v' := by
  have := (parse_val h).symm.trans (parse_val h')
  injection this
/-- what a reading hands back -/
def ValRet (e : List UInt8) (w : World) (en : Ending) (w' : World) : Prop := ∃ (v : Int) (b : Bool), en = .returned (.tuple #[.int .i64 v, .bool b]) ∧ (b = true → isVal e v) ∧ (b = false → v = 0 ∧ ∀ v', ¬ isVal e v') ∧ Below w.heap.size w w'
noncomputable def valO (e : List UInt8) : Option Int := match Lib.parseIntB 64 e with
  | .ok v => if Lib.itoa v = e ∧ -1000000000000000 ≤ v ∧ v ≤ 1000000000000000 then some v else none
  | _ => none
theorem valO_yes {e : List UInt8} {v : Int} (h : isVal e v) : valO e = some v := by
  have hp := parse_val h
  rw [valO, hp]
  exact if_pos h
theorem valO_no {e : List UInt8} (h : ∀ v, ¬ isVal e v) : valO e = none := by
  unfold valO
  split
  · rename_i v _
    exact if_neg (h v)
  · rfl
/-! ### The program -/
/-- what a variable of the library's errors holds: an interface value -/
def Errs (B : Nat) (w : World) : Prop := ∃ e1 e2 : Value, YtogadldnkhdjbaaDoor.lays174_ren.g 15 < B ∧ YtogadldnkhdjbaaDoor.lays174_ren.g 16 < B ∧ w.cell? ⟨YtogadldnkhdjbaaDoor.lays174_ren.g 15, 0, none⟩ = some e1 ∧ w.cell? ⟨YtogadldnkhdjbaaDoor.lays174_ren.g 16, 0, none⟩ = some e2 ∧ (e1 = .nilIface ∨ ∃ te pe, e1 = .iface te pe) ∧ (e2 = .nilIface ∨ ∃ te pe, e2 = .iface te pe)
theorem Errs.on {B : Nat} {w w' : World} (h : Errs B w) (hb : Below B w w') : Errs B w' := by
  obtain ⟨e1, e2, h1, h2, h3, h4, h5, h6⟩ := h
  exact ⟨e1, e2, h1, h2, (hb.cell (p := ⟨_, 0, none⟩) h1).trans h3, (hb.cell (p := ⟨_, 0, none⟩) h2).trans h4, h5, h6⟩
set_option maxHeartbeats 2000000 in
set_option maxRecDepth 100000 in
theorem readDec_any (s : ByteArray) (hs : s.size ≤ 1048576) (B : Nat) (w : World) (hp : Pow B w) (he : Errs B w) (hB : B ≤ w.heap.size) : Calls Tryd.prog 35 #[.string s] w (ValRet s.data.toList w) := by
  obtain ⟨e1, e2, h1, h2, h3, h4, h5, h6⟩ := he
  rcases hP : Lib.parseIntB 64 s.data.toList with v | _ | _
  · skip
    have HC := Lib.hid (Any.strconv_ParseInt_10_at64_ok YtogadldnkhdjbaaDoor.lays174 s (by omega) v hP w)
    have hbd := Lib.parseIntB_bounds hP
    have HR := Lib.hid (fun w => inRange_any v (-1000000000000000) 1000000000000000 w)
    have HPw := Lib.hid hp
    have HPP := Lib.hid hP
    clear hP hp h1 h2 h3 h4 h5 h6
    by_cases hin : -1000000000000000 ≤ v ∧ v ≤ 1000000000000000
    · rw [inR_yes hin] at HR
      have HD := Lib.hid (fun (w1 : World) (hb : Below w.heap.size w w1) => decimalZ_any v (by omega) (by omega) B w1 (HPw.out.on (hb.mono hB)) (Nat.le_trans hB hb.size))
      go_enter Tryd.func35, Tryd.ntmps35
      go_wp2_with fail
      refine HC.out.mono ?_
      rintro e w1 ⟨rfl, hw⟩
      have hb1 : Below w.heap.size w w1 := by
        rcases hw with rfl | ⟨t, rfl⟩
        · exact Below.refl _ _
        · exact Lib.bytesWorld_below _ _ _
      have HB1 := Lib.hid hb1
      clear hw hb1
      go_wp2_with fail
      refine (HR.out _).mono ?_
      rintro e w' ⟨rfl, rfl⟩
      go_wp2_with fail
      refine (HD.out _ HB1.out).mono ?_
      rintro e w2 ⟨rfl, hb2⟩
      have HB2 := Lib.hid (Base.Below.nextA HB1.out hb2)
      clear hb2
      by_cases hq : Lib.itoa v = s.data.toList
      · have e1 : tx (Lib.itoa v) = s := by rw [hq]
        rw [e1]
        have HY : Hid (isVal s.data.toList v) := Lib.hid ⟨hq, hin⟩
        have hbe : (s.toList == s.toList) = true := by simp
        clear hq e1
        go_wp2
        go_ret2
        exact ⟨v, true, rfl, fun _ => HY.out, fun h => (by cases h), HB2.out⟩
      · have e1 : ((tx (Lib.itoa v)).toList == s.toList) = false := beq_eq_false_iff_ne.2 (fun h => hq (by rw [ByteArray.toList_eq, ByteArray.toList_eq, list_tx] at h; exact h))
        have HN : Hid (∀ v', ¬ isVal s.data.toList v') := Lib.hid fun v' h => by
          have := parse_val h
          rw [HPP.out] at this
          injection this with this
          subst this
          exact hq h.1
        clear hq
        generalize tx (Lib.itoa v) = d at *
        go_wp2
        go_ret2
        exact ⟨0, false, rfl, fun h => (by cases h), fun _ => ⟨rfl, HN.out⟩, HB2.out⟩
    · have hno : inR v (-1000000000000000) 1000000000000000 = false := by
        cases h : inR v (-1000000000000000) 1000000000000000 with
        | false => rfl
        | true => exact absurd (inR_true h) hin
      rw [hno] at HR
      have HN : Hid (∀ v', ¬ isVal s.data.toList v') := Lib.hid fun v' h => by
        have := parse_val h
        rw [HPP.out] at this
        injection this with this
        subst this
        exact hin h.2
      clear hno
      go_enter Tryd.func35, Tryd.ntmps35
      go_wp2_with fail
      refine HC.out.mono ?_
      rintro e w1 ⟨rfl, hw⟩
      have hb1 : Below w.heap.size w w1 := by
        rcases hw with rfl | ⟨t, rfl⟩
        · exact Below.refl _ _
        · exact Lib.bytesWorld_below _ _ _
      have HB1 := Lib.hid hb1
      clear hw hb1
      go_wp2_with fail
      refine (HR.out _).mono ?_
      rintro e w' ⟨rfl, rfl⟩
      go_wp2
      go_ret2
      exact ⟨0, false, rfl, fun h => (by cases h), fun _ => ⟨rfl, HN.out⟩, HB1.out⟩
  · skip
    have HC := Lib.hid (Any.strconv_ParseInt_10_at64_syntax YtogadldnkhdjbaaDoor.lays174 s (by omega) hP e1 w h3 h5)
    have HN : Hid (∀ v', ¬ isVal s.data.toList v') := Lib.hid fun v' h => by have := parse_val h; rw [hP] at this; cases this
    clear hP hp h1 h2 h3 h4
    go_enter Tryd.func35, Tryd.ntmps35
    go_wp2_with fail
    refine HC.out.mono ?_
    rintro e w' ⟨N, rfl, hN, _, hb⟩
    go_wp2
    go_ret2
    exact ⟨0, false, rfl, fun h => (by cases h), fun _ => ⟨rfl, HN.out⟩, hb⟩
  · skip
    have HC := Lib.hid (Any.strconv_ParseInt_10_at64_range YtogadldnkhdjbaaDoor.lays174 s (by omega) hP e2 w h4 h6)
    have HN : Hid (∀ v', ¬ isVal s.data.toList v') := Lib.hid fun v' h => by have := parse_val h; rw [hP] at this; cases this
    clear hP hp h1 h2 h3 h4
    go_enter Tryd.func35, Tryd.ntmps35
    go_wp2_with fail
    refine HC.out.mono ?_
    rintro e w' ⟨N, rfl, hN, _, hb⟩
    go_wp2
    go_ret2
    exact ⟨0, false, rfl, fun h => (by cases h), fun _ => ⟨rfl, HN.out⟩, hb⟩
end Go.Proofs.YtogadldnkhdjbaaDoor.Val
/- A number read from its decimal text: the reference. -/
namespace Go.Proofs.YtogadldnkhdjbaaDoor.Val
open Go.RowKit Go.Proofs.YtogadldnkhdjbaaDoor Go.Proofs.YtogadldnkhdjbaaDoor.Base Go.Proofs.YtogadldnkhdjbaaDoor.Mem Go.Proofs.YtogadldnkhdjbaaDoor.Dec
set_option linter.unusedVariables false
def GrRet (e : List UInt8) (w : World) (en : Ending) (w' : World) : Prop := ∃ (v : Int) (b : Bool), en = .returned (.tuple #[.int .i64 v, .bool b]) ∧ (b = true → Lib.itoa v = e ∧ -1000000000000000000 ≤ v ∧ v ≤ 1000000000000000000) ∧ (b = false → ∀ v', ¬ isVal e v') ∧ Below w.heap.size w w'
/-- what stands behind the sign -/
def Rest (e l : List UInt8) (sgn : Bool) : Prop := ∀ v', isVal e v' → ∃ u : Nat, l = Lib.decDigits u ∧ u ≤ 1000000000000000 ∧ v' = (if sgn = true then -(u : Int) else (u : Int))
theorem itoa_pos (u : Nat) : Lib.itoa ((u : Nat) : Int) = Lib.decDigits u := Lib.itoa_nonneg u
theorem dec_head (u : Nat) : ∃ c r, Lib.decDigits u = c :: r ∧ 48 ≤ c.toNat ∧ c.toNat ≤ 57 := by
  have h1 := dec_ne u
  have h2 := (digs_dec u).1
  generalize Lib.decDigits u = l at *
  cases l with
  | nil => simp at h1
  | cons c r => exact ⟨c, r, rfl, h2 c List.mem_cons_self⟩
theorem rest_plus {e : List UInt8} (h : ∀ c r, e = c :: r → c.toNat ≠ 45) : Rest e e false := fun v' ⟨h1, h2, h3⟩ => by
  by_cases hn : v' < 0
  · obtain ⟨u, rfl⟩ : ∃ u : Nat, v' = -(u : Int) := ⟨(-v').toNat, by omega⟩
    rw [Lib.itoa_neg u (by omega)] at h1
    exact absurd rfl (h _ _ h1.symm)
  · obtain ⟨u, rfl⟩ := Int.eq_ofNat_of_zero_le (show 0 ≤ v' by omega)
    refine ⟨u, by rw [← itoa_pos]; exact h1.symm, by omega, rfl⟩
theorem rest_minus {e l : List UInt8} (h : e = 45 :: l) : Rest e l true := fun v' ⟨h1, h2, h3⟩ => by
  by_cases hn : v' < 0
  · obtain ⟨u, rfl⟩ : ∃ u : Nat, v' = -(u : Int) := ⟨(-v').toNat, by omega⟩
    rw [Lib.itoa_neg u (by omega), h] at h1
    injection h1 with _ h1
    exact ⟨u, h1.symm, by omega, rfl⟩
  · obtain ⟨u, rfl⟩ := Int.eq_ofNat_of_zero_le (show 0 ≤ v' by omega)
    rw [itoa_pos] at h1
    obtain ⟨c, r, e1, e2, e3⟩ := dec_head u
    rw [e1, h] at h1
    injection h1 with h1 _
    rw [h1] at e2
    exact absurd e2 (by decide)
theorem rest_len {e l : List UInt8} {sgn : Bool} (h : Rest e l sgn) (hl : l.length < 1 ∨ 19 < l.length) : ∀ v', ¬ isVal e v' := fun v' hv => by
  obtain ⟨u, rfl, hu, _⟩ := h v' hv
  have := dec_ne u
  have := dec_short (u := u) (by omega)
  omega
theorem rest_bad {e l : List UInt8} {sgn : Bool} (h : Rest e l sgn) {k : Nat} (hk : k < l.length) (hx : (l[k]'hk).toNat < 48 ∨ 57 < (l[k]'hk).toNat) : ∀ v', ¬ isVal e v' := fun v' hv => by
  obtain ⟨u, rfl, hu, _⟩ := h v' hv
  have := (digs_dec u).1 _ (List.getElem_mem hk)
  omega
theorem rest_big {e l : List UInt8} {sgn : Bool} (h : Rest e l sgn) {k : Nat} (hk : 100000000000000000 < foldD 0 (l.take k)) : ∀ v', ¬ isVal e v' := fun v' hv => by
  obtain ⟨u, rfl, hu, _⟩ := h v' hv
  have := foldD_take (Lib.decDigits u) k
  rw [(digs_dec u).2] at this
  omega
theorem rest_end {e l : List UInt8} {sgn : Bool} (h : Rest e l sgn) {v' : Int} (hv : isVal e v') : v' = (if sgn = true then -((foldD 0 l : Nat) : Int) else ((foldD 0 l : Nat) : Int)) := by
  obtain ⟨u, rfl, hu, e⟩ := h v' hv
  rw [(digs_dec u).2]; exact e
set_option maxHeartbeats 2000000 in
set_option maxRecDepth 100000 in
theorem great_any (s : ByteArray) (hs : s.size ≤ 1048576) (w : World) : Calls Tryd.prog 79 #[.string s] w (GrRet s.data.toList w) := by
  have hsz : s.data.toList.length = s.size := by rw [Array.length_toList]; rfl
  obtain ⟨e, he⟩ : ∃ e, s.data.toList = e := ⟨_, rfl⟩
  rw [he] at hsz ⊢
  by_cases hneg : ∃ h : 0 < s.size, (s[0]'h).toNat = 45
  · obtain ⟨hp, hx⟩ := hneg
    obtain ⟨l, hl⟩ : ∃ l, e = 45 :: l := by
      have e2 : s.data.toList[0]? = some (s[0]'hp) := by
        show s.data.toList[0]? = some (s.data[0])
        rw [Array.getElem?_toList, Array.getElem?_eq_getElem hp]
      rw [he] at e2
      cases e with
      | nil => simp at e2
      | cons c r =>
        refine ⟨r, ?_⟩
        have e3 : c = s[0]'hp := by simpa using e2
        have e4 : c = 45 := by rw [e3]; exact UInt8.toNat_inj.1 hx
        rw [e4]
    have HRest : Hid (Rest e l true) := Lib.hid (rest_minus hl)
    obtain ⟨R, hR⟩ : ∃ R, R = s.extract 1 s.size := ⟨_, rfl⟩
    have hRl : R.data.toList = l := by
      rw [hR, RecJ.ext_tx, list_tx, List.take_of_length_le (by rw [he, hsz]; exact Nat.le_refl _), he, hl]; rfl
    have hRs : l.length = R.size := by rw [← hRl, Array.length_toList]; rfl
    have hls : l.length + 1 = s.size := by rw [← hsz, hl]; rfl
    have HX : Hid (∀ k (h : k < R.size) (h2 : k < l.length), (R[k]'h).toNat = (l[k]'h2).toNat) := Lib.hid fun k h h2 => by subst hRl; rfl
    have HSz := Lib.hid hRs
    have hRlt : R.size < s.size := by omega
    have HRR := Lib.hid hR
    have hxi : ((45 : Int) == 45) = true := by decide
    by_cases hlen : R.size < 1 ∨ 19 < R.size
    · have HN := Lib.hid (rest_len HRest.out (by rw [hRs]; exact hlen))
      have hss : s.size - 1 < 1 ∨ 19 < s.size - 1 := by omega
      clear HX hsz hl hRl hRs hls hR
      go_enter Tryd.func79, Tryd.ntmps79
      rcases hss with hss | hss
      all_goals
        go_wp2
        go_ret2
        exact ⟨0, false, rfl, fun h => (by cases h), fun _ => HN.out, Below.refl _ _⟩
    · have hss : 1 ≤ s.size - 1 ∧ s.size - 1 ≤ 19 := by omega
      clear hsz hl hRl hRs hls hR
      go_enter Tryd.func79, Tryd.ntmps79
      go_wp2
      rw [← HRR.out]
      go_loop [5, 6] (fun v i => ∃ k : Nat, k ≤ R.size ∧ i = .int .i64 (k : Int) ∧ v = .int .i64 (foldD 0 (l.take k) : Nat) ∧ foldD 0 (l.take k) ≤ 1000000000000000009) (fun _ i => R.size - (intOf i).toNat)
      case atStart => exact ⟨0, Nat.zero_le _, rfl, rfl, by simp [foldD]⟩
      case round =>
        obtain ⟨k, hk, rfl, rfl, hfb⟩ := hrel
        by_cases hlt : k < R.size
        · obtain ⟨x, hx⟩ : ∃ x, (R[k]'hlt).toNat = x := ⟨_, rfl⟩
          have hke : k < l.length := by rw [HSz.out]; exact hlt
          have HXe : Hid ((l[k]'hke).toNat = x) := Lib.hid ((HX.out k hlt hke).symm.trans hx)
          have HSt := Lib.hid (foldD_step hke)
          rw [HXe.out] at HSt
          have HBad : Hid ((x < 48 ∨ 57 < x) → ∀ v', ¬ isVal e v') := Lib.hid fun h => rest_bad HRest.out hke (by rw [HXe.out]; exact h)
          have HBig := Lib.hid (fun h => rest_big HRest.out (k := k) h)
          obtain ⟨n, hn⟩ : ∃ n, foldD 0 (l.take k) = n := ⟨_, rfl⟩
          rw [hn] at hfb HSt HBig ⊢
          obtain ⟨n2, hn2⟩ : ∃ n2, n2 = foldD 0 (l.take (k + 1)) := ⟨_, rfl⟩
          rw [← hn2] at HSt
          have HN2 := Lib.hid hn2
          have hx256 : x < 256 := by rw [← hx]; exact (R[k]'hlt).toNat_lt
          clear hn hn2 hke HXe
          by_cases hx1 : x < 48
          · have HN := Lib.hid (HBad.out (.inl hx1))
            go_wp2
            go_ret2
            exact ⟨0, false, rfl, fun h => (by cases h), fun _ => HN.out, Below.refl _ _⟩
          · by_cases hx2 : 57 < x
            · have HN := Lib.hid (HBad.out (.inr hx2))
              go_wp2
              go_ret2
              exact ⟨0, false, rfl, fun h => (by cases h), fun _ => HN.out, Below.refl _ _⟩
            · by_cases hb : 100000000000000000 < n
              · have HN := Lib.hid (HBig.out hb)
                go_wp2
                go_ret2
                exact ⟨0, false, rfl, fun h => (by cases h), fun _ => HN.out, Below.refl _ _⟩
              · obtain ⟨d, hd⟩ : ∃ d, x = 48 + d := ⟨x - 48, by omega⟩
                subst hd
                have hd9 : d ≤ 9 := by omega
                have HS2 : Hid (n2 = n * 10 + d) := Lib.hid (by rw [HSt.out]; omega)
                clear HSt HBad HBig
                go_wp2
                go_round
                case rel => exact ⟨k + 1, hlt, by go_num, by rw [← HN2.out, HS2.out]; go_num, by rw [← HN2.out, HS2.out]; omega⟩
                case measure => simp [intOf]; omega
        · obtain rfl : k = R.size := by omega
          have HT : Hid (foldD 0 (l.take R.size) = foldD 0 l) := Lib.hid (by rw [List.take_of_length_le (by rw [HSz.out]; exact Nat.le_refl _)])
          obtain ⟨n, hn⟩ : ∃ n, foldD 0 l = n := ⟨_, rfl⟩
          have HV : Hid (∀ v', isVal e v' → v' = (-((n : Nat) : Int))) := Lib.hid fun v' h => by have := rest_end HRest.out h; rw [hn] at this; simpa using this
          rw [HT.out] at hfb ⊢
          rw [hn] at hfb ⊢
          clear hn HT
          have HR := Lib.hid (fun w => l00In_any (-((n : Nat) : Int)) (-1000000000000000000) 1000000000000000000 w)
          by_cases hin : -1000000000000000000 ≤ (-((n : Nat) : Int)) ∧ (-((n : Nat) : Int)) ≤ 1000000000000000000
          · rw [inR_yes hin] at HR
            have HD := Lib.hid (fun w => l01DecZ_any (-((n : Nat) : Int)) (by omega) (by omega) w)
            go_wp2_with fail
            refine (HR.out _).mono ?_
            rintro e' w' ⟨rfl, rfl⟩
            go_wp2_with fail
            refine (HD.out _).mono ?_
            rintro e' w2 ⟨rfl, hb2⟩
            have HB2 := Lib.hid hb2
            clear hb2
            by_cases hq : Lib.itoa (-((n : Nat) : Int)) = e
            · have e1 : tx (Lib.itoa (-((n : Nat) : Int))) = s := by rw [hq, ← he]
              rw [e1]
              have HY := Lib.hid hq
              have hbe : (s.toList == s.toList) = true := by simp
              clear hq e1
              go_wp2
              go_ret2
              exact ⟨_, true, rfl, fun _ => ⟨HY.out, hin⟩, fun h => (by cases h), HB2.out⟩
            · have e1 : ((tx (Lib.itoa (-((n : Nat) : Int)))).toList == s.toList) = false := beq_eq_false_iff_ne.2 (fun h => hq (by rw [ByteArray.toList_eq, ByteArray.toList_eq, list_tx, he] at h; exact h))
              have HN : Hid (∀ v', ¬ isVal e v') := Lib.hid fun v' h => by
                have e2 := HV.out v' h
                subst e2
                exact hq h.1
              clear hq
              generalize tx (Lib.itoa (-((n : Nat) : Int))) = d at *
              go_wp2
              go_ret2
              exact ⟨_, false, rfl, fun h => (by cases h), fun _ => HN.out, HB2.out⟩
          · have hno : inR (-((n : Nat) : Int)) (-1000000000000000000) 1000000000000000000 = false := by
              cases h : inR (-((n : Nat) : Int)) (-1000000000000000000) 1000000000000000000 with
              | false => rfl
              | true => exact absurd (inR_true h) hin
            rw [hno] at HR
            have HN : Hid (∀ v', ¬ isVal e v') := Lib.hid fun v' h => by
              have e2 := HV.out v' h
              subst e2
              exact hin ⟨by have := h.2.1; omega, by have := h.2.2; omega⟩
            clear hno
            go_wp2_with fail
            refine (HR.out _).mono ?_
            rintro e' w' ⟨rfl, rfl⟩
            go_wp2
            go_ret2
            exact ⟨_, false, rfl, fun h => (by cases h), fun _ => HN.out, Below.refl _ _⟩
  · have HRest : Hid (Rest e e false) := Lib.hid (rest_plus fun c r hcr hc => hneg (by
      have h0 : 0 < s.size := by rw [← hsz, hcr]; simp
      refine ⟨h0, ?_⟩
      have : s[0]'h0 = c := by
        have e1 : s.data.toList[0]? = some c := by rw [he, hcr]; rfl
        have e2 : s.data.toList[0]? = some (s[0]'h0) := by
          show s.data.toList[0]? = some (s.data[0])
          rw [Array.getElem?_toList, Array.getElem?_eq_getElem h0]
        rw [e1] at e2; injection e2 with e2; exact e2.symm
      rw [this]; exact hc))
    have HX : Hid (∀ k (h : k < s.size) (h2 : k < e.length), (s[k]'h).toNat = (e[k]'h2).toNat) := Lib.hid fun k h h2 => by subst he; rfl
    have HSz := Lib.hid hsz
    by_cases hl : s.size < 1 ∨ 19 < s.size
    · have HN := Lib.hid (rest_len HRest.out (by rw [hsz]; exact hl))
      have h0 : 0 < s.size → ∃ x, x ≠ 45 ∧ ∃ h : 0 < s.size, (s[0]'h).toNat = x := fun h => ⟨_, fun e => hneg ⟨h, e⟩, h, rfl⟩
      clear hneg HX hsz
      rcases hl with hl | hl
      · go_enter Tryd.func79, Tryd.ntmps79
        go_wp2
        go_ret2
        exact ⟨0, false, rfl, fun h => (by cases h), fun _ => HN.out, Below.refl _ _⟩
      · obtain ⟨x, hx45, hh, hx⟩ := h0 (by omega)
        clear h0
        have hxi : ((x : Int) == 45) = false := beq_eq_false_iff_ne.2 (by omega)
        go_enter Tryd.func79, Tryd.ntmps79
        go_wp2
        go_ret2
        exact ⟨0, false, rfl, fun h => (by cases h), fun _ => HN.out, Below.refl _ _⟩
    · have hp : 0 < s.size := by omega
      obtain ⟨x, hx⟩ : ∃ x, (s[0]'hp).toNat = x := ⟨_, rfl⟩
      have hx45 : x ≠ 45 := fun e => hneg ⟨hp, hx.trans e⟩
      have hxi : ((x : Int) == 45) = false := beq_eq_false_iff_ne.2 (by omega)
      clear hneg hsz
      go_enter Tryd.func79, Tryd.ntmps79
      go_wp2
      clear hx hxi
      go_loop [5, 6] (fun v i => ∃ k : Nat, k ≤ s.size ∧ i = .int .i64 (k : Int) ∧ v = .int .i64 (foldD 0 (e.take k) : Nat) ∧ foldD 0 (e.take k) ≤ 1000000000000000009) (fun _ i => s.size - (intOf i).toNat)
      case atStart => exact ⟨0, Nat.zero_le _, rfl, rfl, by simp [foldD]⟩
      case round =>
        obtain ⟨k, hk, rfl, rfl, hfb⟩ := hrel
        by_cases hlt : k < s.size
        · obtain ⟨x, hx⟩ : ∃ x, (s[k]'hlt).toNat = x := ⟨_, rfl⟩
          have hke : k < e.length := by rw [HSz.out]; exact hlt
          have HXe : Hid ((e[k]'hke).toNat = x) := Lib.hid ((HX.out k hlt hke).symm.trans hx)
          have HSt := Lib.hid (foldD_step hke)
          rw [HXe.out] at HSt
          have HBad : Hid ((x < 48 ∨ 57 < x) → ∀ v', ¬ isVal e v') := Lib.hid fun h => rest_bad HRest.out hke (by rw [HXe.out]; exact h)
          have HBig := Lib.hid (fun h => rest_big HRest.out (k := k) h)
          obtain ⟨n, hn⟩ : ∃ n, foldD 0 (e.take k) = n := ⟨_, rfl⟩
          rw [hn] at hfb HSt HBig ⊢
          obtain ⟨n2, hn2⟩ : ∃ n2, n2 = foldD 0 (e.take (k + 1)) := ⟨_, rfl⟩
          rw [← hn2] at HSt
          have HN2 := Lib.hid hn2
          have hx256 : x < 256 := by rw [← hx]; exact (s[k]'hlt).toNat_lt
          clear hn hn2 hke HXe
          by_cases hx1 : x < 48
          · have HN := Lib.hid (HBad.out (.inl hx1))
            go_wp2
            go_ret2
            exact ⟨0, false, rfl, fun h => (by cases h), fun _ => HN.out, Below.refl _ _⟩
          · by_cases hx2 : 57 < x
            · have HN := Lib.hid (HBad.out (.inr hx2))
              go_wp2
              go_ret2
              exact ⟨0, false, rfl, fun h => (by cases h), fun _ => HN.out, Below.refl _ _⟩
            · by_cases hb : 100000000000000000 < n
              · have HN := Lib.hid (HBig.out hb)
                go_wp2
                go_ret2
                exact ⟨0, false, rfl, fun h => (by cases h), fun _ => HN.out, Below.refl _ _⟩
              · obtain ⟨d, hd⟩ : ∃ d, x = 48 + d := ⟨x - 48, by omega⟩
                subst hd
                have hd9 : d ≤ 9 := by omega
                have HS2 : Hid (n2 = n * 10 + d) := Lib.hid (by rw [HSt.out]; omega)
                clear HSt HBad HBig
                go_wp2
                go_round
                case rel => exact ⟨k + 1, hlt, by go_num, by rw [← HN2.out, HS2.out]; go_num, by rw [← HN2.out, HS2.out]; omega⟩
                case measure => simp [intOf]; omega
        · obtain rfl : k = s.size := by omega
          have HT : Hid (foldD 0 (e.take s.size) = foldD 0 e) := Lib.hid (by rw [List.take_of_length_le (by rw [HSz.out]; exact Nat.le_refl _)])
          obtain ⟨n, hn⟩ : ∃ n, foldD 0 e = n := ⟨_, rfl⟩
          have HV : Hid (∀ v', isVal e v' → v' = ((n : Nat) : Int)) := Lib.hid fun v' h => by have := rest_end HRest.out h; rw [hn] at this; simpa using this
          rw [HT.out] at hfb ⊢
          rw [hn] at hfb ⊢
          clear hn HT
          have HR := Lib.hid (fun w => l00In_any ((n : Nat) : Int) (-1000000000000000000) 1000000000000000000 w)
          by_cases hin : -1000000000000000000 ≤ ((n : Nat) : Int) ∧ ((n : Nat) : Int) ≤ 1000000000000000000
          · rw [inR_yes hin] at HR
            have HD := Lib.hid (fun w => l01DecZ_any ((n : Nat) : Int) (by omega) (by omega) w)
            go_wp2_with fail
            refine (HR.out _).mono ?_
            rintro e' w' ⟨rfl, rfl⟩
            go_wp2_with fail
            refine (HD.out _).mono ?_
            rintro e' w2 ⟨rfl, hb2⟩
            have HB2 := Lib.hid hb2
            clear hb2
            by_cases hq : Lib.itoa ((n : Nat) : Int) = e
            · have e1 : tx (Lib.itoa ((n : Nat) : Int)) = s := by rw [hq, ← he]
              rw [e1]
              have HY := Lib.hid hq
              have hbe : (s.toList == s.toList) = true := by simp
              clear hq e1
              go_wp2
              go_ret2
              exact ⟨_, true, rfl, fun _ => ⟨HY.out, hin⟩, fun h => (by cases h), HB2.out⟩
            · have e1 : ((tx (Lib.itoa ((n : Nat) : Int))).toList == s.toList) = false := beq_eq_false_iff_ne.2 (fun h => hq (by rw [ByteArray.toList_eq, ByteArray.toList_eq, list_tx, he] at h; exact h))
              have HN : Hid (∀ v', ¬ isVal e v') := Lib.hid fun v' h => by
                have e2 := HV.out v' h
                subst e2
                exact hq h.1
              clear hq
              generalize tx (Lib.itoa ((n : Nat) : Int)) = d at *
              go_wp2
              go_ret2
              exact ⟨_, false, rfl, fun h => (by cases h), fun _ => HN.out, HB2.out⟩
          · have hno : inR ((n : Nat) : Int) (-1000000000000000000) 1000000000000000000 = false := by
              cases h : inR ((n : Nat) : Int) (-1000000000000000000) 1000000000000000000 with
              | false => rfl
              | true => exact absurd (inR_true h) hin
            rw [hno] at HR
            have HN : Hid (∀ v', ¬ isVal e v') := Lib.hid fun v' h => by
              have e2 := HV.out v' h
              subst e2
              exact hin ⟨by have := h.2.1; omega, by have := h.2.2; omega⟩
            clear hno
            go_wp2_with fail
            refine (HR.out _).mono ?_
            rintro e' w' ⟨rfl, rfl⟩
            go_wp2
            go_ret2
            exact ⟨_, false, rfl, fun h => (by cases h), fun _ => HN.out, Below.refl _ _⟩
/-- texts of numbers differ -/
theorem itoa_inj {a b : Int} (h1 : -1000000000000000 ≤ a ∧ a ≤ 1000000000000000) (h2 : -1000000000000000000 ≤ b) (h3 : b ≤ 1000000000000000000) (h : Lib.itoa a = Lib.itoa b) : a = b := by
  have key : ∀ u v : Nat, Lib.decDigits u = Lib.decDigits v → u = v := fun u v h => by
    have e1 := (digs_dec u).2
    have e2 := (digs_dec v).2
    rw [h] at e1
    omega
  by_cases ha : a < 0
  · obtain ⟨u, rfl⟩ : ∃ u : Nat, a = -(u : Int) := ⟨(-a).toNat, by omega⟩
    by_cases hb : b < 0
    · obtain ⟨v, rfl⟩ : ∃ v : Nat, b = -(v : Int) := ⟨(-b).toNat, by omega⟩
      rw [Lib.itoa_neg u (by omega), Lib.itoa_neg v (by omega)] at h
      injection h with _ h
      rw [key u v h]
    · obtain ⟨v, rfl⟩ := Int.eq_ofNat_of_zero_le (show 0 ≤ b by omega)
      rw [Lib.itoa_neg u (by omega), itoa_pos] at h
      obtain ⟨c, r, e1, e2, e3⟩ := dec_head v
      rw [e1] at h
      injection h with h _
      rw [← h] at e2
      exact absurd e2 (by decide)
  · obtain ⟨u, rfl⟩ := Int.eq_ofNat_of_zero_le (show 0 ≤ a by omega)
    by_cases hb : b < 0
    · obtain ⟨v, rfl⟩ : ∃ v : Nat, b = -(v : Int) := ⟨(-b).toNat, by omega⟩
      rw [Lib.itoa_neg v (by omega), itoa_pos] at h
      obtain ⟨c, r, e1, e2, e3⟩ := dec_head u
      rw [e1] at h
      injection h with h _
      rw [h] at e2
      exact absurd e2 (by decide)
    · obtain ⟨v, rfl⟩ := Int.eq_ofNat_of_zero_le (show 0 ≤ b by omega)
      rw [itoa_pos, itoa_pos] at h
      rw [key u v h]
theorem value_any (s : ByteArray) (hs : s.size ≤ 1048576) (w : World) : Calls Tryd.prog 57 #[.string s] w (ValRet s.data.toList w) := by
  have HG := Lib.hid (great_any s hs w)
  generalize s.data.toList = e at *
  go_enter Tryd.func57, Tryd.ntmps57
  go_wp2_with fail
  refine HG.out.mono ?_
  rintro en w1 ⟨v, b, rfl, h1, h2, hb⟩
  have HB := Lib.hid hb
  clear hb
  cases b with
  | false =>
    have HN := Lib.hid (h2 rfl)
    clear h1 h2
    go_wp2
    go_ret2
    exact ⟨0, false, rfl, fun h => (by cases h), fun _ => ⟨rfl, HN.out⟩, HB.out⟩
  | true =>
    obtain ⟨g1, g2, g3⟩ := h1 rfl
    have HR := Lib.hid (fun w => l00In_any v (-1000000000000000) 1000000000000000 w)
    clear h1 h2
    by_cases hin : -1000000000000000 ≤ v ∧ v ≤ 1000000000000000
    · rw [inR_yes hin] at HR
      have HY : Hid (isVal e v) := Lib.hid ⟨g1, hin⟩
      clear g1
      go_wp2_with fail
      refine (HR.out _).mono ?_
      rintro e' w' ⟨rfl, rfl⟩
      go_wp2
      go_ret2
      exact ⟨v, true, rfl, fun _ => HY.out, fun h => (by cases h), HB.out⟩
    · have hno : inR v (-1000000000000000) 1000000000000000 = false := by
        cases h : inR v (-1000000000000000) 1000000000000000 with
        | false => rfl
        | true => exact absurd (inR_true h) hin
      rw [hno] at HR
      have HN : Hid (∀ v', ¬ isVal e v') := Lib.hid fun v' h => by
        obtain ⟨c, d, h2⟩ : ∃ c d, (c = v' ∧ d = v) := ⟨_, _, rfl, rfl⟩
        have : v = v' := by
          have q1 := h.1.trans g1.symm
          exact (itoa_inj (by have := h.2; omega) g2 g3 q1).symm
        subst this
        exact hin h.2
      clear g1 hno
      go_wp2_with fail
      refine (HR.out _).mono ?_
      rintro e' w' ⟨rfl, rfl⟩
      go_wp2
      go_ret2
      exact ⟨0, false, rfl, fun h => (by cases h), fun _ => ⟨rfl, HN.out⟩, HB.out⟩
end Go.Proofs.YtogadldnkhdjbaaDoor.Val

/- l11Find: the place of a name in a lab. -/
import Derived.Test.YtpjepheiagllgaaDoorMgFnJ04
import Derived.Deep.AppendSrc
import Derived.Lib.SliceRun
import Derived.Laws.Cover1
namespace Go.Proofs.YtpjepheiagllgaaDoor.Find
open Go.RowKit Go.Proofs.YtpjepheiagllgaaDoor Go.Proofs.YtpjepheiagllgaaDoor.Base Go.Proofs.YtpjepheiagllgaaDoor.Mem Go.Proofs.YtpjepheiagllgaaDoor.LabM
set_option linter.unusedVariables false
def FoundAt (ss : List ByteArray) (x : ByteArray) (r : Int) : Prop := (r = -1 ∧ ∀ i, i < ss.length → ss.getD i ByteArray.empty ≠ x) ∨ ∃ k : Nat, k < ss.length ∧ r = k ∧ ss.getD k ByteArray.empty = x
theorem FoundAt.no {ss : List ByteArray} {x : ByteArray} (h : ∀ i, i < ss.length → ss.getD i ByteArray.empty ≠ x) : FoundAt ss x (-1) := .inl ⟨rfl, h⟩
theorem FoundAt.yes {ss : List ByteArray} {x : ByteArray} {k : Nat} (h : k < ss.length) (e : ss.getD k ByteArray.empty = x) : FoundAt ss x (k : Int) := .inr ⟨k, h, rfl, e⟩
theorem eqS_no {y x : ByteArray} (h : ¬ y = x) : (y.toList == x.toList) = false := by
 rw [ByteArray.toList_eq, ByteArray.toList_eq]
 refine beq_false_of_ne fun e => h ?_
 rcases y with ⟨⟨y⟩⟩
 rcases x with ⟨⟨x⟩⟩
 simp at e
 rw [e]
def FindRet (ss : List ByteArray) (x : ByteArray) (w : World) (e : Ending) (w' : World) : Prop := ∃ r : Int, e = .returned (.int .i64 r) ∧ FoundAt ss x r ∧ w = w'
def FindSt (ss : List ByteArray) (x : ByteArray) (i : Value) : Prop := ∃ k : Nat, k ≤ ss.length ∧ i = .int .i64 k ∧ Hid (∀ j, j < k → ss.getD j ByteArray.empty ≠ x)
set_option maxHeartbeats 1000000 in
set_option maxRecDepth 100000 in
theorem find_any (b c B : Nat) (A : Option Addr) (ss : List ByteArray) (x : ByteArray) (w : World) (h0 : w.cell? ⟨b, 0, none⟩ = some (.slice A ss.length c)) (hx : RdT w B A ss) (hm : ss.length ≤ 1000) :
  Calls Tryd.prog 36 #[.pointer (some ⟨b, 0, none⟩), .string x] w (FindRet ss x w) := by
 have HX := Lib.hid hx
 clear hx
 go_enter Tryd.func36, Tryd.ntmps36
 go_wp2
 go_loop [5] (fun i => FindSt ss x i) (fun i => ss.length - (intOf i).toNat)
 case atStart => exact ⟨0, Nat.zero_le _, rfl, Lib.hid fun j hj => absurd hj (Nat.not_lt_zero j)⟩
 case round =>
  obtain ⟨k, hk, rfl, HNo⟩ := hrel
  by_cases hlt : k < ss.length
  ·obtain ⟨g, off, rfl, _, hc⟩ := HX.out (by omega)
   have g1 := hc k hlt
   have HY : Hid (∀ y, y = ss.getD k ByteArray.empty → (y = x → FoundAt ss x (k : Int)) ∧ (y ≠ x → ∀ j, j < k + 1 → ss.getD j ByteArray.empty ≠ x)) := Lib.hid fun y e => ⟨fun h => FoundAt.yes hlt (e ▸ h), fun h j hj => by
    rcases Nat.lt_or_ge j k with h1 | h1
    ·exact HNo.out j h1
    ·obtain rfl : j = k := by omega
     exact e ▸ h⟩
   clear hc HX
   generalize hy : ss.getD k ByteArray.empty = y at g1
   obtain ⟨q1, q2⟩ := HY.out y hy.symm
   have Q2 := Lib.hid q2
   clear HY q2 hy
   by_cases he : y = x
   ·have Q1 := Lib.hid (q1 he)
    clear q1 Q2
    subst he
    have hbe : (y.toList == y.toList) = true := by simp
    go_wp2
    go_ret
    exact ⟨_, rfl, Q1.out, rfl⟩
   ·have Q3 := Lib.hid (Q2.out he)
    clear q1 Q2
    have hbe := eqS_no he
    go_wp2
    go_round
    case rel => exact ⟨k + 1, by omega, by go_num, Q3⟩
    case measure => simp [intOf]; omega
  ·have HF : Hid (FoundAt ss x (-1)) := Lib.hid (FoundAt.no fun i hi => HNo.out i (by omega))
   clear HX
   go_wp2
   go_ret
   exact ⟨_, rfl, HF.out, rfl⟩
end Go.Proofs.YtpjepheiagllgaaDoor.Find
namespace Go.Proofs.YtpjepheiagllgaaDoor.SetA
open Go.RowKit Go.Proofs.YtpjepheiagllgaaDoor Go.Proofs.YtpjepheiagllgaaDoor.Base Go.Proofs.YtpjepheiagllgaaDoor.Mem Go.Proofs.YtpjepheiagllgaaDoor.LabM Go.Proofs.YtpjepheiagllgaaDoor.MemS
set_option linter.unusedVariables false
theorem run_append_none_gen (w : World) (base : Nat) (v : Value) (n : Nat) (xs : List Value) (ts e : TypeId) (size : Nat) (i0 : TypeInfo) (ht : Tryd.prog.underlying ts = some (.slice e)) (hi : Tryd.prog.info? e = some i0) (hown : w.ownsRow base e size v n xs) (ty : TypeId) (c : Nat) :
  (Builtin.append_ #[ts, ts] ty #[v, .slice none 0 c]).run Tryd.prog w = .ok v w := by
 rcases hown.2 with ⟨rfl, rfl⟩ | ⟨g, cap, cur, rfl, hbg, hg, hnc, hcm, hcs, htake⟩
 ·simp [Builtin.append_, run_underlying ht, sizeOf, typeInfo, hi, Builtin.lenOf, Builtin.firstCells]
 ·have := run_append_room_src (P := Tryd.prog) w ts ts ty e i0 ht hi g 0 n cap (.slice none 0 c) 0 [] (Src.ofNil w ht c) (by omega) (fun j hj => absurd hj (Nat.not_lt_zero j)) (fun j hj => absurd hj (Nat.not_lt_zero j))
  simpa [World.setCells] using this
def Behind (w : World) (A : Option Addr) (news : List Value) : Prop := (news = [] ∧ A = none) ∨ ∃ ad, A = some ad ∧ ∀ j u, news[j]? = some u → w.cell? (ad.add j) = some u
theorem add_off (b off j : Nat) : (⟨b, off, none⟩ : Addr).add j = ⟨b, off + j, none⟩ := by
 unfold Addr.add; split <;> simp_all
theorem wpList_append_gen {ops : Array Oper} {rest : List Oper} {o : Oper} {a : Act} {w : World} {Q : Exit → Act → World → Prop} (hgd : o.guard = none) (s x : Operand) (ts e : TypeId)
  (ho : o.op = .call { callee := .builtin .append, args := #[s, x], argTypes := #[ts, ts] })
  (base : Nat) (i0 : TypeInfo) (z : Value) (size bytes : Nat) (ht : Tryd.prog.underlying ts = some (.slice e)) (hi : Tryd.prog.info? e = some i0) (hz : i0.zero = some z) (hsize : i0.size = size) (hby : i0.bytes = bytes) (hzs : z.cells.size = size) (hsz : 0 < size)
  (v : Value) (n : Nat) (xs : List Value) (hs : a.eval s = v) (hown : w.ownsRow base e size v n xs)
  (A : Option Addr) (m c : Nat) (news : List Value) (hx : a.eval x = .slice A m c) (hm : news.length = m * size) (hb : Behind w A news) (h1 : ∀ u ∈ news, u.oneCell' = true) (h63 : n + m ≤ maxLen) (hbytes : (n + m) * bytes ≤ 140737488355328) (hbase : base ≤ w.heap.size)
  (h : ∀ v' w', w'.ownsRow base e size v' (n + m) (xs ++ news) → w.grownBy w' v.ownBlock → wpList Tryd.prog ops Q rest (a.put o.dst v') w') :
  wpList Tryd.prog ops Q (o :: rest) a w := by
 rcases hb with ⟨rfl, rfl⟩ | ⟨ad, rfl, hnews⟩
 ·obtain rfl : m = 0 := by
   rcases Nat.eq_zero_or_pos m with h | h
   ·exact h
   ·have := Nat.mul_pos h hsz
    simp at hm
    omega
  refine wpList_plain hgd fun K hK => ?_
  have hr := run_append_none_gen w base v n xs ts e size i0 ht hi hown o.type c
  unfold Oper.wp execOp
  simp only [ho, resolve, invoke, builtin, Sem.run_bind, Sem.run_pure, Result.andThen_ok, List.map_toArray, List.map_cons, List.map_nil, hs, hx, hr]
  refine hK _ _ (h v w (by simpa using hown) ⟨rfl, rfl, rfl, Nat.le_refl _, fun _ _ _ => rfl⟩)
 ·exact wpList_append_own_at w hgd s x ts ho base e i0 z size bytes ht hi hz hsize hby hzs hsz v n xs hs hown ad m c news hx hm hnews h1 h63 hbytes hbase fun v' w' h1 h2 _ _ => h v' w' h1 h2
theorem step_append_gen {ops : Array Oper} {o : Oper} {a : Act} {w : World} {K : Act → World → Prop} {Q : Exit → Act → World → Prop} {E : Prop} (hgd : o.guard = none) (s x : Operand) (ts e : TypeId)
  (ho : o.op = .call { callee := .builtin .append, args := #[s, x], argTypes := #[ts, ts] })
  (base : Nat) (i0 : TypeInfo) (z : Value) (size bytes : Nat) (ht : Tryd.prog.underlying ts = some (.slice e)) (hi : Tryd.prog.info? e = some i0) (hz : i0.zero = some z) (hsize : i0.size = size) (hby : i0.bytes = bytes) (hzs : z.cells.size = size) (hsz : 0 < size)
  (v : Value) (n : Nat) (xs : List Value) (hs : a.eval s = v) (hown : w.ownsRow base e size v n xs)
  (A : Option Addr) (m c : Nat) (news : List Value) (hx : a.eval x = .slice A m c) (hm : news.length = m * size) (hb : Behind w A news) (h1 : ∀ u ∈ news, u.oneCell' = true) (h63 : n + m ≤ maxLen) (hbytes : (n + m) * bytes ≤ 140737488355328) (hbase : base ≤ w.heap.size)
  (h : ∀ v' w', w'.ownsRow base e size v' (n + m) (xs ++ news) → w.grownBy w' v.ownBlock → K (a.put o.dst v') w') :
  if Region.wanted o (yielded ops a.tmps) = true then Oper.wp Tryd.prog o a w K Q else E := by
 have hw : Region.wanted o (yielded ops a.tmps) = true := by simp [Region.wanted, hgd]
 rw [if_pos hw]
 rcases hb with ⟨rfl, rfl⟩ | ⟨ad, rfl, hnews⟩
 ·obtain rfl : m = 0 := by
   rcases Nat.eq_zero_or_pos m with h | h
   ·exact h
   ·have := Nat.mul_pos h hsz
    simp at hm
    omega
  have hr := run_append_none_gen w base v n xs ts e size i0 ht hi hown o.type c
  unfold Oper.wp execOp
  simp only [ho, resolve, invoke, builtin, Sem.run_bind, Sem.run_pure, Result.andThen_ok, List.map_toArray, List.map_cons, List.map_nil, hs, hx, hr]
  exact h v w (by simpa using hown) ⟨rfl, rfl, rfl, Nat.le_refl _, fun _ _ _ => rfl⟩
 ·obtain ⟨v', w', hr, h2, h3, h4, h5⟩ := run_append_own_at (P := Tryd.prog) w base ts o.type e i0 z size bytes ht hi hz hsize hby hzs hsz v n xs hown ad m c news hm hnews h1 h63 hbytes hbase
  unfold Oper.wp execOp
  simp only [ho, resolve, invoke, builtin, Sem.run_bind, Sem.run_pure, Result.andThen_ok, List.map_toArray, List.map_cons, List.map_nil, hs, hx, hr]
  exact h v' w' h2 h3
end Go.Proofs.YtpjepheiagllgaaDoor.SetA
namespace Go.Proofs.YtpjepheiagllgaaDoor.LabV
open Go.RowKit Go.Proofs.YtpjepheiagllgaaDoor Go.Proofs.YtpjepheiagllgaaDoor.Base Go.Proofs.YtpjepheiagllgaaDoor.Mem Go.Proofs.YtpjepheiagllgaaDoor.Cpy Go.Proofs.YtpjepheiagllgaaDoor.MemS Go.Proofs.YtpjepheiagllgaaDoor.Str Go.Proofs.YtpjepheiagllgaaDoor.LabM Go.Proofs.YtpjepheiagllgaaDoor.Take
set_option linter.unusedVariables false
def lowTo (s : ByteArray) : Nat → Bool
 | 0 => true
 | i + 1 => lowTo s i && (if h : i < s.size then decide (97 ≤ (s[i]'h).toNat) && decide ((s[i]'h).toNat ≤ 122) else false)
theorem lowTo_no {s : ByteArray} {i : Nat} (h : lowTo s i = false) : ∀ n, i ≤ n → lowTo s n = false
  | 0, hn => by obtain rfl : i = 0 := by omega
                exact h
  | n + 1, hn => by
    by_cases e : i = n + 1
    · subst e; exact h
    · rw [lowTo, lowTo_no h n (by omega)]; rfl
theorem lowTo_step {s : ByteArray} {i : Nat} (h : lowTo s i = true) (hi : i < s.size) {x : Nat} (hx : (s[i]'hi).toNat = x) : lowTo s (i + 1) = (decide (97 ≤ x) && decide (x ≤ 122)) := by
 rw [lowTo, h, dif_pos hi, hx, Bool.true_and]
def nameB (s : ByteArray) : Bool := lowTo s s.size && inR (s.size : Int) 1 10
set_option maxHeartbeats 1000000 in
theorem specName_any (s : ByteArray) (hs : s.size ≤ 9223372036854775807) (w : World) : Calls Tryd.prog 37 #[.string s] w fun e w' => e = .returned (.bool (nameB s)) ∧ w = w' := by
 go_enter Tryd.func37, Tryd.ntmps37
 go_wp2
 go_loop [3] (fun i => ∃ k : Nat, k ≤ s.size ∧ i = .int .i64 (k : Int) ∧ Hid (lowTo s k = true)) (fun i => s.size - (intOf i).toNat)
 case atStart => exact ⟨0, Nat.zero_le _, rfl, Lib.hid rfl⟩
 case round =>
  obtain ⟨k, hk, rfl, hL⟩ := hrel
  by_cases hlt : k < s.size
  ·obtain ⟨x, hx⟩ : ∃ x, (s[k]'hlt).toNat = x := ⟨_, rfl⟩
   have HN := Lib.hid (lowTo_step hL.out hlt hx)
   have HF := Lib.hid (fun (h : lowTo s (k + 1) = false) => lowTo_no h s.size hlt)
   by_cases h1 : x < 97
   ·go_wp2
    go_ret
    exact ⟨ret_bool (by rw [nameB, HF.out (by rw [HN.out]; simp; omega)]; rfl), rfl⟩
   ·by_cases h2 : 122 < x
    ·go_wp2
     go_ret
     exact ⟨ret_bool (by rw [nameB, HF.out (by rw [HN.out]; simp; omega)]; rfl), rfl⟩
    ·go_wp2
     go_round
     case rel => exact ⟨k + 1, hlt, by go_num, Lib.hid (by rw [HN.out]; simp; omega)⟩
     case measure => simp [intOf]; omega
  ·obtain rfl : k = s.size := by omega
   have HR : Hid (nameB s = inR (s.size : Int) 1 10) := Lib.hid (by rw [nameB, hL.out, Bool.true_and])
   by_cases h1 : 1 ≤ s.size
   ·by_cases h2 : s.size ≤ 10
    ·have HB := Lib.hid (inR_yes (n := (s.size : Int)) (lo := 1) (hi := 10) (by omega))
     go_wp2
     go_ret
     exact ⟨ret_bool (by rw [HR.out, HB.out]; try simp; try omega), rfl⟩
    ·have HB := Lib.hid (inR_no (n := (s.size : Int)) (lo := 1) (hi := 10) (by omega))
     go_wp2
     go_ret
     exact ⟨ret_bool (by rw [HR.out, HB.out]; try simp; try omega), rfl⟩
   ·have HB := Lib.hid (inR_no (n := (s.size : Int)) (lo := 1) (hi := 10) (by omega))
    go_wp2
    go_ret
    exact ⟨ret_bool (by rw [HR.out, HB.out]; try simp; try omega), rfl⟩
end Go.Proofs.YtpjepheiagllgaaDoor.LabV

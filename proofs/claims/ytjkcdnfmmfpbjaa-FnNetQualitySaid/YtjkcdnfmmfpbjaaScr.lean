/- Rows that are mixed by masks, of the program and of the reference. -/
import Derived.Test.YtjkcdnfmmfpbjaaJumpW
import Derived.Test.YtjkcdnfmmfpbjaaShift
import Derived.Deep.AppendSrc
import Derived.Lib.SliceRun
namespace Go.Proofs.Ytjkcdnfmmfpbjaa.Scr
open Go.RowKit Go.Proofs.Ytjkcdnfmmfpbjaa Go.Proofs.Ytjkcdnfmmfpbjaa.Base Go.Proofs.Ytjkcdnfmmfpbjaa.Mem Go.Proofs.Ytjkcdnfmmfpbjaa.AllIn Go.Proofs.Ytjkcdnfmmfpbjaa.Pts Go.Proofs.Ytjkcdnfmmfpbjaa.NetV Go.Proofs.Ytjkcdnfmmfpbjaa.RevNet Go.Proofs.Ytjkcdnfmmfpbjaa.Bits Go.Proofs.Ytjkcdnfmmfpbjaa.Shift Go.Proofs.Ytjkcdnfmmfpbjaa.Jump
set_option linter.unusedVariables false
/-- the sum of those of the first rows that a mask chooses -/
def comb (m : Nat) (rows : List Int) : Nat → Int
  | 0 => 0
  | k + 1 => if m.testBit k = true then xorI (comb m rows k) (rows.getD k 0) else comb m rows k
theorem comb_bd (m : Nat) (rows : List Int) (h : ∀ i, i < rows.length → 0 ≤ rows.getD i 0 ∧ rows.getD i 0 < 64) : ∀ k, k ≤ rows.length → 0 ≤ comb m rows k ∧ comb m rows k < 64
  | 0, _ => by simp [comb]
  | k + 1, hk => by
    have h1 := comb_bd m rows h k (by omega)
    have h2 := h k (by omega)
    unfold comb
    split
    · unfold xorI
      have : (comb m rows k).toNat ^^^ (rows.getD k 0).toNat < 2 ^ 6 := Nat.xor_lt_two_pow (by omega) (by omega)
      omega
    · exact h1
set_option maxHeartbeats 1000000 in
theorem combinedRow_any (m : Nat) (A : Option Addr) (c B : Nat) (rows : List Int) (w : World) (hm : m < 128) (hx : RdI w B A rows) (hl : rows.length ≤ 6) (h : ∀ i, i < rows.length → 0 ≤ rows.getD i 0 ∧ rows.getD i 0 < 64) :
    Calls Try.prog 87 #[.slice A rows.length c, .int .i64 m] w fun e w' => e = .returned (.int .i64 (comb m rows rows.length)) ∧ w = w' := by
  have HX := Lib.hid hx
  have HR := Lib.hid h
  have HB := Lib.hid (comb_bd m rows h)
  clear hx h
  go_enter Try.func87, Try.ntmps87
  go_wp2
  go_loop [5, 10] (fun o i => ∃ k : Nat, k ≤ rows.length ∧ i = .int .i64 (k : Int) ∧ o = .int .i64 (comb m rows k)) (fun _ i => rows.length - (intOf i).toNat)
  case atStart => exact ⟨0, Nat.zero_le _, rfl, rfl⟩
  case round =>
    obtain ⟨k, hk, rfl, rfl⟩ := hrel
    by_cases hlt : k < rows.length
    · have hb := HB.out k hk
      have hr := HR.out k hlt
      have HT := Lib.hid (bit_test m k (by omega))
      obtain ⟨b, off, rfl, _, hc⟩ := HX.out (by omega)
      have g := hc k hlt
      clear hc
      cases ht : m.testBit k with
      | false =>
        have hN := Lib.hid (show comb m rows (k + 1) = comb m rows k by simp [comb, ht])
        rw [ht] at HT
        have hb1 := HT.out
        clear ht
        generalize comb m rows k = C at *
        generalize rows.getD k 0 = x at *
        go_wp2
        go_round
        case rel => exact ⟨k + 1, hlt, by go_num, by rw [hN.out]⟩
        case measure => simp [intOf]; omega
      | true =>
        have hN := Lib.hid (show comb m rows (k + 1) = xorI (comb m rows k) (rows.getD k 0) by simp [comb, ht])
        rw [ht] at HT
        have hb1 := HT.out
        have hX := xor_int hb hr
        clear ht
        generalize comb m rows k = C at *
        generalize rows.getD k 0 = x at *
        go_wp2
        go_round
        case rel => exact ⟨k + 1, hlt, by go_num, by rw [hN.out]⟩
        case measure => simp [intOf]; omega
    · obtain rfl : k = rows.length := by omega
      go_wp2
      go_ret
      exact ⟨rfl, rfl⟩
/-- all rows mixed -/
def mixR (rows lower : List Int) : List Int := lower.map fun m => comb m.toNat rows rows.length
theorem mixR_len (rows lower : List Int) : (mixR rows lower).length = lower.length := by simp [mixR]
theorem mixR_at (rows lower : List Int) (d : Nat) (h : d < lower.length) : (mixR rows lower).getD d 0 = comb (lower.getD d 0).toNat rows rows.length := by simp [mixR, List.getD, h]
def ListMade (R : List Int) (w : World) (e : Ending) (w' : World) : Prop := ∃ A c, e = .returned (.slice A R.length c) ∧ OwnI w' w.heap.size (.slice A R.length c) R ∧ Below w.heap.size w w'
def MadeAt (R : List Int) (wo : World) (e : Ending) (w' : World) : Prop := ∃ A c, e = .returned (.slice A R.length c) ∧ OwnI w' wo.heap.size (.slice A R.length c) R ∧ Below wo.heap.size wo w'
theorem ListMade.at {R : List Int} {wo W w' : World} {e : Ending} (h : ListMade R W e w') (hW : Below wo.heap.size wo W) : MadeAt R wo e w' := by
  obtain ⟨A, c, h1, h2, h3⟩ := h
  exact ⟨A, c, h1, ownsRow_base h2 hW.size, Base.Below.nextA hW h3⟩
theorem rd_news {w : World} {b off : Nat} {xs : List Int} (hc : ∀ j, j < xs.length → w.cell? ⟨b, off + j, none⟩ = some (.int .i64 (xs.getD j 0))) : ∀ j u, (ints xs)[j]? = some u → w.cell? ((⟨b, off, none⟩ : Addr).add j) = some u := fun j u hj => by
  have hl : j < xs.length := by
    have := (List.getElem?_eq_some_iff.1 hj).1
    rwa [ints_len] at this
  rw [Addr.add_lit, hc j hl, ← hj, ints_get xs j hl]
set_option maxHeartbeats 1000000 in
set_option maxRecDepth 100000 in
theorem timesRows_any (A A' : Option Addr) (c c' B : Nat) (rows lower : List Int) (w : World) (hx : RdI w B A rows) (hy : RdI w B A' lower) (hB : B ≤ w.heap.size) (hl : rows.length ≤ 6) (hl' : lower.length ≤ 6) (h : ∀ i, i < rows.length → 0 ≤ rows.getD i 0 ∧ rows.getD i 0 < 64) (h' : ∀ i, i < lower.length → 0 ≤ lower.getD i 0 ∧ lower.getD i 0 < 128) :
    Calls Try.prog 64 #[.slice A rows.length c, .slice A' lower.length c'] w (ListMade (mixR rows lower) w) := by
  obtain ⟨i0, hi, hz0, hz1, hz2⟩ := info_parts infoI
  have HX := Lib.hid hx
  have HY := Lib.hid hy
  have HR := Lib.hid h
  have HR' := Lib.hid h'
  have H0 := Lib.hid (IRel.start (mixR rows lower) w)
  have hml := mixR_len rows lower
  have HML := Lib.hid hml
  clear hx hy h h' hml
  go_enter Try.func64, Try.ntmps64
  go_wp2
  go_loopw [5, 11] (fun o i wr => IRel (mixR rows lower) w o i wr) (fun _ i _ => lower.length - (intOf i).toNat)
  case atStart => exact H0.out
  case round =>
    obtain ⟨d, hd, rfl, hO, hb⟩ := hrel
    rw [HML.out] at hd
    by_cases hlt : d < lower.length
    · obtain ⟨b, off, rfl, _, hc⟩ := (HY.out.below hb hB) (by omega)
      have g := hc d hlt
      obtain ⟨q1, q2⟩ := HR'.out d hlt
      obtain ⟨x, hx⟩ := Int.eq_ofNat_of_zero_le q1
      have hx7 : x < 128 := by omega
      rw [hx] at g
      have HC := Lib.hid (combinedRow_any x A c B rows wr hx7 (HX.out.below hb hB) hl HR.out)
      have HN := Lib.hid (fun v' w2 => IRel.next (L := mixR rows lower) (w2 := w2) (v' := v') (by rw [HML.out]; exact hlt) hO hb ((Below.refl wr.heap.size wr).alloc (Nat.le_refl _) (.cells #[.int .i64 (comb x rows rows.length)] 2)))
      have hlen : ((mixR rows lower).take d).length = d := by rw [List.length_take, HML.out]; omega
      have hown := World.ownsRow.alloc hO (.cells #[.int .i64 (comb x rows rows.length)] 2)
      rw [hlen] at hown
      rw [mixR_at rows lower d hlt, hx] at HN
      have hN := Lib.hid (show (((x : Int)).toNat) = x by omega)
      rw [show (((x : Int)).toNat) = x by omega] at HN
      have hsz := hb.size
      have HW := Lib.hid hown
      clear hc hO hb hown hx q1 q2 hlen
      generalize comb x rows rows.length = C at *
      go_wp2_with fail
      refine HC.out.mono ?_
      rintro e w' ⟨rfl, rfl⟩
      go_wp2_with (at_builtin; refine wpList_append_own_at _ rfl (.tmp 15) (.tmp 19) 28 rfl w.heap.size 2 i0 (.int .i64 0) 1 8 Try.underlying28 hi hz0 hz1 hz2 rfl (by decide) _ _ _ rfl HW.out ⟨wr.heap.size, 0, none⟩ 1 1 [.int .i64 C] rfl rfl ?p1a ?p2a ?p3a ?p4a ?p5a ?_)
      try case p1a => exact news_one _ _ _ (by simp)
      try case p2a => first | exact one_int | rfl | simp
      try case p3a => first | (simp only [maxLen]; omega) | omega
      try case p4a => omega
      try case p5a => first | (simp only [World.size_alloc]; omega) | omega
      intro v' w2 hown' hg' _ he
      have HN2 := Lib.hid (HN.out v' w2 hown' hg')
      clear hown' hg' he HN HW
      go_wp2
      go_roundw
      case rel => exact HN2.out
      case measure => simp [intOf]; omega
    · obtain rfl : d = lower.length := by omega
      rw [show (mixR rows lower).take lower.length = mixR rows lower from List.take_of_length_le (by rw [HML.out]; exact Nat.le_refl _)] at hO
      obtain ⟨A2, c2, e2, _⟩ := hO.form
      subst e2
      have HO := Lib.hid hO
      have HB := Lib.hid hb
      clear hO hb
      go_wp2
      go_ret
      exact ⟨A2, c2, rfl, HO.out, HB.out⟩
theorem wpList_append_nil {P : Program} (w : World) {ops : Array Oper} {rest : List Oper} {o : Oper} {a : Act} {Q : Exit → Act → World → Prop}
    (hg : o.guard = none) (s x : Operand) (t : TypeId) (hop : o.op = Op.call { callee := Callee.builtin Builtin.append, args := #[s, x], argTypes := #[t, t] })
    (e : TypeId) (i : TypeInfo) (ht : P.underlying t = some (.slice e)) (hi : P.info? e = some i)
    (b sCap : Nat) (hs : a.eval s = .slice (some ⟨b, 0, none⟩) 0 sCap) (c : Nat) (hx : a.eval x = .slice none 0 c)
    (hK : wpList P ops Q rest (a.put o.dst (.slice (some ⟨b, 0, none⟩) 0 sCap)) w) :
    wpList P ops Q (o :: rest) a w := by
  refine wpList_plain hg fun K hK' => ?_
  have hrun := run_append_room_src (P := P) (w := w) t t o.type e i ht hi b 0 0 sCap (.slice none 0 c) 0 [] (Src.ofNil w ht c) (by omega) (fun j hj => absurd hj (Nat.not_lt_zero j)) (fun j hj => absurd hj (Nat.not_lt_zero j))
  unfold Oper.wp
  simp [execOp, hop, resolve, invoke, builtin, hs, hx, hrun, Result.andThen]
  exact hK' _ _ hK
theorem made_list {w w' : World} {v : Value} {xs : List Int} {o : Obj} (hown : w'.ownsRow w.heap.size 2 1 v xs.length (ints xs)) (hg : (w.alloc o).grownBy w' (some w.heap.size)) : ListMade xs w (.returned v) w' := by
  have h2 : OwnI w' w.heap.size v xs := hown
  obtain ⟨A, c, rfl, _⟩ := h2.form
  exact ⟨A, c, rfl, h2, ((Below.refl _ _).alloc (Nat.le_refl _) o).trans (grown_below hg (fun g e => by injection e with e; omega) (by simp))⟩
theorem rd_news_alloc {w : World} {B : Nat} {A : Option Addr} {xs : List Int} (h : RdI w B A xs) {ad : Addr} (e : A = some ad) (hB : B ≤ w.heap.size) (o : Obj) : ∀ j u, (ints xs)[j]? = some u → (w.alloc o).cell? (ad.add j) = some u := fun j u hj => by
  have hl : j < xs.length := by
    have := (List.getElem?_eq_some_iff.1 hj).1
    rwa [ints_len] at this
  obtain ⟨b, off, e2, _, hc⟩ := (h.below ((Below.refl w.heap.size w).alloc (Nat.le_refl _) o) hB) (by omega)
  rw [e] at e2
  injection e2 with e2
  subst e2
  exact rd_news hc j u hj
set_option maxHeartbeats 1000000 in
/-- a copy of a list -/
theorem clone_any (A : Option Addr) (c B : Nat) (xs : List Int) (w : World) (hx : RdI w B A xs) (hB : B ≤ w.heap.size) (hl : xs.length ≤ 1048576) :
    Calls Try.prog 65 #[.slice A xs.length c] w (ListMade xs w) := by
  obtain ⟨i0, hi, hz0, hz1, hz2⟩ := info_parts infoI
  have q22 : ∀ (w : World) (a : Option Addr) (n c n' c' : Nat), (binOp .eql 28 (.slice a n c) (.slice none n' c')).run Try.prog w = .ok (.bool a.isNone) w := fun w a n c n' c' => Lib.run_eql_slice_nil w _ _ a n c n' c' Try.underlying28
  cases A with
  | none =>
    have h0 : xs = [] := by
      rcases xs with _ | ⟨x, xs⟩
      · rfl
      · obtain ⟨b, off, e, _⟩ := hx (by simp)
        cases e
    subst h0
    clear hx
    go_enter Try.func65, Try.ntmps65
    go_wp2
    go_ret
    exact ⟨none, 0, rfl, World.ownsRow_nil _ _ _ _, Below.refl _ _⟩
  | some ad =>
    have HN := Lib.hid (rd_news_alloc hx rfl hB (.cells #[] 2))
    have HW := Lib.hid (World.ownsRow_made (base := w.heap.size) (e := 2) (size := 1) w #[] 0 (Nat.le_refl _) (Nat.zero_le _) rfl)
    clear hx
    go_enter Try.func65, Try.ntmps65
    go_wp2_with (at_builtin; refine wpList_append_own_at _ rfl (.tmp 5) (.tmp 6) 28 rfl w.heap.size 2 i0 (.int .i64 0) 1 8 Try.underlying28 hi hz0 hz1 hz2 rfl (by decide) _ _ _ rfl HW.out ad xs.length c (ints xs) rfl ?p1 ?p2 ?p3 ?p4 ?p5 ?p6 ?_)
    try case p1 => simp [ints_len]
    try case p2 => exact HN.out
    try case p3 => exact ints_one xs
    try case p4 => first | (simp only [maxLen]; omega) | omega
    try case p5 => omega
    try case p6 => first | (simp only [World.size_alloc]; omega) | omega
    intro v' w2 hown' hg' _ he
    have HN2 := Lib.hid (made_list hown' hg')
    clear hown' hg' he
    go_wp2
    go_ret
    exact HN2.out
set_option maxHeartbeats 1000000 in
theorem own_any (A : Option Addr) (c B : Nat) (xs : List Int) (w : World) (hx : RdI w B A xs) (hB : B ≤ w.heap.size) (hl : xs.length ≤ 1048576) :
    Calls Try.prog 83 #[.slice A xs.length c] w (ListMade xs w) := by
  obtain ⟨i0, hi, hz0, hz1, hz2⟩ := info_parts infoI
  have HW := Lib.hid (World.ownsRow_made (base := w.heap.size) (e := 2) (size := 1) w #[] 0 (Nat.le_refl _) (Nat.zero_le _) rfl)
  cases A with
  | none =>
    have h0 : xs = [] := by
      rcases xs with _ | ⟨x, xs⟩
      · rfl
      · obtain ⟨b, off, e, _⟩ := hx (by simp)
        cases e
    subst h0
    clear hx
    go_enter Try.func83, Try.ntmps83
    go_wp2_with (at_builtin; refine wpList_append_nil _ rfl (.tmp 3) (.tmp 4) 28 rfl 2 i0 Try.underlying28 hi w.heap.size 0 rfl c rfl ?_)
    go_wp2
    go_ret
    exact ⟨_, 0, rfl, HW.out, (Below.refl _ _).alloc (Nat.le_refl _) _⟩
  | some ad =>
    have HN := Lib.hid (rd_news_alloc hx rfl hB (.cells #[] 2))
    clear hx
    go_enter Try.func83, Try.ntmps83
    go_wp2_with (at_builtin; refine wpList_append_own_at _ rfl (.tmp 3) (.tmp 4) 28 rfl w.heap.size 2 i0 (.int .i64 0) 1 8 Try.underlying28 hi hz0 hz1 hz2 rfl (by decide) _ _ _ rfl HW.out ad xs.length c (ints xs) rfl ?p1 ?p2 ?p3 ?p4 ?p5 ?p6 ?_)
    try case p1 => simp [ints_len]
    try case p2 => exact HN.out
    try case p3 => exact ints_one xs
    try case p4 => first | (simp only [maxLen]; omega) | omega
    try case p5 => omega
    try case p6 => first | (simp only [World.size_alloc]; omega) | omega
    intro v' w2 hown' hg' _ he
    have HN2 := Lib.hid (made_list hown' hg')
    clear hown' hg' he
    go_wp2
    go_ret
    exact HN2.out
end Go.Proofs.Ytjkcdnfmmfpbjaa.Scr

/- A journal that is recovered: the reference. -/
import Derived.Test.YtjajemdeioabkaaDoorRec
namespace Go.Proofs.YtjajemdeioabkaaDoor.RecJ
open Go.RowKit Go.Proofs.YtjajemdeioabkaaDoor Go.Proofs.YtjajemdeioabkaaDoor.Base Go.Proofs.YtjajemdeioabkaaDoor.Mem Go.Proofs.YtjajemdeioabkaaDoor.Dec Go.Proofs.YtjajemdeioabkaaDoor.LabM Go.Proofs.YtjajemdeioabkaaDoor.Jour
set_option linter.unusedVariables false
theorem cut_no (s : ByteArray) (c : UInt8) (w : World) (h : At s.data.toList c none) :
    Calls Tryd.prog 34 #[.string s, .string ⟨#[c]⟩] w fun e w' => e = .returned (.tuple #[.string s, .string { data := #[] }, .bool false]) ∧ w = w' := by
  go_enter Tryd.func34, Tryd.ntmps34
  go_wp2_with (go_at_call 45; refine (cutIn_no s c _ h).mono ?_; rintro e w' ⟨rfl, rfl⟩)
  go_ret3
  exact ⟨rfl, rfl⟩
theorem cut_yes (s : ByteArray) (c : UInt8) (o : Nat) (w : World) (h : At s.data.toList c (some o)) (hs : s.size ≤ 1048576) :
    Calls Tryd.prog 34 #[.string s, .string ⟨#[c]⟩] w fun e w' => e = .returned (.tuple #[.string (tx (s.data.toList.take o)), .string (tx (s.data.toList.drop (o + 1))), .bool true]) ∧ ∃ n, w' = w.drewN n := by
  have HC := Lib.hid (cutIn_yes s c o w h hs)
  generalize tx (s.data.toList.take o) = a at *
  generalize tx (s.data.toList.drop (o + 1)) = b at *
  go_enter Tryd.func34, Tryd.ntmps34
  go_wp2_with (go_at_call 45; refine HC.out.mono ?_; rintro e w' ⟨rfl, n, rfl⟩)
  go_ret3
  exact ⟨rfl, n, rfl⟩
/-- texts of lists of bytes -/
def txs (ls : List (List UInt8)) : List ByteArray := ls.map tx
theorem txs_len (ls : List (List UInt8)) : (txs ls).length = ls.length := by simp [txs]
theorem txs_get (ls : List (List UInt8)) (i : Nat) (h : i < ls.length) : (txs ls).getD i ByteArray.empty = tx (ls.getD i []) := by simp [txs, List.getD, h]
/-- lines that are found -/
def LnTo (s : ByteArray) (w : World) (v fv iv : Value) (wr : World) : Prop :=
  ∃ (f i : Nat) (D : List (List UInt8)), f ≤ i ∧ i ≤ s.size ∧ D.length ≤ i ∧ fv = .int .i64 (f : Int) ∧ iv = .int .i64 (i : Int) ∧ Hid (linesR s.data.toList = D ++ linesR (s.data.toList.drop f)) ∧ Hid (∀ j, f ≤ j → j < i → s.data.toList[j]? ≠ some 10) ∧
    Hid (wr.ownsRow w.heap.size 9 1 v D.length (texts (txs D))) ∧ Hid (Below w.heap.size w wr)
theorem own_txt {w3 : World} {B : Nat} {v' : Value} {D : List (List UInt8)} {x : List UInt8} (h : w3.ownsRow B 9 1 v' (D.length + 1) (texts (txs D) ++ [.string (tx x)])) : w3.ownsRow B 9 1 v' (D ++ [x]).length (texts (txs (D ++ [x]))) := by
  have e : texts (txs (D ++ [x])) = texts (txs D) ++ [.string (tx x)] := by simp [texts, txs]
  rw [e]
  simpa using h
theorem grow_below {w wr w3 : World} {v : Value} {n : Nat} {xs : List Value} {o : Obj} {e : TypeId} (hO : wr.ownsRow w.heap.size e 1 v n xs) (hb : Below w.heap.size w wr) (h2 : (wr.alloc o).grownBy w3 v.ownBlock) : Below w.heap.size w w3 :=
  hb.trans (((Below.refl wr.heap.size wr).alloc (Nat.le_refl _) _ |>.mono hb.size).trans (grown_below h2 (fun g e => by obtain ⟨_, _, q, _⟩ := ownsRow_block hO e; exact q) (by have := hb.size; simp; omega)))
/-- lines as l11Lines returns them -/
def LinesRet (s : ByteArray) (w : World) (e : Ending) (w' : World) : Prop := ∃ (A : Option Addr) (c : Nat) (rest : ByteArray), e = .returned (.tuple #[.slice A (linesR s.data.toList).length c, .string rest]) ∧ RdT w' w'.heap.size A (txs (linesR s.data.toList)) ∧ Below w.heap.size w w'
set_option maxHeartbeats 2000000 in
set_option maxRecDepth 100000 in
theorem l11Lines_any (s : ByteArray) (hs : s.size ≤ 4000) (w : World) : Calls Tryd.prog 31 #[.string s] w (LinesRet s w) := by
  obtain ⟨ix, hix, xz0, xz1, xz2⟩ := info_parts infoT
  have hsz : s.data.toList.length = s.size := by rw [Array.length_toList]; rfl
  have HSZ := Lib.hid hsz
  have H0 : Hid (LnTo s w (.slice (some ⟨w.heap.size, 0, none⟩) 0 0) (.int .i64 0) (.int .i64 0) (w.alloc (.cells #[] 9))) := Lib.hid ⟨0, 0, [], Nat.le_refl _, Nat.zero_le _, Nat.le_refl _, rfl, rfl, Lib.hid (by simp), Lib.hid (fun j h1 h2 => absurd h2 (Nat.not_lt_zero j)), Lib.hid (World.ownsRow_made w #[] 0 (Nat.le_refl _) (Nat.zero_le _) (by simp)), Lib.hid ((Below.refl _ _).alloc (Nat.le_refl _) _)⟩
  clear hsz
  go_enter Tryd.func31, Tryd.ntmps31
  go_wp2
  go_loopw [4, 5, 6] (fun v fv iv wr => LnTo s w v fv iv wr) (fun _ _ i _ => s.size - (intOf i).toNat)
  case atStart => exact H0.out
  case round =>
    obtain ⟨f, i, D, hfi, hin, hDi, rfl, rfl, HL, HN, HO, HB⟩ := hrel
    clear H0
    have hws := HB.out.size
    by_cases hlt : i < s.size
    · obtain ⟨x, hx⟩ : ∃ x, (s[i]'hlt).toNat = x := ⟨_, rfl⟩
      have HX : Hid (s.data.toList[i]? = some (UInt8.ofNat x)) := Lib.hid (by
        rw [← hx, List.getElem?_eq_getElem (by have := HSZ.out; omega)]
        congr 1
        apply UInt8.toNat_inj.1
        simp
        rfl)
      have hx2 : x < 256 := by rw [← hx]; exact (s[i]'hlt).toNat_lt
      by_cases h10 : x = 10
      · subst h10
        have HAt : Hid (At (s.data.toList.drop f) 10 (some (i - f))) := Lib.hid (At.of (by rw [List.getElem?_drop, show f + (i - f) = i by omega, HX.out]; rfl) fun j hj => by rw [List.getElem?_drop]; exact HN.out (f + j) (by omega) (by omega))
        have E1 : Hid (s.extract f i = tx ((s.data.toList.drop f).take (i - f))) := Lib.hid (by rw [ext_tx, List.drop_take])
        have HNx : Hid (∀ v' w3, w3.ownsRow w.heap.size 9 1 v' (D.length + 1) (texts (txs D) ++ [.string (s.extract f i)]) → (wr.alloc (.cells #[.string (s.extract f i)] 9)).grownBy w3 u4.ownBlock → LnTo s w v' (.int .i64 ((i : Int) + 1)) (.int .i64 ((i : Int) + 1)) w3) := Lib.hid fun v' w3 h1 h2 => by
          rw [E1.out] at h1
          refine ⟨i + 1, i + 1, D ++ [(s.data.toList.drop f).take (i - f)], Nat.le_refl _, hlt, by simp; omega, by simp, by simp, Lib.hid ?_, Lib.hid (fun j a b => absurd b (by omega)), Lib.hid (own_txt h1), Lib.hid (grow_below HO.out HB.out h2)⟩
          rw [HL.out, linesR_yes HAt.out, List.drop_drop, show f + (i - f + 1) = i + 1 by omega]
          simp
        have hfi' : (f : Int) ≤ (i : Int) := by omega
        have hin' : (i : Int) ≤ (s.size : Int) := by omega
        have HW := Lib.hid (World.ownsRow.alloc HO.out (.cells #[.string (s.extract f i)] 9))
        go_wp2_with (at_builtin; refine wpList_append_own_at _ rfl (.tmp 18) (.tmp 23) 36 rfl w.heap.size 9 ix (.string ByteArray.empty) 1 16 Tryd.underlying36 hix xz0 xz1 xz2 rfl (by decide) _ _ _ rfl HW.out ⟨wr.heap.size, 0, none⟩ 1 1 [.string (s.extract f i)] rfl rfl ?p1a ?p2a ?p3a ?p4a ?p5a ?_)
        try case p1a => exact news_one _ _ _ (by simp)
        try case p2a => first | rfl | (intro u hu; simp at hu; subst hu; rfl)
        try case p3a => first | (simp only [maxLen]; omega) | omega
        try case p4a => omega
        try case p5a => first | (simp only [World.size_alloc]; omega) | omega
        intro v' w3 hown' hg' _ he
        have HN2 := Lib.hid (HNx.out v' w3 hown' hg')
        clear hown' hg' he
        go_wp2_with fail
        go_roundw
        case rel => exact HN2.out
        case measure => simp [intOf]; omega
      · have hne : ((x : Int) == 10) = false := by simp only [beq_eq_false_iff_ne]; omega
        go_wp2
        go_roundw
        case rel =>
          refine ⟨f, i + 1, D, by omega, hlt, by omega, rfl, by simp, HL, Lib.hid (fun j a b => ?_), HO, HB⟩
          by_cases e : j = i
          · subst e
            rw [HX.out]
            intro h
            have := congrArg UInt8.toNat (Option.some.inj h)
            simp at this
            omega
          · exact HN.out j a (by omega)
        case measure => simp [intOf]; omega
    · obtain rfl : i = s.size := by omega
      have hfi' : (f : Int) ≤ (s.size : Int) := by omega
      have HE : Hid (linesR s.data.toList = D) := Lib.hid (by
        rw [HL.out, linesR_no (At.none_of fun j hj => by rw [List.getElem?_drop]; rw [List.length_drop] at hj; have := HSZ.out; exact HN.out (f + j) (by omega) (by omega)), List.append_nil])
      obtain ⟨A0, c0, e0, _⟩ := ownsRow_form HO.out
      subst e0
      have HR : Hid (RdT wr wr.heap.size A0 (txs D)) := Lib.hid (by
        have o : OwnT wr w.heap.size (.slice A0 D.length c0) (txs D) := by unfold OwnT; rw [txs_len]; exact HO.out
        exact o.rd)
      have mixed : Tryd.prog.follows .mixedOrders = true := by kernel_rfl
      go_wp2
      go_region_o
      all_goals (try go_wp2)
      all_goals go_ret2
      all_goals
        refine ⟨A0, c0, s.extract f s.size, ?_, ?_, ?_⟩
        · rw [HE.out]; rfl
        · rw [HE.out]; exact HR.out
        · first | exact HB.out | exact HB.out.drew
/-! ### What is recovered -/
noncomputable def recO (t : ByteArray) : List (List UInt8) × Nat := if t.size ≤ 4000 then recL 0 (linesR t.data.toList) else ([], 0)
def RecRet (t : ByteArray) (w : World) (e : Ending) (w' : World) : Prop := ∃ (A : Option Addr) (c : Nat), e = .returned (.tuple #[.slice A (recO t).1.length c, .int .i64 ((recO t).2 : Nat), .bool (decide (t.size ≤ 4000))]) ∧ OwnT w' w.heap.size (.slice A (recO t).1.length c) (txs (recO t).1) ∧ Below w.heap.size w w'
theorem RecRet.no {t : ByteArray} {w : World} (h : 4000 < t.size) : RecRet t w (.returned (.tuple #[.slice none 0 0, .int .i64 0, .bool false])) w := by
  have e : recO t = ([], 0) := by rw [recO, if_neg (by omega)]
  refine ⟨none, 0, ?_, ?_, Below.refl _ _⟩
  · rw [e, decide_eq_false (by omega)]; rfl
  · rw [e]; exact World.ownsRow_nil _ _ _ _
theorem RecRet.yes {t : ByteArray} {w w' : World} {A : Option Addr} {c u : Nat} {D : List (List UInt8)} (h : t.size ≤ 4000) (hR : recL 0 (linesR t.data.toList) = (D, u)) (hO : w'.ownsRow w.heap.size 9 1 (.slice A D.length c) D.length (texts (txs D))) (hb : Below w.heap.size w w') :
    RecRet t w (.returned (.tuple #[.slice A D.length c, .int .i64 (u : Int), .bool true])) w' := by
  have e : recO t = (D, u) := by rw [recO, if_pos h, hR]
  refine ⟨A, c, ?_, ?_, hb⟩
  · rw [e, decide_eq_true h]
  · rw [e]; unfold OwnT; rw [txs_len]; exact hO
/-- what is recovered so far -/
def RcTo (w : World) (R : List (List UInt8) × Nat) (ls : List (List UInt8)) (i c u : Nat) (v : Value) (wr : World) : Prop :=
  ∃ D : List (List UInt8), D.length ≤ i ∧ Hid (R = (D ++ (recL c (ls.drop i)).1, u + (recL c (ls.drop i)).2)) ∧ Hid (wr.ownsRow w.heap.size 9 1 v D.length (texts (txs D))) ∧ Hid (Below w.heap.size w wr)
theorem byte_at {s : ByteArray} {i x : Nat} (h : i < s.size) (hx : (s[i]'h).toNat = x) : s.data.toList[i]? = some (UInt8.ofNat x) := by
  have hsz : s.data.toList.length = s.size := by rw [Array.length_toList]; rfl
  rw [← hx, List.getElem?_eq_getElem (by omega)]
  congr 1
  apply UInt8.toNat_inj.1
  simp
  rfl
set_option maxHeartbeats 4000000 in
set_option maxRecDepth 100000 in
theorem specRec_any (t : ByteArray) (ht : t.size ≤ 1048576) (w : World) : Calls Tryd.prog 14 #[.string t] w (RecRet t w) := by
  by_cases hbig : 4000 < t.size
  · have hb' : (4000 : Int) < (t.size : Int) := by omega
    go_enter Tryd.func14, Tryd.ntmps14
    go_wp2
    go_ret3
    exact RecRet.no hbig
  obtain ⟨ix, hix, xz0, xz1, xz2⟩ := info_parts infoT
  have hsm : t.size ≤ 4000 := by omega
  have hb' : ¬ ((4000 : Int) < (t.size : Int)) := by omega
  have hsz : t.data.toList.length = t.size := by rw [Array.length_toList]; rfl
  have HL := Lib.hid (l11Lines_any t hsm w)
  obtain ⟨hl1, hl2⟩ := linesR_len _ t.data.toList (Nat.le_refl _)
  have HY := Lib.hid (fun A c u D w' h1 h2 h3 => RecRet.yes (t := t) (w := w) (w' := w') (A := A) (c := c) (u := u) (D := D) hsm h1 h2 h3)
  obtain ⟨ls, hls⟩ : ∃ ls, ls = linesR t.data.toList := ⟨_, rfl⟩
  unfold LinesRet at HL
  rw [← hls] at HL HY hl1 hl2
  have HLE : Hid (∀ i, i < ls.length → (ls.getD i []).length ≤ 4000) := Lib.hid fun i hi => by
    have := hl2 (ls.getD i []) (by rw [List.getD, List.getElem?_eq_getElem hi]; exact List.getElem_mem hi)
    omega
  have hn : ls.length ≤ 4000 := by omega
  obtain ⟨n, hnn⟩ : ∃ n, n = ls.length := ⟨_, rfl⟩
  rw [← hnn] at HL hn
  have HNN := Lib.hid hnn
  clear hls hl1 hl2 hsz hbig hnn
  go_enter Tryd.func14, Tryd.ntmps14
  go_wp2_with fail
  refine HL.out.mono ?_
  rintro e w1 ⟨A, c, rest, rfl, hrd, hb1⟩
  have HRD := Lib.hid hrd
  have HB1 := Lib.hid hb1
  have hz1 := hb1.size
  have H0 : Hid (RcTo w1 (recL 0 ls) ls 0 0 0 (.slice (some ⟨w1.heap.size, 0, none⟩) 0 0) (w1.alloc (.cells #[] 9))) := Lib.hid ⟨[], Nat.le_refl _, Lib.hid (by simp), Lib.hid (World.ownsRow_made w1 (e := 9) (size := 1) #[] 0 (Nat.le_refl _) (Nat.zero_le _) (by simp)), Lib.hid ((Below.refl w1.heap.size w1).alloc (Nat.le_refl _) _)⟩
  clear hrd hb1
  go_wp2
  go_loopw [7, 8, 9, 10] (fun v cv uv iv wr => ∃ i cc u : Nat, i ≤ n ∧ cc < 999983 ∧ u ≤ 4001 * i ∧ cv = .int .i64 (cc : Int) ∧ uv = .int .i64 (u : Int) ∧ iv = .int .i64 (i : Int) ∧ Hid (RcTo w1 (recL 0 ls) ls i cc u v wr)) (fun _ _ _ i _ => n - (intOf i).toNat)
  case atStart => exact ⟨0, 0, 0, Nat.zero_le _, by decide, Nat.le_refl _, rfl, rfl, rfl, Lib.hid H0.out⟩
  case round =>
    obtain ⟨i, cc, u, hi, hcc, hu, rfl, rfl, rfl, HR⟩ := hrel
    clear H0
    obtain ⟨D, hDi, HRc, HO, HB⟩ := HR.out
    have hws := HB.out.size
    clear HR
    by_cases hlt : i < n
    · obtain ⟨b, off, rfl, hbB, hc⟩ := HRD.out (by rw [txs_len]; have := HNN.out; omega)
      have g0 := (HB.out.cell (p := ⟨b, off + i, none⟩) hbB).trans (hc i (by rw [txs_len]; have := HNN.out; omega))
      rw [txs_get ls i (by have := HNN.out; omega)] at g0
      have hlen := HLE.out i (by have := HNN.out; omega)
      have HDr : Hid (ls.drop i = ls.getD i [] :: ls.drop (i + 1)) := Lib.hid (by rw [List.drop_eq_getElem_cons (by have := HNN.out; omega)]; simp [List.getD, show i < ls.length by have := HNN.out; omega])
      clear hc
      generalize ls.getD i [] = e at *
      have hEz : (tx e).size = e.length := size_tx e
      have HEl : Hid ((tx e).data.toList = e) := Lib.hid (list_tx e)
      have HEx : Hid (∀ a b, (tx e).extract a b = tx ((e.take b).drop a)) := Lib.hid fun a b => by rw [ext_tx, list_tx]
      generalize tx e = E at *
      rw [← hEz] at hlen
      have HEz := Lib.hid hEz
      clear hEz
      have HStop : Hid (recL cc (e :: ls.drop (i + 1)) = ([], 0) → recL 0 ls = (D, u)) := Lib.hid fun h => by rw [HRc.out, HDr.out, h]; simp
      have hwz : b < wr.heap.size := by omega
      obtain ⟨A0, c0, e0, hf0⟩ := ownsRow_form HO.out
      subst e0
      have HF0 := Lib.hid hf0
      clear hf0
      go_wp2
      go_loop [11] (fun jv => ∃ j : Nat, j ≤ E.size ∧ jv = .int .i64 (j : Int) ∧ Hid (∀ k, k < j → e[k]? ≠ some 32)) (fun jv => E.size - (intOf jv).toNat)
      case atStart => exact ⟨0, Nat.zero_le _, rfl, Lib.hid (fun k hk => absurd hk (Nat.not_lt_zero k))⟩
      case round =>
        obtain ⟨j, hj, rfl, HJ⟩ := hrel
        by_cases hjt : j < E.size
        · obtain ⟨x, hx⟩ : ∃ x, (E[j]'hjt).toNat = x := ⟨_, rfl⟩
          have hx2 : x < 256 := by rw [← hx]; exact (E[j]'hjt).toNat_lt
          have HX : Hid (e[j]? = some (UInt8.ofNat x)) := Lib.hid (by rw [← HEl.out]; exact byte_at hjt hx)
          by_cases h32 : x = 32
          · subst h32
            have HAt : Hid (At e 32 (some j)) := Lib.hid (At.of HX.out HJ.out)
            have hj1 : (j : Int) + 1 ≤ (E.size : Int) := by omega
            have hjE : (j : Int) ≤ (E.size : Int) := by omega
            have hje : ((j : Int) == (E.size : Int)) = false := by simp only [beq_eq_false_iff_ne]; omega
            have hw1 : IntKind.i64.wrap ((j : Int) + 1) = ((j + 1 : Nat) : Int) := by rw [IntKind.wrap_i64]; omega
            have hw2 : ((j : Int) + 1).toNat = j + 1 := by omega
            obtain ⟨ln, hln⟩ : ∃ ln, E.extract (j + 1) E.size = ln := ⟨_, rfl⟩
            obtain ⟨hd, hhd⟩ : ∃ hd, E.extract 0 j = hd := ⟨_, rfl⟩
            have HLn : Hid (ln = tx (e.drop (j + 1))) := Lib.hid (by rw [← hln, HEx.out, List.take_of_length_le (by have := HEz.out; omega)])
            have HHd : Hid (hd = tx (e.take j)) := Lib.hid (by rw [← hhd, HEx.out, List.drop_zero])
            obtain ⟨c2, hc2⟩ : ∃ c2, chk cc ln = c2 := ⟨_, rfl⟩
            have hc2b : c2 < 999983 := by rw [← hc2]; exact chk_lt hcc ln
            have hlnz : ln.size ≤ 4000 := by have h8 := size_tx (e.drop (j + 1)); rw [← HLn.out, List.length_drop] at h8; have := HEz.out; omega
            have HCk := Lib.hid (fun w => l01Check_any cc ln w hcc (by omega))
            rw [hc2] at HCk
            have HC2 : Hid (chkL cc (e.drop (j + 1)) = c2) := Lib.hid (by rw [chkL, ← HLn.out, hc2])
            have HDc := Lib.hid (fun w => l01Dec_any c2 (by omega) w)
            obtain ⟨d, hdd⟩ : ∃ d, tx (Lib.decDigits c2) = d := ⟨_, rfl⟩
            rw [hdd] at HDc
            have HDD := Lib.hid hdd
            clear hc2 hdd
            by_cases hk : Lib.decDigits c2 = e.take j
            · have hdh : hd = d := by rw [HHd.out, ← HDD.out, hk]
              subst hdh
              have hbe : (hd.toList == hd.toList) = true := by simp
              have HNx : Hid (∀ v' w3, w3.ownsRow w1.heap.size 9 1 v' (D.length + 1) (texts (txs D) ++ [.string ln]) → Below w1.heap.size w1 w3 → RcTo w1 (recL 0 ls) ls (i + 1) c2 (u + (E.size + 1)) v' w3) := Lib.hid fun v' w3 h1 h2 => by
                rw [HLn.out] at h1
                refine ⟨D ++ [e.drop (j + 1)], by simp; omega, Lib.hid ?_, Lib.hid (own_txt h1), Lib.hid h2⟩
                rw [HRc.out, HDr.out, recL_yes HAt.out (by rw [HC2.out]; exact hk), HC2.out]
                have := HEz.out
                simp
                omega
              have hu1 : u + (E.size + 1) ≤ 4001 * (i + 1) := by omega
              obtain ⟨u1, hu1e⟩ : ∃ u1, u + (E.size + 1) = u1 := ⟨_, rfl⟩
              have hcast : (u : Int) + ((E.size : Int) + 1) = (u1 : Int) := by omega
              rw [hu1e] at HNx hu1
              clear hu1e
              go_wp2_with (go_at_call 32; refine (HCk.out _).mono ?_; rintro e w' ⟨rfl, rfl⟩)
              (refine wp_region_below (by kernel_rfl) (by kernel_rfl) ?_; (repeat (refine wpQuiet_step (fun K hK => ?_); go_simp; first | (refine hK _ ?_; clear hK K) | (apply Exists.intro; refine ⟨fun wq hq => ?_, hK _ ?_⟩; (first | rfl | (have g1 := (hq.cell (p := ⟨b, off + i, none⟩) hwz).trans g0; first | (go_simp; done) | (go_simp; rfl) | (first | (go_at_call 33; refine (HDc.out _).mono ?_; rintro e w1 ⟨rfl, hb1⟩; exact ⟨rfl, Base.Below.nextA hq hb1⟩)))); clear hK K))); refine wpQuiet_nil ?_; intro wq hq)
              have HBq := Lib.hid (HB.out.trans (hq.mono hws))
              have HOq := Lib.hid (ownsRow_below HO.out hq)
              have g2 := (hq.cell (p := ⟨b, off + i, none⟩) hwz).trans g0
              have hwq := HBq.out.size
              have HW := Lib.hid (World.ownsRow.alloc HOq.out (.cells #[.string ln] 9))
              clear g0 hq
              go_wp2_with (at_builtin; refine wpList_append_own_at _ rfl (.tmp 72) (.tmp 74) 36 rfl w1.heap.size 9 ix (.string ByteArray.empty) 1 16 Tryd.underlying36 hix xz0 xz1 xz2 rfl (by decide) _ _ _ rfl HW.out ⟨wq.heap.size, 0, none⟩ 1 1 [.string ln] rfl rfl ?p1a ?p2a ?p3a ?p4a ?p5a ?_)
              try case p1a => exact news_one _ _ _ (by simp)
              try case p2a => first | rfl | (intro u hu; simp at hu; subst hu; rfl)
              try case p3a => first | (simp only [maxLen]; omega) | omega
              try case p4a => omega
              try case p5a => first | (simp only [World.size_alloc]; omega) | omega
              intro v' w3 hown' hg' _ he
              have hb3 := grow_below HOq.out HBq.out hg'
              have HN2 := Lib.hid (HNx.out v' w3 hown' hb3)
              have g3 : w3.cell? ⟨b, off + i, none⟩ = some (.string E) := by
                have y : Below w1.heap.size wq w3 := by
                  have y1 : Below w1.heap.size wq (wq.alloc (.cells #[.string ln] 9)) := (Below.refl w1.heap.size wq).alloc hwq _
                  exact y1.trans (grown_below hg' (fun g e => by obtain ⟨_, _, q, _⟩ := ownsRow_block HOq.out e; exact q) (by have := y1.size; omega))
                exact (y.cell (p := ⟨b, off + i, none⟩) hbB).trans g2
              clear hown' hg' he hb3 g2
              go_wp2_with fail
              go_roundw
              case rel => exact ⟨i + 1, c2, u1, hlt, hc2b, hu1, rfl, rfl, by go_num, Lib.hid HN2.out⟩
              case measure => simp [intOf]; omega
            · have hbe : (hd.toList == d.toList) = false := by
                rw [HHd.out, ← HDD.out]
                simp only [beq_eq_false_iff_ne, ne_eq, Lib.toList_data]
                exact fun h => hk h.symm
              have HS2 := Lib.hid (HStop.out (recL_bad HAt.out (by rw [HC2.out]; exact hk)))
              go_wp2_with (go_at_call 32; refine (HCk.out _).mono ?_; rintro e w' ⟨rfl, rfl⟩)
              (refine wp_region_below (by kernel_rfl) (by kernel_rfl) ?_; (repeat (refine wpQuiet_step (fun K hK => ?_); go_simp; first | (refine hK _ ?_; clear hK K) | (apply Exists.intro; refine ⟨fun wq hq => ?_, hK _ ?_⟩; (first | rfl | (have g1 := (hq.cell (p := ⟨b, off + i, none⟩) hwz).trans g0; first | (go_simp; done) | (go_simp; rfl) | (first | (go_at_call 33; refine (HDc.out _).mono ?_; rintro e w1 ⟨rfl, hb1⟩; exact ⟨rfl, Base.Below.nextA hq hb1⟩)))); clear hK K))); refine wpQuiet_nil ?_; intro wq hq)
              go_wp2
              go_ret3
              exact HY.out _ _ _ _ _ HS2.out (ownsRow_base (ownsRow_below HO.out hq) hz1) (HB1.out.trans ((HB.out.trans (hq.mono hws)).mono hz1))
          · have hne : ((x : Int) != 32) = true := by simp only [bne_iff_ne, ne_eq]; omega
            go_wp2
            go_round
            case rel =>
              refine ⟨j + 1, hjt, by go_num, Lib.hid (fun k hk => ?_)⟩
              by_cases e : k = j
              · subst e
                rw [HX.out]
                intro h
                have := congrArg UInt8.toNat (Option.some.inj h)
                simp at this
                omega
              · exact HJ.out k (by omega)
            case measure => simp [intOf]; omega
        · obtain rfl : j = E.size := by omega
          have HS2 := Lib.hid (HStop.out (recL_no (At.none_of fun k hk => HJ.out k (by have := HEz.out; omega))))
          go_wp2
          go_ret3
          exact HY.out _ _ _ _ _ HS2.out (ownsRow_base HO.out hz1) (HB1.out.trans (HB.out.mono hz1))
    · obtain rfl : i = n := by omega
      have HS2 : Hid (recL 0 ls = (D, u)) := Lib.hid (by rw [HRc.out, List.drop_eq_nil_of_le (by have := HNN.out; omega)]; simp [recL])
      obtain ⟨A0, c0, e0, _⟩ := ownsRow_form HO.out
      subst e0
      go_wp2
      go_ret3
      exact HY.out _ _ _ _ _ HS2.out (ownsRow_base HO.out hz1) (HB1.out.trans (HB.out.mono hz1))
end Go.Proofs.YtjajemdeioabkaaDoor.RecJ

/- A journal that is recovered: the program. -/
import Derived.Test.YtpjepheiagllgaaDoorMgFnJ07
import Derived.Test.YtpjepheiagllgaaDoorMgFnJ18
import Derived.Test.YtpjepheiagllgaaDoorMgFnJ10
import Derived.Test.YtpjepheiagllgaaDoorMgFnJ19
import Derived.Test.YtpjepheiagllgaaDoorMgFnJ06
import Derived.Test.YtpjepheiagllgaaDoorMgFnJ08
import Derived.Test.YtpjepheiagllgaaDoorMgFnJ04
namespace Go.Proofs.YtpjepheiagllgaaDoor.RecJ
open Go.RowKit Go.Proofs.YtpjepheiagllgaaDoor Go.Proofs.YtpjepheiagllgaaDoor.Base Go.Proofs.YtpjepheiagllgaaDoor.Mem Go.Proofs.YtpjepheiagllgaaDoor.Dec Go.Proofs.YtpjepheiagllgaaDoor.LabM Go.Proofs.YtpjepheiagllgaaDoor.Jour
set_option linter.unusedVariables false
def RiTo (w : World) (R : List (List UInt8) × Nat) (l : List UInt8) (f c : Nat) (v : Value) (wr : World) : Prop :=
 ∃ D : List (List UInt8), D.length ≤ f ∧ Hid (R = (D ++ (recL c (linesR (l.drop f))).1, f + (recL c (linesR (l.drop f))).2)) ∧ Hid (wr.ownsRow w.heap.size 9 1 v D.length (texts (txs D))) ∧ Hid (Below w.heap.size w wr)
theorem cut_eq {e : List UInt8} {p : Nat} (h : At e 32 (some p)) : e = e.take p ++ ([32] ++ e.drop (p + 1)) := by
 cases h with
 | yes k hlt =>
  have h1 := (Lib.indexByte_some k).1
  rw [List.getElem?_eq_getElem hlt] at h1
  have h2 := Option.some.inj h1
  conv => lhs; rw [← List.take_append_drop p e, List.drop_eq_getElem_cons hlt, h2]
  rfl
theorem at_len {l : List UInt8} {c : UInt8} {o : Nat} (h : At l c (some o)) : o < l.length := by cases h with | yes _ e => exact e
set_option maxHeartbeats 4000000 in
set_option maxRecDepth 100000 in
theorem implRec_any (t : ByteArray) (ht : t.size ≤ 1048576) (w : World) (hp : Pow w.heap.size w) : Calls Tryd.prog 9 #[.string t] w (RecRet t w) := by
 by_cases hbig : 4000 < t.size
 ·have hb' : (4000 : Int) < (t.size : Int) := by omega
  go_enter Tryd.func9, Tryd.ntmps9
  go_wp2
  go_ret3
  exact RecRet.no hbig
 obtain ⟨ix, hix, xz0, xz1, xz2⟩ := info_parts infoT
 have hsm : t.size ≤ 4000 := by omega
 have hb' : ¬ ((4000 : Int) < (t.size : Int)) := by omega
 have HSZ : Hid (t.data.toList.length = t.size) := Lib.hid (by rw [Array.length_toList]; rfl)
 have HY := Lib.hid (fun A c u D w' h1 h2 h3 => RecRet.yes (t := t) (w := w) (w' := w') (A := A) (c := c) (u := u) (D := D) hsm h1 h2 h3)
 have HP := Lib.hid hp
 have HEx : Hid (∀ f, f ≤ t.size → t.extract f t.size = tx (t.data.toList.drop f)) := Lib.hid fun f hf => by rw [ext_tx, List.take_of_length_le (by have := HSZ.out; omega)]
 obtain ⟨l, hl⟩ : ∃ l, l = t.data.toList := ⟨_, rfl⟩
 rw [← hl] at HSZ HY HEx
 clear hl hp hbig
 have H0 : Hid (RiTo w (recL 0 (linesR l)) l 0 0 (.slice (some ⟨w.heap.size, 0, none⟩) 0 0) (w.alloc (.cells #[] 9))) := Lib.hid ⟨[], Nat.le_refl _, Lib.hid (by simp), Lib.hid (World.ownsRow_made w (e := 9) (size := 1) #[] 0 (Nat.le_refl _) (Nat.zero_le _) (by simp)), Lib.hid ((Below.refl w.heap.size w).alloc (Nat.le_refl _) _)⟩
 go_enter Tryd.func9, Tryd.ntmps9
 go_wp2
 go_loopw [5, 6, 7] (fun v fv cv wr => ∃ f c : Nat, f ≤ t.size ∧ c < 999983 ∧ fv = .int .i64 (f : Int) ∧ cv = .int .i64 (c : Int) ∧ Hid (RiTo w (recL 0 (linesR l)) l f c v wr)) (fun _ fv _ _ => t.size - (intOf fv).toNat)
 case atStart => exact ⟨0, 0, Nat.zero_le _, by decide, rfl, rfl, Lib.hid H0.out⟩
 case round =>
  obtain ⟨f, c, hf, hcc, rfl, rfl, HR⟩ := hrel
  clear H0
  obtain ⟨D, hDf, HRc, HO, HB⟩ := HR.out
  clear HR
  have hws := HB.out.size
  obtain ⟨A0, c0, e0, _⟩ := ownsRow_form HO.out
  subst e0
  have hfi : (f : Int) ≤ (t.size : Int) := by omega
  obtain ⟨T, hT⟩ : ∃ T, t.extract f t.size = T := ⟨_, rfl⟩
  have HTr : Hid (T.data.toList = l.drop f) := Lib.hid (by rw [← hT, HEx.out f hf, list_tx])
  have hTz : T.size ≤ 4000 := by have h1 := congrArg List.length HTr.out; rw [Array.length_toList, List.length_drop] at h1; have : T.data.size = T.size := rfl; have := HSZ.out; omega
  have HStop : Hid (recL c (linesR (l.drop f)) = ([], 0) → recL 0 (linesR l) = (D, f)) := Lib.hid fun h => by rw [HRc.out, h]; simp
  have HDone : Hid (∀ w', Below wr.heap.size wr w' → recL c (linesR (l.drop f)) = ([], 0) → RecRet t w (.returned (.tuple #[.slice A0 D.length c0, .int .i64 (f : Int), .bool true])) w') := Lib.hid fun w' hb h =>
   HY.out A0 c0 f D w' (HStop.out h) (ownsRow_below HO.out hb) (HB.out.trans (hb.mono hws))
  have hDr : ∀ n, Below wr.heap.size wr (wr.drewN n) := fun n => below_drewN (Below.refl _ _) n
  have HDr := Lib.hid hDr
  clear hDr
  rcases at_any (l.drop f) 10 with h10 | ⟨o, h10⟩
  ·have HZ : Hid (recL c (linesR (l.drop f)) = ([], 0)) := Lib.hid (by rw [linesR_no h10]; rfl)
   have HC1 := Lib.hid (fun w => cut_no T 10 w (by rw [HTr.out]; exact h10))
   rcases at_any (l.drop f) 32 with h32 | ⟨p, h32⟩
   ·have HC2 := Lib.hid (fun w => cut_no T 32 w (by rw [HTr.out]; exact h32))
    have HCk := Lib.hid (fun w => checkOf_any c { data := #[] } w hcc (by decide))
    clear h10 h32
    generalize chk c { data := #[] } = c2 at *
    go_wp2_with fail
    refine (HC1.out _).mono ?_
    rintro e w' ⟨rfl, rfl⟩
    go_wp2_with fail
    refine (HC2.out _).mono ?_
    rintro e w' ⟨rfl, rfl⟩
    go_wp2_with fail
    refine (HCk.out _).mono ?_
    rintro e w' ⟨rfl, rfl⟩
    go_wp2
    go_ret3
    exact HDone.out _ (Below.refl _ _) HZ.out
   ·have HC2 := Lib.hid (fun w => cut_yes T 32 p w (by rw [HTr.out]; exact h32) (by omega))
    obtain ⟨ln, hln⟩ : ∃ ln, tx (T.data.toList.drop (p + 1)) = ln := ⟨_, rfl⟩
    rw [hln] at HC2
    have hlz : ln.size ≤ 4000 := by have h1 := size_tx (T.data.toList.drop (p + 1)); rw [hln, List.length_drop, Array.length_toList] at h1; have : T.data.size = T.size := rfl; omega
    generalize tx (T.data.toList.take p) = hd at *
    have HCk := Lib.hid (fun w => checkOf_any c ln w hcc (by omega))
    clear h10 h32 hln
    generalize chk c ln = c2 at *
    go_wp2_with fail
    refine (HC1.out _).mono ?_
    rintro e w' ⟨rfl, rfl⟩
    go_wp2_with fail
    refine (HC2.out _).mono ?_
    rintro e w' ⟨rfl, k2, rfl⟩
    go_wp2_with fail
    refine (HCk.out _).mono ?_
    rintro e w' ⟨rfl, rfl⟩
    go_wp2
    go_ret3
    exact HDone.out _ (HDr.out _) HZ.out
  ·have hol := at_len h10
   have HC1 := Lib.hid (fun w => cut_yes T 10 o w (by rw [HTr.out]; exact h10) (by omega))
   have HLy := Lib.hid (linesR_yes h10)
   obtain ⟨E, hE⟩ : ∃ E, tx (T.data.toList.take o) = E := ⟨_, rfl⟩
   rw [hE] at HC1
   generalize tx (T.data.toList.drop (o + 1)) = rs at *
   obtain ⟨e, he⟩ : ∃ e, (l.drop f).take o = e := ⟨_, rfl⟩
   have HEd : Hid (E.data.toList = e) := Lib.hid (by rw [← hE, list_tx, HTr.out, he])
   have hel : e.length = o := by rw [← he, List.length_take]; omega
   have hEz : E.size = o := by have h1 := congrArg List.length HEd.out; rw [Array.length_toList] at h1; have : E.data.size = E.size := rfl; omega
   rw [he] at HLy
   have hfo : f + (o + 1) ≤ t.size := by rw [List.length_drop] at hol; have := HSZ.out; omega
   have HEl := Lib.hid hel
   have ho4 : o ≤ 4000 := by omega
   have HEz := Lib.hid hEz
   clear hE he hel h10 hol hT
   have hT : t.extract f t.size = T := by
    have := HEx.out f hf
    rw [this, ← HTr.out, tx_list]
   rcases at_any e 32 with h32 | ⟨p, h32⟩
   ·have HC2 := Lib.hid (fun w => cut_no E 32 w (by rw [HEd.out]; exact h32))
    have HZ : Hid (recL c (linesR (l.drop f)) = ([], 0)) := Lib.hid (by rw [HLy.out]; exact recL_no h32)
    have HCk := Lib.hid (fun w => checkOf_any c { data := #[] } w hcc (by decide))
    clear h32 hEz
    generalize chk c { data := #[] } = c2 at *
    go_wp2_with fail
    refine (HC1.out _).mono ?_
    rintro e w' ⟨rfl, k1, rfl⟩
    go_wp2_with fail
    refine (HC2.out _).mono ?_
    rintro e w' ⟨rfl, rfl⟩
    go_wp2_with fail
    refine (HCk.out _).mono ?_
    rintro e w' ⟨rfl, rfl⟩
    go_wp2
    go_ret3
    exact HDone.out _ (HDr.out _) HZ.out
   ·have HC2 := Lib.hid (fun w => cut_yes E 32 p w (by rw [HEd.out]; exact h32) (by omega))
    have HCe := Lib.hid (cut_eq h32)
    have hpl := at_len h32
    have H32 := Lib.hid h32
    obtain ⟨ln, hln⟩ : ∃ ln, tx (E.data.toList.drop (p + 1)) = ln := ⟨_, rfl⟩
    rw [hln] at HC2
    have HLd : Hid (ln = tx (e.drop (p + 1))) := Lib.hid (by rw [← hln, HEd.out])
    have hlz : ln.size ≤ 4000 := by have h1 := size_tx (e.drop (p + 1)); rw [← HLd.out, List.length_drop] at h1; have := HEl.out; omega
    generalize tx (E.data.toList.take p) = hd at *
    obtain ⟨c2, hc2⟩ : ∃ c2, chk c ln = c2 := ⟨_, rfl⟩
    have hc2b : c2 < 999983 := by rw [← hc2]; exact chk_lt hcc ln
    have HCk := Lib.hid (fun w => checkOf_any c ln w hcc (by omega))
    rw [hc2] at HCk
    have HC2c : Hid (chkL c (e.drop (p + 1)) = c2) := Lib.hid (by rw [chkL, ← HLd.out, hc2])
    have HDc : Hid (∀ k, Calls Tryd.prog 21 #[.int .i64 (c2 : Int)] (wr.drewN k) fun e w' => e = .returned (.string (tx (Lib.decDigits c2))) ∧ Below (wr.drewN k).heap.size (wr.drewN k) w') := Lib.hid fun k => decimal_any c2 (by omega) w.heap.size _ (HP.out.on (HB.out.trans ((HDr.out k).mono hws))) hws
    have hdl := dec_len (u := c2) (by omega)
    obtain ⟨d, hdd⟩ : ∃ d, tx (Lib.decDigits c2) = d := ⟨_, rfl⟩
    have hdz : d.size ≤ 6 := by rw [← hdd, size_tx]; exact hdl.2
    rw [hdd] at HDc
    obtain ⟨a1, h1⟩ : ∃ a, d ++ (ByteArray.mk #[32]) = a := ⟨_, rfl⟩
    obtain ⟨a2, h2⟩ : ∃ a, a1 ++ ln = a := ⟨_, rfl⟩
    have z1 : a1.size ≤ 7 := by rw [← h1, ByteArray.size_append]; show d.size + 1 ≤ 7; omega
    have r1 := strAdd h1 (by show d.size + 1 ≤ _; omega)
    have r2 := strAdd h2 (by omega)
    have HA2 : Hid (a2.data.toList = Lib.decDigits c2 ++ ([32] ++ e.drop (p + 1))) := Lib.hid (by rw [← h2, ← h1, ← hdd, HLd.out]; simp)
    clear h32 hln hc2 hdd hdl h1 h2 hEz
    by_cases hk : Lib.decDigits c2 = e.take p
    ·have ha : a2 = E := tx_ext (by rw [HA2.out, HEd.out, hk]; exact HCe.out.symm)
     have hbe : (E.toList == E.toList) = true := by simp
     subst ha
     have HNx : Hid (∀ v' w3, w3.ownsRow w.heap.size 9 1 v' (D.length + 1) (texts (txs D) ++ [.string ln]) → Below w.heap.size w w3 → RiTo w (recL 0 (linesR l)) l (f + (o + 1)) c2 v' w3) := Lib.hid fun v' w3 q1 q2 => by
      rw [HLd.out] at q1
      refine ⟨D ++ [e.drop (p + 1)], by simp; omega, Lib.hid ?_, Lib.hid (own_txt q1), Lib.hid q2⟩
      rw [HRc.out, HLy.out, recL_yes H32.out (by rw [HC2c.out]; exact hk), HC2c.out, List.drop_drop]
      have := HEl.out
      simp
      omega
     obtain ⟨f1, hf1⟩ : ∃ f1, f + (o + 1) = f1 := ⟨_, rfl⟩
     have hcast : (f : Int) + ((a2.size : Int) + 1) = (f1 : Int) := by have := HEz.out; omega
     rw [hf1] at HNx hfo
     have hff : f < f1 := by omega
     clear hf1
     go_wp2_with fail
     refine (HC1.out _).mono ?_
     rintro e w' ⟨rfl, k1, rfl⟩
     go_wp2_with fail
     refine (HC2.out _).mono ?_
     rintro e w' ⟨rfl, k2, rfl⟩
     go_wp2_with fail
     refine (HCk.out _).mono ?_
     rintro e w' ⟨rfl, rfl⟩
     go_wp2_with fail
     refine (HDc.out _).mono ?_
     rintro e w5 ⟨rfl, hb5⟩
     have HB5 : Hid (Below wr.heap.size wr w5) := Lib.hid ((HDr.out _).trans hb5)
     have HBq := Lib.hid (HB.out.trans (HB5.out.mono hws))
     have HOq := Lib.hid (ownsRow_below HO.out HB5.out)
     have hwq := HBq.out.size
     have HW := Lib.hid (World.ownsRow.alloc HOq.out (.cells #[.string ln] 9))
     clear hb5
     go_wp2_with (at_builtin; refine wpList_append_own_at _ rfl (.tmp 53) (.tmp 55) 24 rfl w.heap.size 9 ix (.string ByteArray.empty) 1 16 Tryd.underlying24 hix xz0 xz1 xz2 rfl (by decide) _ _ _ rfl HW.out ⟨w5.heap.size, 0, none⟩ 1 1 [.string ln] rfl rfl ?p1a ?p2a ?p3a ?p4a ?p5a ?_)
     try case p1a => exact news_one _ _ _ (by simp)
     try case p2a => first | rfl | (intro u hu; simp at hu; subst hu; rfl)
     try case p3a => first | (simp only [maxLen]; omega) | omega
     try case p4a => omega
     try case p5a => first | (simp only [World.size_alloc]; omega) | omega
     intro v' w3 hown' hg' _ he
     have HN2 := Lib.hid (HNx.out v' w3 hown' (grow_below HOq.out HBq.out hg'))
     clear hown' hg' he
     go_wp2_with fail
     go_roundw
     case rel => exact ⟨f1, c2, hfo, hc2b, rfl, rfl, Lib.hid HN2.out⟩
     case measure => simp [intOf]; omega
    ·have hbe : (a2.toList == E.toList) = false := by
      have hA := HA2.out
      have hE := HEd.out
      have hC := HCe.out
      simp only [beq_eq_false_iff_ne, ne_eq, Lib.toList_data]
      intro h
      have h3 : Lib.decDigits c2 ++ ([32] ++ e.drop (p + 1)) = e.take p ++ ([32] ++ e.drop (p + 1)) := hA.symm.trans (h.trans (hE.trans hC))
      have hl := congrArg List.length h3
      simp only [List.length_append] at hl
      exact hk (List.append_inj_left h3 (by omega))
     have HZ : Hid (recL c (linesR (l.drop f)) = ([], 0)) := Lib.hid (by rw [HLy.out]; exact recL_bad H32.out (by rw [HC2c.out]; exact hk))
     go_wp2_with fail
     refine (HC1.out _).mono ?_
     rintro e w' ⟨rfl, k1, rfl⟩
     go_wp2_with fail
     refine (HC2.out _).mono ?_
     rintro e w' ⟨rfl, k2, rfl⟩
     go_wp2_with fail
     refine (HCk.out _).mono ?_
     rintro e w' ⟨rfl, rfl⟩
     go_wp2_with fail
     refine (HDc.out _).mono ?_
     rintro e w5 ⟨rfl, hb5⟩
     go_wp2
     go_ret3
     exact HDone.out _ ((HDr.out _).trans hb5) HZ.out
end Go.Proofs.YtpjepheiagllgaaDoor.RecJ
namespace Go.Proofs.YtpjepheiagllgaaDoor.JrnM
open Go.RowKit Go.Proofs.YtpjepheiagllgaaDoor Go.Proofs.YtpjepheiagllgaaDoor.Base Go.Proofs.YtpjepheiagllgaaDoor.Mem Go.Proofs.YtpjepheiagllgaaDoor.Dec Go.Proofs.YtpjepheiagllgaaDoor.LabM Go.Proofs.YtpjepheiagllgaaDoor.Jour Go.Proofs.YtpjepheiagllgaaDoor.RecJ Go.Proofs.YtpjepheiagllgaaDoor.JnM Go.Proofs.YtpjepheiagllgaaDoor.LabD
set_option linter.unusedVariables false
def third (zs : List Int) : Int := if zs.length ≤ 2 then 85 else zs.getD 2 0 % 256
theorem third_in (zs : List Int) : 0 ≤ third zs ∧ third zs < 256 := by unfold third; split <;> omega
theorem b10At_third (A : Option Addr) (c B : Nat) (zs : List Int) (w : World) (hz : ∀ z ∈ zs, 0 ≤ z ∧ z ≤ 255) (hl : zs.length ≤ 9223372036854775807) (hr : RdB w B A zs) :
  Calls Tryd.prog 8 #[.slice A zs.length c, .int .i64 2, .int .i64 256] w fun e w' => e = .returned (.int .i64 (third zs)) ∧ w = w' := by
 by_cases h2 : (zs.length : Int) ≤ 2
 ·have ht : third zs = 85 := if_pos (by omega)
  rw [ht]
  clear hr hz
  go_enter Tryd.func8, Tryd.ntmps8
  go_wp2
  go_ret
  exact ⟨rfl, rfl⟩
 ·have h3 : 2 < zs.length := by omega
  have ht : third zs = zs.getD 2 0 % 256 := if_neg (by omega)
  rw [ht]
  obtain ⟨b, off, rfl, _, hc⟩ := hr (by omega)
  have g := hc 2 h3
  obtain ⟨m1, m2⟩ := hz (zs.getD 2 0) (by simp [List.getD, h3])
  clear hc hr hz ht
  generalize zs.getD 2 0 = z at *
  have hq0 : 0 ≤ z % 256 := Int.emod_nonneg _ (by omega)
  have hq1 : z % 256 < 256 := Int.emod_lt_of_pos _ (by omega)
  go_enter Tryd.func8, Tryd.ntmps8
  go_wp2
  go_ret
  exact ⟨rfl, rfl⟩
theorem cnt_byte {J : List UInt8} {i x : Nat} (h : J[i]? = some (UInt8.ofNat x)) (hx : x < 256) : cntL (J.take (i + 1)) = cntL (J.take i) + (if x = 10 then 1 else 0) := by
 obtain ⟨hi, e⟩ := List.getElem?_eq_some_iff.1 h
 rw [cnt_snoc J i hi, e]
 by_cases h10 : x = 10
 ·subst h10; rfl
 ·rw [if_neg h10, if_neg]
  intro h
  have := congrArg UInt8.toNat h
  simp at this
  omega
def NewU (x : Int) (v : Value) (w : World) : Prop := ∃ g, v = .slice (some ⟨g, 0, none⟩) 1 1 ∧ w.heap[g]? = some (.cells #[.int .u8 x] 5 (0, 0))
theorem newU_mono (x : Int) : Rel.Mono (NewU x) := fun v w w' ⟨g, e, h⟩ hb => ⟨g, e, (hb.block g (Array.getElem?_eq_some_iff.1 h).1).trans h⟩
theorem newU_new (x : Int) (w : World) : NewU x (.slice (some ⟨w.heap.size, 0, none⟩) 1 1) (w.alloc (.cells #[.int .u8 x] 5)) ∧ Below w.heap.size w (w.alloc (.cells #[.int .u8 x] 5)) :=
 ⟨⟨_, rfl, Blk.Blk.new w 5 #[.int .u8 x]⟩, (Below.refl _ _).alloc (Nat.le_refl _) _⟩
theorem newU_conv (x : Int) (h0 : 0 ≤ x) (h1 : x < 256) {w : World} {g : Nat} (h : w.heap[g]? = some (.cells #[.int .u8 x] 5 (0, 0))) :
  (convert 22 9 (.slice (some ⟨g, 0, none⟩) 1 1)).run Tryd.prog w = .ok (.string (tx [UInt8.ofNat x.toNat])) w := by
 refine run_convert_bytes_back w 22 9 5 ⟨g, 0, none⟩ 1 [UInt8.ofNat x.toNat] Tryd.underlying22 Tryd.underlying5 Tryd.underlying9 ?_
 intro j hj
 obtain rfl : j = 0 := by simp at hj; omega
 show w.cell? ⟨g, 0, none⟩ = _
 rw [Lib.cell_of_heap h]
 simp
 try omega
def RecA (w : World) (ls : List ByteArray) (k n : Nat) (e : Ending) (w' : World) : Prop := ∃ (A : Option Addr) (c : Nat), e = .returned (.tuple #[.slice A k c, .int .i64 (n : Int), .bool true]) ∧ RdT w' w'.heap.size A ls ∧ Below w.heap.size w w'
theorem rec_a {l : List UInt8} (hl : l.length ≤ 4000) {w : World} (hp : Pow w.heap.size w) : Calls Tryd.prog 9 #[.string (tx l)] w (RecA w (txs (recO (tx l)).1) (recO (tx l)).1.length (recO (tx l)).2) := by
 refine (implRec_any (tx l) (by rw [size_tx]; omega) w hp).mono fun e w' ⟨A, c, he, ho, hb⟩ => ⟨A, c, ?_, ho.rd, hb⟩
 rw [he, decide_eq_true (by rw [size_tx]; exact hl)]
theorem jour_a {A : Option Addr} {c B : Nat} {ss : List ByteArray} {l : List UInt8} {w : World} (hp : Pow w.heap.size w) (hx : RdT w B A ss) (hB : B ≤ w.heap.size) (hl : ss.length ≤ 1048576) (hs : ∀ i, i < ss.length → (getT ss i).size ≤ 1048576) (hb : jourB ss = true) (hr : jourR ss = l) :
  Calls Tryd.prog 7 #[.slice A ss.length c] w fun e w' => e = .returned (.tuple #[.string (tx l), .bool true]) ∧ Below w.heap.size w w' := by
 refine (implJour_any A c B ss w hp hx hB hl hs).mono fun e w' h => ⟨?_, h.2⟩
 rw [h.1, hb, hr]
theorem sumJ_self (ss : List ByteArray) : ∀ n, n ≤ sumJ ss n
 | 0 => Nat.zero_le _
 | n + 1 => by have := sumJ_self ss n; rw [sumJ]; omega
theorem rec_small (l : List UInt8) (h : l.length ≤ 4000) : (txs (recO (tx l)).1).length ≤ 1048576 ∧ ∀ i, i < (txs (recO (tx l)).1).length → (getT (txs (recO (tx l)).1) i).size ≤ 1048576 := by
 obtain ⟨h1, h2, h3⟩ := rec_back l h
 obtain ⟨n, hn⟩ : ∃ n, n = (txs (recO (tx l)).1).length := ⟨_, rfl⟩
 generalize txs (recO (tx l)).1 = ss at *
 have h4 : jourR ss = jourTo ss ss.length := by rw [jourR, if_pos h1]
 have h5 : (jourTo ss ss.length).length ≤ 4000 := by rw [← h4, h2, List.length_take]; omega
 have h6 := jourTo_len ss ss.length
 refine ⟨by have := sumJ_self ss ss.length; omega, fun i hi => ?_⟩
 have := sumJ_mono ss (i := i + 1) ss.length hi
 rw [sumJ] at this
 omega
end Go.Proofs.YtpjepheiagllgaaDoor.JrnM

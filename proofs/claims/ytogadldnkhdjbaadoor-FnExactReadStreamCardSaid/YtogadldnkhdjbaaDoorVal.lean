/- A number read from its decimal text: the reference and the program. -/
import Derived.Test.YtogadldnkhdjbaaDoorDecN
import Derived.Shelf.Strconv.ParseIntPublic10
namespace Go.Proofs
open Go.Shelf
def YtogadldnkhdjbaaDoor.lays174_ren : Go.Shelf.Ren := ⟨fun | 174 => 60 | 247 => 85 | 245 => 86 | 287 => 107 | 279 => 108 | 280 => 109 | 281 => 110 | 282 => 111 | 321 => 120 | 322 => 121 | 316 => 122 | 171 => 124 | 205 => 123 | 243 => 126 | 246 => 53 | 283 => 74 | 284 => 75 | 285 => 76 | 286 => 77 | 129 => 93 | 317 => 92 | 318 => 94 | 319 => 95 | 320 => 96 | 337 => 115 | 338 => 116 | n => n, fun | 9 => 9 | 3 => 3 | 2 => 2 | 75 => 64 | 85 => 103 | 4 => 4 | 167 => 150 | 5 => 5 | 53 => 89 | 175 => 151 | 46 => 106 | 168 => 153 | 37 => 22 | 0 => 0 | 210 => 163 | 21 => 21 | 127 => 99 | 145 => 173 | 143 => 171 | 171 => 120 | 173 => 123 | 212 => 138 | 51 => 139 | 20 => 20 | 213 => 140 | 232 => 165 | 233 => 166 | 80 => 70 | n => n, fun | 15 => 2 | 16 => 3 | 17 => 0 | 18 => 4 | 19 => 5 | n => n⟩
theorem YtogadldnkhdjbaaDoor.lays174 : Go.Proofs.LaysC.n174 Tryd.prog YtogadldnkhdjbaaDoor.lays174_ren := {
  mixed := by kernel_rfl
  f129 := Tryd.func93.trans (congrArg some (by kernel_rfl))
  f171 := Tryd.func124.trans (congrArg some (by kernel_rfl))
  f174 := Tryd.func60.trans (congrArg some (by kernel_rfl))
  f205 := Tryd.func123.trans (congrArg some (by kernel_rfl))
  f243 := Tryd.func126.trans (congrArg some (by kernel_rfl))
  f245 := Tryd.func86.trans (congrArg some (by kernel_rfl))
  f246 := Tryd.func53.trans (congrArg some (by kernel_rfl))
  f247 := Tryd.func85.trans (congrArg some (by kernel_rfl))
  f279 := Tryd.func108.trans (congrArg some (by kernel_rfl))
  f280 := Tryd.func109.trans (congrArg some (by kernel_rfl))
  f281 := Tryd.func110.trans (congrArg some (by kernel_rfl))
  f282 := Tryd.func111.trans (congrArg some (by kernel_rfl))
  f283 := Tryd.func74.trans (congrArg some (by kernel_rfl))
  f284 := Tryd.func75.trans (congrArg some (by kernel_rfl))
  f285 := Tryd.func76.trans (congrArg some (by kernel_rfl))
  f286 := Tryd.func77.trans (congrArg some (by kernel_rfl))
  f287 := Tryd.func107.trans (congrArg some (by kernel_rfl))
  f316 := Tryd.func122.trans (congrArg some (by kernel_rfl))
  f317 := Tryd.func92.trans (congrArg some (by kernel_rfl))
  f318 := Tryd.func94.trans (congrArg some (by kernel_rfl))
  f319 := Tryd.func95.trans (congrArg some (by kernel_rfl))
  f320 := Tryd.func96.trans (congrArg some (by kernel_rfl))
  f321 := Tryd.func120.trans (congrArg some (by kernel_rfl))
  f322 := Tryd.func121.trans (congrArg some (by kernel_rfl))
  f337 := Tryd.func115.trans (congrArg some (by kernel_rfl))
  f338 := Tryd.func116.trans (congrArg some (by kernel_rfl))
  t0 := Tryd.underlying0
  a0 := Tryd.isAgg0
  z0 := Tryd.sizeOf0
  v0 := Tryd.zeroValue0
  t2 := Tryd.underlying2
  a2 := Tryd.isAgg2
  z2 := Tryd.sizeOf2
  v2 := Tryd.zeroValue2
  t3 := Tryd.underlying3
  a3 := Tryd.isAgg3
  z3 := Tryd.sizeOf3
  v3 := Tryd.zeroValue3
  t4 := Tryd.underlying4
  a4 := Tryd.isAgg4
  z4 := Tryd.sizeOf4
  v4 := Tryd.zeroValue4
  t5 := Tryd.underlying5
  a5 := Tryd.isAgg5
  z5 := Tryd.sizeOf5
  v5 := Tryd.zeroValue5
  t9 := Tryd.underlying9
  a9 := Tryd.isAgg9
  z9 := Tryd.sizeOf9
  v9 := Tryd.zeroValue9
  t20 := Tryd.underlying20
  a20 := Tryd.isAgg20
  z20 := Tryd.sizeOf20
  v20 := Tryd.zeroValue20
  t21 := Tryd.underlying21
  a21 := Tryd.isAgg21
  z21 := Tryd.sizeOf21
  v21 := Tryd.zeroValue21
  t37 := Tryd.underlying22
  a37 := Tryd.isAgg22
  z37 := Tryd.sizeOf22
  v37 := Tryd.zeroValue22
  t46 := Tryd.underlying106
  a46 := Tryd.isAgg106
  z46 := Tryd.sizeOf106
  v46 := Tryd.zeroValue106
  t51 := Tryd.underlying139
  a51 := Tryd.isAgg139
  z51 := Tryd.sizeOf139
  v51 := Tryd.zeroValue139
  t53 := Tryd.underlying89
  a53 := Tryd.isAgg89
  z53 := Tryd.sizeOf89
  v53 := Tryd.zeroValue89
  t75 := Tryd.underlying64
  a75 := Tryd.isAgg64
  z75 := Tryd.sizeOf64
  v75 := Tryd.zeroValue64
  t85 := Tryd.underlying103
  a85 := Tryd.isAgg103
  z85 := Tryd.sizeOf103
  v85 := Tryd.zeroValue103
  t127 := Tryd.underlying99
  a127 := Tryd.isAgg99
  z127 := Tryd.sizeOf99
  v127 := Tryd.zeroValue99
  t143 := Tryd.underlying171
  a143 := Tryd.isAgg171
  z143 := Tryd.sizeOf171
  v143 := Tryd.zeroValue171
  t145 := Tryd.underlying173
  a145 := Tryd.isAgg173
  z145 := Tryd.sizeOf173
  v145 := Tryd.zeroValue173
  t167 := Tryd.underlying150
  a167 := Tryd.isAgg150
  z167 := Tryd.sizeOf150
  v167 := Tryd.zeroValue150
  t168 := Tryd.underlying153
  a168 := Tryd.isAgg153
  z168 := Tryd.sizeOf153
  v168 := Tryd.zeroValue153
  t171 := Tryd.underlying120
  a171 := Tryd.isAgg120
  z171 := Tryd.sizeOf120
  v171 := Tryd.zeroValue120
  t173 := Tryd.underlying123
  a173 := Tryd.isAgg123
  z173 := Tryd.sizeOf123
  v173 := Tryd.zeroValue123
  t175 := Tryd.underlying151
  a175 := Tryd.isAgg151
  z175 := Tryd.sizeOf151
  v175 := Tryd.zeroValue151
  t210 := Tryd.underlying163
  a210 := Tryd.isAgg163
  z210 := Tryd.sizeOf163
  v210 := Tryd.zeroValue163
  t212 := Tryd.underlying138
  a212 := Tryd.isAgg138
  z212 := Tryd.sizeOf138
  v212 := Tryd.zeroValue138
  t213 := Tryd.underlying140
  a213 := Tryd.isAgg140
  z213 := Tryd.sizeOf140
  t232 := Tryd.underlying165
  a232 := Tryd.isAgg165
  z232 := Tryd.sizeOf165
  v232 := Tryd.zeroValue165
  t233 := Tryd.underlying166
  a233 := Tryd.isAgg166
  z233 := Tryd.sizeOf166
  v233 := Tryd.zeroValue166
  g15 := by kernel_rfl
  g16 := by kernel_rfl
  g17 := by kernel_rfl
  g18 := by kernel_rfl
  g19 := by kernel_rfl
  t80 := Tryd.underlying70
  a80 := Tryd.isAgg70
  z80 := Tryd.sizeOf70
  v80 := Tryd.zeroValue70
  i0 := by kernel_rfl
  i2 := by kernel_rfl
  i3 := by kernel_rfl
  i4 := by kernel_rfl
  i5 := by kernel_rfl
  i9 := by kernel_rfl
  i20 := by kernel_rfl
  i21 := by kernel_rfl
  i37 := by kernel_rfl
  i46 := by kernel_rfl
  i51 := by kernel_rfl
  i53 := by kernel_rfl
  i75 := by kernel_rfl
  i80 := by kernel_rfl
  i85 := by kernel_rfl
  i127 := by kernel_rfl
  i143 := by kernel_rfl
  i145 := by kernel_rfl
  i167 := by kernel_rfl
  i168 := by kernel_rfl
  i171 := by kernel_rfl
  i173 := by kernel_rfl
  i175 := by kernel_rfl
  i210 := by kernel_rfl
  i212 := by kernel_rfl
  i232 := by kernel_rfl
  i233 := by kernel_rfl
  m15 := by kernel_rfl
  m16 := by kernel_rfl
  m17 := by kernel_rfl
  m18 := by kernel_rfl
  m19 := by kernel_rfl
  c0 := by kernel_rfl
  c2 := by kernel_rfl
  c3 := by kernel_rfl
  c4 := by kernel_rfl
  c5 := by kernel_rfl
  c9 := by kernel_rfl
  c20 := by kernel_rfl
  c21 := by kernel_rfl
  c37 := by kernel_rfl
  c46 := by kernel_rfl
  c51 := by kernel_rfl
  c53 := by kernel_rfl
  c75 := by kernel_rfl
  c80 := by kernel_rfl
  c85 := by kernel_rfl
  c127 := by kernel_rfl
  c143 := by kernel_rfl
  c145 := by kernel_rfl
  c167 := by kernel_rfl
  c168 := by kernel_rfl
  c171 := by kernel_rfl
  c173 := by kernel_rfl
  c175 := by kernel_rfl
  c210 := by kernel_rfl
  c212 := by kernel_rfl
  c213 := by kernel_rfl
  c232 := by kernel_rfl
  c233 := by kernel_rfl }
end Go.Proofs
namespace Go.Proofs.YtogadldnkhdjbaaDoor.Val
open Go.RowKit Go.Proofs.YtogadldnkhdjbaaDoor Go.Proofs.YtogadldnkhdjbaaDoor.Base Go.Proofs.YtogadldnkhdjbaaDoor.Mem Go.Proofs.YtogadldnkhdjbaaDoor.Dec
set_option linter.unusedVariables false
/-! ### Plain -/
def foldD (a : Nat) (l : List UInt8) : Nat := l.foldl (fun a c => a * 10 + (c.toNat - 48)) a
def digs (l : List UInt8) : Prop := ∀ c ∈ l, 48 ≤ c.toNat ∧ c.toNat ≤ 57
theorem foldD_ge : ∀ (l : List UInt8) (a : Nat), a ≤ foldD a l
  | [], a => Nat.le_refl _
  | c :: r, a => by
    have := foldD_ge r (a * 10 + (c.toNat - 48))
    show a ≤ foldD (a * 10 + (c.toNat - 48)) r
    omega
theorem foldD_app (a : Nat) (l m : List UInt8) : foldD a (l ++ m) = foldD (foldD a l) m := by simp [foldD, List.foldl_append]
theorem foldD_take (l : List UInt8) (k : Nat) : foldD 0 (l.take k) ≤ foldD 0 l := by
  conv => rhs; rw [← List.take_append_drop k l, foldD_app]
  exact foldD_ge _ _
theorem foldD_step {l : List UInt8} {k : Nat} (h : k < l.length) : foldD 0 (l.take (k + 1)) = foldD 0 (l.take k) * 10 + ((l[k]'h).toNat - 48) := by
  rw [List.take_add_one, List.getElem?_eq_getElem h, foldD_app]; rfl
theorem digs_dec : ∀ (u : Nat), digs (Lib.decDigits u) ∧ foldD 0 (Lib.decDigits u) = u := by
  intro u
  induction u using Nat.strongRecOn with
  | _ u ih =>
    rw [Lib.decDigits]
    by_cases h10 : u < 10
    · rw [dif_pos h10]
      refine ⟨fun c hc => ?_, ?_⟩
      · obtain rfl := List.mem_singleton.1 hc
        rw [byte_small (by omega)]; omega
      · show 0 * 10 + ((UInt8.ofNat (48 + u)).toNat - 48) = u
        rw [byte_small (by omega)]; omega
    · rw [dif_neg h10]
      obtain ⟨i1, i2⟩ := ih (u / 10) (by omega)
      refine ⟨fun c hc => ?_, ?_⟩
      · rcases List.mem_append.1 hc with h | h
        · exact i1 c h
        · obtain rfl := List.mem_singleton.1 h
          rw [byte_small (by omega)]; omega
      · rw [foldD_app, i2]
        show u / 10 * 10 + ((UInt8.ofNat (48 + u % 10)).toNat - 48) = u
        rw [byte_small (by omega)]; omega
theorem dec_ne (u : Nat) : 1 ≤ (Lib.decDigits u).length := by
  rw [Lib.decDigits_length]; exact Lib.nDigits_pos u
theorem dec_short {u : Nat} (h : u ≤ 1000000000000000000) : (Lib.decDigits u).length ≤ 19 := by
  by_cases h0 : u = 0
  · subst h0; rw [Lib.decDigits_one (by decide)]; simp
  · rw [← rd_rev u (by omega), List.length_reverse]
    exact rd_len 19 u (by omega)
theorem parseM_digs : ∀ (l : List UInt8) (a : Nat), digs l → foldD a l ≤ 1000000000000000000 → Lib.parseUintM (2 ^ 64 - 1) a l = .ok (foldD a l)
  | [], a, _, _ => rfl
  | c :: r, a, hd, hb => by
    have h1 := hd c List.mem_cons_self
    have h2 := foldD_ge r (a * 10 + (c.toNat - 48))
    have h3 : foldD a (c :: r) = foldD (a * 10 + (c.toNat - 48)) r := rfl
    rw [h3] at hb ⊢
    rw [Lib.parseUintM, if_pos h1, if_neg (by omega), if_neg (by omega)]
    exact parseM_digs r _ (fun x hx => hd x (List.mem_cons_of_mem _ hx)) hb
/-- a text is that of a number within the limits -/
def isVal (e : List UInt8) (v : Int) : Prop := Lib.itoa v = e ∧ -1000000000000000 ≤ v ∧ v ≤ 1000000000000000
theorem parse_val {e : List UInt8} {v : Int} (h : isVal e v) : Lib.parseIntB 64 e = .ok v := by
  obtain ⟨rfl, h1, h2⟩ := h
  by_cases hn : v < 0
  · obtain ⟨u, rfl⟩ : ∃ u : Nat, v = -(u : Int) := ⟨(-v).toNat, by omega⟩
    obtain ⟨d1, d2⟩ := digs_dec u
    have hne : Lib.decDigits u ≠ [] := fun h => by have := dec_ne u; rw [h] at this; simp at this
    rw [Lib.itoa_neg u (by omega), Lib.parseIntB_minus, Lib.parseUintB, if_neg hne, parseM_digs _ _ d1 (by rw [d2]; omega), d2, Lib.signedC, if_neg (by omega)]
  · obtain ⟨u, rfl⟩ := Int.eq_ofNat_of_zero_le (show 0 ≤ v by omega)
    obtain ⟨d1, d2⟩ := digs_dec u
    have hl := dec_ne u
    rw [show Lib.itoa ((u : Nat) : Int) = Lib.decDigits u from Lib.itoa_nonneg u]
    have hp := parseM_digs (Lib.decDigits u) 0 d1 (by rw [d2]; omega)
    rw [d2] at hp
    generalize Lib.decDigits u = l at *
    cases l with
    | nil => simp at hl
    | cons c r =>
      have hc := d1 c List.mem_cons_self
      rw [Lib.parseIntB_plain 64 c r (by omega) (by omega), Lib.parseUintB, if_neg (by simp), hp, Lib.signlessC, if_neg (by omega)]
theorem isVal_uniq {e : List UInt8} {v v' : Int} (h : isVal e v) (h' : isVal e v') : v = v' := by
  have := (parse_val h).symm.trans (parse_val h')
  injection this
/-- what a reading hands back -/
def ValRet (e : List UInt8) (w : World) (en : Ending) (w' : World) : Prop := ∃ (v : Int) (b : Bool), en = .returned (.tuple #[.int .i64 v, .bool b]) ∧ (b = true → isVal e v) ∧ (b = false → v = 0 ∧ ∀ v', ¬ isVal e v') ∧ Below w.heap.size w w'
noncomputable def valO (e : List UInt8) : Option Int := match Lib.parseIntB 64 e with
  | .ok v => if Lib.itoa v = e ∧ -1000000000000000 ≤ v ∧ v ≤ 1000000000000000 then some v else none
  | _ => none
theorem valO_yes {e : List UInt8} {v : Int} (h : isVal e v) : valO e = some v := by
  have hp := parse_val h
  rw [valO, hp]
  exact if_pos h
theorem valO_no {e : List UInt8} (h : ∀ v, ¬ isVal e v) : valO e = none := by
  unfold valO
  split
  · rename_i v _
    exact if_neg (h v)
  · rfl
/-! ### The program -/
/-- what a variable of the library's errors holds: an interface value -/
def Errs (B : Nat) (w : World) : Prop := ∃ e1 e2 : Value, YtogadldnkhdjbaaDoor.lays174_ren.g 15 < B ∧ YtogadldnkhdjbaaDoor.lays174_ren.g 16 < B ∧ w.cell? ⟨YtogadldnkhdjbaaDoor.lays174_ren.g 15, 0, none⟩ = some e1 ∧ w.cell? ⟨YtogadldnkhdjbaaDoor.lays174_ren.g 16, 0, none⟩ = some e2 ∧ (e1 = .nilIface ∨ ∃ te pe, e1 = .iface te pe) ∧ (e2 = .nilIface ∨ ∃ te pe, e2 = .iface te pe)
theorem Errs.on {B : Nat} {w w' : World} (h : Errs B w) (hb : Below B w w') : Errs B w' := by
  obtain ⟨e1, e2, h1, h2, h3, h4, h5, h6⟩ := h
  exact ⟨e1, e2, h1, h2, (hb.cell (p := ⟨_, 0, none⟩) h1).trans h3, (hb.cell (p := ⟨_, 0, none⟩) h2).trans h4, h5, h6⟩
set_option maxHeartbeats 2000000 in
set_option maxRecDepth 100000 in
theorem readDec_any (s : ByteArray) (hs : s.size ≤ 1048576) (B : Nat) (w : World) (hp : Pow B w) (he : Errs B w) (hB : B ≤ w.heap.size) : Calls Tryd.prog 35 #[.string s] w (ValRet s.data.toList w) := by
  obtain ⟨e1, e2, h1, h2, h3, h4, h5, h6⟩ := he
  rcases hP : Lib.parseIntB 64 s.data.toList with v | _ | _
  · skip
    have HC := Lib.hid (Any.strconv_ParseInt_10_at64_ok YtogadldnkhdjbaaDoor.lays174 s (by omega) v hP w)
    have hbd := Lib.parseIntB_bounds hP
    have HR := Lib.hid (fun w => inRange_any v (-1000000000000000) 1000000000000000 w)
    have HPw := Lib.hid hp
    have HPP := Lib.hid hP
    clear hP hp h1 h2 h3 h4 h5 h6
    by_cases hin : -1000000000000000 ≤ v ∧ v ≤ 1000000000000000
    · rw [inR_yes hin] at HR
      have HD := Lib.hid (fun (w1 : World) (hb : Below w.heap.size w w1) => decimalZ_any v (by omega) (by omega) B w1 (HPw.out.on (hb.mono hB)) (Nat.le_trans hB hb.size))
      go_enter Tryd.func35, Tryd.ntmps35
      go_wp2_with fail
      refine HC.out.mono ?_
      rintro e w1 ⟨rfl, hw⟩
      have hb1 : Below w.heap.size w w1 := by
        rcases hw with rfl | ⟨t, rfl⟩
        · exact Below.refl _ _
        · exact Lib.bytesWorld_below _ _ _
      have HB1 := Lib.hid hb1
      clear hw hb1
      go_wp2_with fail
      refine (HR.out _).mono ?_
      rintro e w' ⟨rfl, rfl⟩
      go_wp2_with fail
      refine (HD.out _ HB1.out).mono ?_
      rintro e w2 ⟨rfl, hb2⟩
      have HB2 := Lib.hid (Base.Below.nextA HB1.out hb2)
      clear hb2
      by_cases hq : Lib.itoa v = s.data.toList
      · have e1 : tx (Lib.itoa v) = s := by rw [hq]
        rw [e1]
        have HY : Hid (isVal s.data.toList v) := Lib.hid ⟨hq, hin⟩
        have hbe : (s.toList == s.toList) = true := by simp
        clear hq e1
        go_wp2
        go_ret2
        exact ⟨v, true, rfl, fun _ => HY.out, fun h => (by cases h), HB2.out⟩
      · have e1 : ((tx (Lib.itoa v)).toList == s.toList) = false := beq_eq_false_iff_ne.2 (fun h => hq (by rw [ByteArray.toList_eq, ByteArray.toList_eq, list_tx] at h; exact h))
        have HN : Hid (∀ v', ¬ isVal s.data.toList v') := Lib.hid fun v' h => by
          have := parse_val h
          rw [HPP.out] at this
          injection this with this
          subst this
          exact hq h.1
        clear hq
        generalize tx (Lib.itoa v) = d at *
        go_wp2
        go_ret2
        exact ⟨0, false, rfl, fun h => (by cases h), fun _ => ⟨rfl, HN.out⟩, HB2.out⟩
    · have hno : inR v (-1000000000000000) 1000000000000000 = false := by
        cases h : inR v (-1000000000000000) 1000000000000000 with
        | false => rfl
        | true => exact absurd (inR_true h) hin
      rw [hno] at HR
      have HN : Hid (∀ v', ¬ isVal s.data.toList v') := Lib.hid fun v' h => by
        have := parse_val h
        rw [HPP.out] at this
        injection this with this
        subst this
        exact hin h.2
      clear hno
      go_enter Tryd.func35, Tryd.ntmps35
      go_wp2_with fail
      refine HC.out.mono ?_
      rintro e w1 ⟨rfl, hw⟩
      have hb1 : Below w.heap.size w w1 := by
        rcases hw with rfl | ⟨t, rfl⟩
        · exact Below.refl _ _
        · exact Lib.bytesWorld_below _ _ _
      have HB1 := Lib.hid hb1
      clear hw hb1
      go_wp2_with fail
      refine (HR.out _).mono ?_
      rintro e w' ⟨rfl, rfl⟩
      go_wp2
      go_ret2
      exact ⟨0, false, rfl, fun h => (by cases h), fun _ => ⟨rfl, HN.out⟩, HB1.out⟩
  · skip
    have HC := Lib.hid (Any.strconv_ParseInt_10_at64_syntax YtogadldnkhdjbaaDoor.lays174 s (by omega) hP e1 w h3 h5)
    have HN : Hid (∀ v', ¬ isVal s.data.toList v') := Lib.hid fun v' h => by have := parse_val h; rw [hP] at this; cases this
    clear hP hp h1 h2 h3 h4
    go_enter Tryd.func35, Tryd.ntmps35
    go_wp2_with fail
    refine HC.out.mono ?_
    rintro e w' ⟨N, rfl, hN, _, hb⟩
    go_wp2
    go_ret2
    exact ⟨0, false, rfl, fun h => (by cases h), fun _ => ⟨rfl, HN.out⟩, hb⟩
  · skip
    have HC := Lib.hid (Any.strconv_ParseInt_10_at64_range YtogadldnkhdjbaaDoor.lays174 s (by omega) hP e2 w h4 h6)
    have HN : Hid (∀ v', ¬ isVal s.data.toList v') := Lib.hid fun v' h => by have := parse_val h; rw [hP] at this; cases this
    clear hP hp h1 h2 h3 h4
    go_enter Tryd.func35, Tryd.ntmps35
    go_wp2_with fail
    refine HC.out.mono ?_
    rintro e w' ⟨N, rfl, hN, _, hb⟩
    go_wp2
    go_ret2
    exact ⟨0, false, rfl, fun h => (by cases h), fun _ => ⟨rfl, HN.out⟩, hb⟩
end Go.Proofs.YtogadldnkhdjbaaDoor.Val

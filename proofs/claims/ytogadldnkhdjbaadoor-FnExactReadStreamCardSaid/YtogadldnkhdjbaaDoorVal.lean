/- A number read from its decimal text: the reference and the program. -/
import Derived.Test.YtogadldnkhdjbaaDoorDecN
import Derived.Shelf.Strconv.ParseIntPublic10
namespace Go.Proofs
open Go.Shelf
shelf_lay LaysC.n174 Nm 174 at Tryd as YtogadldnkhdjbaaDoor.lays174
end Go.Proofs
namespace Go.Proofs.YtogadldnkhdjbaaDoor.Val
open Go.RowKit Go.Proofs.YtogadldnkhdjbaaDoor Go.Proofs.YtogadldnkhdjbaaDoor.Base Go.Proofs.YtogadldnkhdjbaaDoor.Mem Go.Proofs.YtogadldnkhdjbaaDoor.Dec
set_option linter.unusedVariables false
/-! ### Plain -/
def foldD (a : Nat) (l : List UInt8) : Nat := l.foldl (fun a c => a * 10 + (c.toNat - 48)) a
def digs (l : List UInt8) : Prop := ∀ c ∈ l, 48 ≤ c.toNat ∧ c.toNat ≤ 57
theorem foldD_ge : ∀ (l : List UInt8) (a : Nat), a ≤ foldD a l
  | [], a => Nat.le_refl _
  | c :: r, a => by
    have := foldD_ge r (a * 10 + (c.toNat - 48))
    show a ≤ foldD (a * 10 + (c.toNat - 48)) r
    omega
theorem foldD_app (a : Nat) (l m : List UInt8) : foldD a (l ++ m) = foldD (foldD a l) m := by simp [foldD, List.foldl_append]
theorem foldD_take (l : List UInt8) (k : Nat) : foldD 0 (l.take k) ≤ foldD 0 l := by
  conv => rhs; rw [← List.take_append_drop k l, foldD_app]
  exact foldD_ge _ _
theorem foldD_step {l : List UInt8} {k : Nat} (h : k < l.length) : foldD 0 (l.take (k + 1)) = foldD 0 (l.take k) * 10 + ((l[k]'h).toNat - 48) := by
  rw [List.take_add_one, List.getElem?_eq_getElem h, foldD_app]; rfl
theorem digs_dec : ∀ (u : Nat), digs (Lib.decDigits u) ∧ foldD 0 (Lib.decDigits u) = u := by
  intro u
  induction u using Nat.strongRecOn with
  | _ u ih =>
    rw [Lib.decDigits]
    by_cases h10 : u < 10
    · rw [dif_pos h10]
      refine ⟨fun c hc => ?_, ?_⟩
      · obtain rfl := List.mem_singleton.1 hc
        rw [byte_small (by omega)]; omega
      · show 0 * 10 + ((UInt8.ofNat (48 + u)).toNat - 48) = u
        rw [byte_small (by omega)]; omega
    · rw [dif_neg h10]
      obtain ⟨i1, i2⟩ := ih (u / 10) (by omega)
      refine ⟨fun c hc => ?_, ?_⟩
      · rcases List.mem_append.1 hc with h | h
        · exact i1 c h
        · obtain rfl := List.mem_singleton.1 h
          rw [byte_small (by omega)]; omega
      · rw [foldD_app, i2]
        show u / 10 * 10 + ((UInt8.ofNat (48 + u % 10)).toNat - 48) = u
        rw [byte_small (by omega)]; omega
theorem dec_ne (u : Nat) : 1 ≤ (Lib.decDigits u).length := by
  rw [Lib.decDigits_length]; exact Lib.nDigits_pos u
theorem dec_short {u : Nat} (h : u ≤ 1000000000000000000) : (Lib.decDigits u).length ≤ 19 := by
  by_cases h0 : u = 0
  · subst h0; rw [Lib.decDigits_one (by decide)]; simp
  · rw [← rd_rev u (by omega), List.length_reverse]
    exact rd_len 19 u (by omega)
theorem parseM_digs : ∀ (l : List UInt8) (a : Nat), digs l → foldD a l ≤ 1000000000000000000 → Lib.parseUintM (2 ^ 64 - 1) a l = .ok (foldD a l)
  | [], a, _, _ => rfl
  | c :: r, a, hd, hb => by
    have h1 := hd c List.mem_cons_self
    have h2 := foldD_ge r (a * 10 + (c.toNat - 48))
    have h3 : foldD a (c :: r) = foldD (a * 10 + (c.toNat - 48)) r := rfl
    rw [h3] at hb ⊢
    rw [Lib.parseUintM, if_pos h1, if_neg (by omega), if_neg (by omega)]
    exact parseM_digs r _ (fun x hx => hd x (List.mem_cons_of_mem _ hx)) hb
/-- a text is that of a number within the limits -/
def isVal (e : List UInt8) (v : Int) : Prop := Lib.itoa v = e ∧ -1000000000000000 ≤ v ∧ v ≤ 1000000000000000
theorem parse_val {e : List UInt8} {v : Int} (h : isVal e v) : Lib.parseIntB 64 e = .ok v := by
  obtain ⟨rfl, h1, h2⟩ := h
  by_cases hn : v < 0
  · obtain ⟨u, rfl⟩ : ∃ u : Nat, v = -(u : Int) := ⟨(-v).toNat, by omega⟩
    obtain ⟨d1, d2⟩ := digs_dec u
    have hne : Lib.decDigits u ≠ [] := fun h => by have := dec_ne u; rw [h] at this; simp at this
    rw [Lib.itoa_neg u (by omega), Lib.parseIntB_minus, Lib.parseUintB, if_neg hne, parseM_digs _ _ d1 (by rw [d2]; omega), d2, Lib.signedC, if_neg (by omega)]
  · obtain ⟨u, rfl⟩ := Int.eq_ofNat_of_zero_le (show 0 ≤ v by omega)
    obtain ⟨d1, d2⟩ := digs_dec u
    have hl := dec_ne u
    rw [show Lib.itoa ((u : Nat) : Int) = Lib.decDigits u from Lib.itoa_nonneg u]
    have hp := parseM_digs (Lib.decDigits u) 0 d1 (by rw [d2]; omega)
    rw [d2] at hp
    generalize Lib.decDigits u = l at *
    cases l with
    | nil => simp at hl
    | cons c r =>
      have hc := d1 c List.mem_cons_self
      rw [Lib.parseIntB_plain 64 c r (by omega) (by omega), Lib.parseUintB, if_neg (by simp), hp, Lib.signlessC, if_neg (by omega)]
theorem isVal_uniq {e : List UInt8} {v v' : Int} (h : isVal e v) (h' : isVal e v') : v = v' := by
  have := (parse_val h).symm.trans (parse_val h')
  injection this
/-- what a reading hands back -/
def ValRet (e : List UInt8) (w : World) (en : Ending) (w' : World) : Prop := ∃ (v : Int) (b : Bool), en = .returned (.tuple #[.int .i64 v, .bool b]) ∧ (b = true → isVal e v) ∧ (b = false → v = 0 ∧ ∀ v', ¬ isVal e v') ∧ Below w.heap.size w w'
noncomputable def valO (e : List UInt8) : Option Int := match Lib.parseIntB 64 e with
  | .ok v => if Lib.itoa v = e ∧ -1000000000000000 ≤ v ∧ v ≤ 1000000000000000 then some v else none
  | _ => none
theorem valO_yes {e : List UInt8} {v : Int} (h : isVal e v) : valO e = some v := by
  have hp := parse_val h
  rw [valO, hp]
  exact if_pos h
theorem valO_no {e : List UInt8} (h : ∀ v, ¬ isVal e v) : valO e = none := by
  unfold valO
  split
  · rename_i v _
    exact if_neg (h v)
  · rfl
/-! ### The program -/
/-- what a variable of the library's errors holds: an interface value -/
def Errs (B : Nat) (w : World) : Prop := ∃ e1 e2 : Value, YtogadldnkhdjbaaDoor.lays174_ren.g 15 < B ∧ YtogadldnkhdjbaaDoor.lays174_ren.g 16 < B ∧ w.cell? ⟨YtogadldnkhdjbaaDoor.lays174_ren.g 15, 0, none⟩ = some e1 ∧ w.cell? ⟨YtogadldnkhdjbaaDoor.lays174_ren.g 16, 0, none⟩ = some e2 ∧ (e1 = .nilIface ∨ ∃ te pe, e1 = .iface te pe) ∧ (e2 = .nilIface ∨ ∃ te pe, e2 = .iface te pe)
theorem Errs.on {B : Nat} {w w' : World} (h : Errs B w) (hb : Below B w w') : Errs B w' := by
  obtain ⟨e1, e2, h1, h2, h3, h4, h5, h6⟩ := h
  exact ⟨e1, e2, h1, h2, (hb.cell (p := ⟨_, 0, none⟩) h1).trans h3, (hb.cell (p := ⟨_, 0, none⟩) h2).trans h4, h5, h6⟩
set_option maxHeartbeats 2000000 in
set_option maxRecDepth 100000 in
theorem readDec_any (s : ByteArray) (hs : s.size ≤ 1048576) (B : Nat) (w : World) (hp : Pow B w) (he : Errs B w) (hB : B ≤ w.heap.size) : Calls Tryd.prog 35 #[.string s] w (ValRet s.data.toList w) := by
  obtain ⟨e1, e2, h1, h2, h3, h4, h5, h6⟩ := he
  rcases hP : Lib.parseIntB 64 s.data.toList with v | _ | _
  · skip
    have HC := Lib.hid (Any.strconv_ParseInt_10_at64_ok YtogadldnkhdjbaaDoor.lays174 s (by omega) v hP w)
    have hbd := Lib.parseIntB_bounds hP
    have HR := Lib.hid (fun w => inRange_any v (-1000000000000000) 1000000000000000 w)
    have HPw := Lib.hid hp
    have HPP := Lib.hid hP
    clear hP hp h1 h2 h3 h4 h5 h6
    by_cases hin : -1000000000000000 ≤ v ∧ v ≤ 1000000000000000
    · rw [inR_yes hin] at HR
      have HD := Lib.hid (fun (w1 : World) (hb : Below w.heap.size w w1) => decimalZ_any v (by omega) (by omega) B w1 (HPw.out.on (hb.mono hB)) (Nat.le_trans hB hb.size))
      go_enter Tryd.func35, Tryd.ntmps35
      go_wp2_with fail
      refine HC.out.mono ?_
      rintro e w1 ⟨rfl, hw⟩
      have hb1 : Below w.heap.size w w1 := by
        rcases hw with rfl | ⟨t, rfl⟩
        · exact Below.refl _ _
        · exact Lib.bytesWorld_below _ _ _
      have HB1 := Lib.hid hb1
      clear hw hb1
      go_wp2_with fail
      refine (HR.out _).mono ?_
      rintro e w' ⟨rfl, rfl⟩
      go_wp2_with fail
      refine (HD.out _ HB1.out).mono ?_
      rintro e w2 ⟨rfl, hb2⟩
      have HB2 := Lib.hid (Base.Below.nextA HB1.out hb2)
      clear hb2
      by_cases hq : Lib.itoa v = s.data.toList
      · have e1 : tx (Lib.itoa v) = s := by rw [hq]
        rw [e1]
        have HY : Hid (isVal s.data.toList v) := Lib.hid ⟨hq, hin⟩
        have hbe : (s.toList == s.toList) = true := by simp
        clear hq e1
        go_wp2
        go_ret2
        exact ⟨v, true, rfl, fun _ => HY.out, fun h => (by cases h), HB2.out⟩
      · have e1 : ((tx (Lib.itoa v)).toList == s.toList) = false := beq_eq_false_iff_ne.2 (fun h => hq (by rw [ByteArray.toList_eq, ByteArray.toList_eq, list_tx] at h; exact h))
        have HN : Hid (∀ v', ¬ isVal s.data.toList v') := Lib.hid fun v' h => by
          have := parse_val h
          rw [HPP.out] at this
          injection this with this
          subst this
          exact hq h.1
        clear hq
        generalize tx (Lib.itoa v) = d at *
        go_wp2
        go_ret2
        exact ⟨0, false, rfl, fun h => (by cases h), fun _ => ⟨rfl, HN.out⟩, HB2.out⟩
    · have hno : inR v (-1000000000000000) 1000000000000000 = false := by
        cases h : inR v (-1000000000000000) 1000000000000000 with
        | false => rfl
        | true => exact absurd (inR_true h) hin
      rw [hno] at HR
      have HN : Hid (∀ v', ¬ isVal s.data.toList v') := Lib.hid fun v' h => by
        have := parse_val h
        rw [HPP.out] at this
        injection this with this
        subst this
        exact hin h.2
      clear hno
      go_enter Tryd.func35, Tryd.ntmps35
      go_wp2_with fail
      refine HC.out.mono ?_
      rintro e w1 ⟨rfl, hw⟩
      have hb1 : Below w.heap.size w w1 := by
        rcases hw with rfl | ⟨t, rfl⟩
        · exact Below.refl _ _
        · exact Lib.bytesWorld_below _ _ _
      have HB1 := Lib.hid hb1
      clear hw hb1
      go_wp2_with fail
      refine (HR.out _).mono ?_
      rintro e w' ⟨rfl, rfl⟩
      go_wp2
      go_ret2
      exact ⟨0, false, rfl, fun h => (by cases h), fun _ => ⟨rfl, HN.out⟩, HB1.out⟩
  · skip
    have HC := Lib.hid (Any.strconv_ParseInt_10_at64_syntax YtogadldnkhdjbaaDoor.lays174 s (by omega) hP e1 w h3 h5)
    have HN : Hid (∀ v', ¬ isVal s.data.toList v') := Lib.hid fun v' h => by have := parse_val h; rw [hP] at this; cases this
    clear hP hp h1 h2 h3 h4
    go_enter Tryd.func35, Tryd.ntmps35
    go_wp2_with fail
    refine HC.out.mono ?_
    rintro e w' ⟨N, rfl, hN, _, hb⟩
    go_wp2
    go_ret2
    exact ⟨0, false, rfl, fun h => (by cases h), fun _ => ⟨rfl, HN.out⟩, hb⟩
  · skip
    have HC := Lib.hid (Any.strconv_ParseInt_10_at64_range YtogadldnkhdjbaaDoor.lays174 s (by omega) hP e2 w h4 h6)
    have HN : Hid (∀ v', ¬ isVal s.data.toList v') := Lib.hid fun v' h => by have := parse_val h; rw [hP] at this; cases this
    clear hP hp h1 h2 h3 h4
    go_enter Tryd.func35, Tryd.ntmps35
    go_wp2_with fail
    refine HC.out.mono ?_
    rintro e w' ⟨N, rfl, hN, _, hb⟩
    go_wp2
    go_ret2
    exact ⟨0, false, rfl, fun h => (by cases h), fun _ => ⟨rfl, HN.out⟩, hb⟩
end Go.Proofs.YtogadldnkhdjbaaDoor.Val

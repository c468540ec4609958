/- A journal of lines that is cut or bent: what is recovered; plain lists of bytes. -/
import Derived.Test.YtpjepheiagllgaaDoorMgFnJ07
import Derived.Test.YtpjepheiagllgaaDoorMgFnJ03
import Derived.Lib.Builder
import Derived.StillTailTactics
import Derived.Test.YtpjepheiagllgaaDoorMgFnJ00
import Derived.StillTail
import Derived.Deep.Quiet
import Derived.Test.YtpjepheiagllgaaDoorMgFnJ04
import Derived.IntWalk
namespace Go.Proofs.YtpjepheiagllgaaDoor.JnM
open Go.RowKit Go.Proofs.YtpjepheiagllgaaDoor Go.Proofs.YtpjepheiagllgaaDoor.Base Go.Proofs.YtpjepheiagllgaaDoor.Mem Go.Proofs.YtpjepheiagllgaaDoor.Dec Go.Proofs.YtpjepheiagllgaaDoor.LabM Go.Proofs.YtpjepheiagllgaaDoor.Jour Go.Proofs.YtpjepheiagllgaaDoor.RecJ
set_option linter.unusedVariables false
def entL (c : Nat) (e : List UInt8) : List UInt8 := Lib.decDigits c ++ ([32] ++ e)
def jl : Nat → List (List UInt8) → List UInt8
 | _, [] => []
 | c, e :: r => entL (chkL c e) e ++ (10 :: jl (chkL c e) r)
def ckl : Nat → List (List UInt8) → Nat
 | c, [] => c
 | c, e :: r => ckl (chkL c e) r
theorem jl_snoc : ∀ (D : List (List UInt8)) (c : Nat) (e : List UInt8), jl c (D ++ [e]) = jl c D ++ (entL (chkL (ckl c D) e) e ++ [10])
 | [], c, e => by simp [jl, ckl]
 | d :: D, c, e => by simp only [List.cons_append, jl, ckl, jl_snoc D, List.append_assoc]
theorem ckl_snoc : ∀ (D : List (List UInt8)) (c : Nat) (e : List UInt8), ckl c (D ++ [e]) = chkL (ckl c D) e
 | [], c, e => rfl
 | d :: D, c, e => by simp only [List.cons_append, ckl, ckl_snoc D]
theorem take_snoc {D : List (List UInt8)} {i : Nat} (h : i < D.length) : D.take (i + 1) = D.take i ++ [D.getD i []] := by
 rw [List.take_add_one, List.getD_eq_getElem?_getD, List.getElem?_eq_getElem h]; rfl
theorem jour_jl (D : List (List UInt8)) : ∀ i, i ≤ D.length → jourTo (txs D) i = jl 0 (D.take i) ∧ ckTo (txs D) i = ckl 0 (D.take i)
 | 0, _ => ⟨rfl, rfl⟩
 | i + 1, h => by
  obtain ⟨h1, h2⟩ := jour_jl D i (by omega)
  have hg : getT (txs D) i = tx (D.getD i []) := txs_get D i (by omega)
  have e2 : ckTo (txs D) (i + 1) = chkL (ckl 0 (D.take i)) (D.getD i []) := by rw [ckTo, h2, hg]; rfl
  refine ⟨?_, ?_⟩
  ·rw [jourTo, h1, take_snoc (by omega), jl_snoc, e2, lineJ, hg]
   simp [entL]
  ·rw [e2, take_snoc (by omega), ckl_snoc]
theorem jour_all (D : List (List UInt8)) : jourTo (txs D) (txs D).length = jl 0 D := by
 have := (jour_jl D D.length (Nat.le_refl _)).1
 rw [List.take_length] at this
 rw [txs_len]; exact this
theorem take_mid (a : List UInt8) (x : UInt8) (b : List UInt8) (k : Nat) : (a ++ (x :: b)).take (a.length + 1 + k) = a ++ (x :: b.take k) := by
 rw [List.take_append, List.take_of_length_le (by omega), show a.length + 1 + k - a.length = k + 1 by omega, List.take_succ_cons]
theorem cut_q {e : List UInt8} {p : Nat} (h : At e 32 (some p)) : e = e.take p ++ ([32] ++ e.drop (p + 1)) := by
 cases h with
 | yes he hlt =>
  have h1 := (Lib.indexByte_some he).1
  rw [List.getElem?_eq_getElem hlt] at h1
  injection h1 with h1
  have e2 : e.drop p = 32 :: e.drop (p + 1) := by rw [List.drop_eq_getElem_cons hlt, h1]
  conv => lhs; rw [← List.take_append_drop p e, e2]
  rfl
theorem at_ln {l : List UInt8} {c : UInt8} {o : Nat} (h : At l c (some o)) : o < l.length := by cases h with | yes _ e => exact e
theorem rec_is : ∀ (n : Nat) (l : List UInt8) (c : Nat), l.length ≤ n → jl c (recL c (linesR l)).1 = l.take (recL c (linesR l)).2 ∧ (recL c (linesR l)).2 ≤ l.length ∧ ∀ e, e ∈ (recL c (linesR l)).1 → At e 10 none
 | n, l, c, hn => by
  rcases at_any l 10 with h1 | ⟨o, h1⟩
  ·rw [linesR_no h1]; simp [recL, jl]
  ·rw [linesR_yes h1]
   have hlt := at_ln h1
   rcases at_any (l.take o) 32 with h2 | ⟨p, h2⟩
   ·rw [recL_no h2]; simp [jl]
   ·by_cases k : Lib.decDigits (chkL c ((l.take o).drop (p + 1))) = (l.take o).take p
    ·rw [recL_yes h2 k]
     cases n with
     | zero => omega
     | succ n =>
      have hd : (l.drop (o + 1)).length = l.length - (o + 1) := List.length_drop
      obtain ⟨i1, i2, i3⟩ := rec_is n (l.drop (o + 1)) (chkL c ((l.take o).drop (p + 1))) (by omega)
      generalize recL (chkL c ((l.take o).drop (p + 1))) (linesR (l.drop (o + 1))) = R at *
      have hl : (l.take o).length = o := by rw [List.length_take]; omega
      have h10 : l[o]? = some 10 := by
       cases h1 with
       | yes e _ => exact (Lib.indexByte_some e).1
      have hsp : l = l.take o ++ (10 :: l.drop (o + 1)) := by
       have e1 := (List.take_append_drop o l).symm
       have e2 : l.drop o = 10 :: l.drop (o + 1) := by
        rw [List.drop_eq_getElem_cons hlt]
        congr 1
        rw [List.getElem?_eq_getElem hlt] at h10
        injection h10
       rw [e2] at e1; exact e1
      refine ⟨?_, ?_, ?_⟩
      ·show entL (chkL c ((l.take o).drop (p + 1))) ((l.take o).drop (p + 1)) ++ (10 :: jl (chkL c ((l.take o).drop (p + 1))) R.1) = _
       rw [i1, entL, k, ← cut_q h2]
       have hm := take_mid (l.take o) 10 (l.drop (o + 1)) R.2
       rw [← hsp] at hm
       exact hm.symm
      ·rw [hl]; omega
      ·intro e he
       rcases List.mem_cons.1 he with rfl | he
       ·refine At.none_of fun j hj e => ?_
        rw [List.getElem?_drop] at e
        cases h1 with
        | yes q _ =>
         have hb : p + 1 + j < o := by
          rcases Nat.lt_or_ge (p + 1 + j) o with g | g
          ·exact g
          ·rw [List.getElem?_eq_none (by rw [hl]; exact g)] at e; cases e
         have := (Lib.indexByte_some q).2 (p + 1 + j) hb
         rw [List.getElem?_take, if_pos hb] at e
         exact this e
       ·exact i3 e he
    ·rw [recL_bad h2 k]; simp [jl]
theorem at_app {a b : List UInt8} {c : UInt8} {o : Nat} (h : At a c (some o)) : At (a ++ b) c (some o) := by
 cases h with
 | yes e hlt =>
  obtain ⟨h1, h2⟩ := Lib.indexByte_some e
  refine At.of ?_ fun j hj => ?_
  ·rw [List.getElem?_append_left hlt]; exact h1
  ·rw [List.getElem?_append_left (by omega)]; exact h2 j hj
theorem rec_more : ∀ (n : Nat) (a b : List UInt8) (c : Nat), a.length ≤ n → (recL c (linesR a)).2 ≤ (recL c (linesR (a ++ b))).2
 | n, a, b, c, hn => by
  rcases at_any a 10 with h1 | ⟨o, h1⟩
  ·rw [linesR_no h1]; simp [recL]
  ·rw [linesR_yes h1, linesR_yes (at_app h1)]
   have hlt := at_ln h1
   have e1 : (a ++ b).take o = a.take o := by rw [List.take_append, show o - a.length = 0 by omega]; simp
   have e2 : (a ++ b).drop (o + 1) = a.drop (o + 1) ++ b := by rw [List.drop_append, show o + 1 - a.length = 0 by omega]; simp
   rw [e1, e2]
   rcases at_any (a.take o) 32 with h2 | ⟨p, h2⟩
   ·rw [recL_no h2]; simp
   ·by_cases k : Lib.decDigits (chkL c ((a.take o).drop (p + 1))) = (a.take o).take p
    ·rw [recL_yes h2 k, recL_yes h2 k]
     cases n with
     | zero => omega
     | succ n =>
      have := rec_more n (a.drop (o + 1)) b (chkL c ((a.take o).drop (p + 1))) (by rw [List.length_drop]; omega)
      show _ + _ + _ ≤ _ + _ + _
      omega
    ·rw [recL_bad h2 k]; simp
def cntL (l : List UInt8) : Nat := l.countP fun x => x == 10
theorem dec_byte : ∀ (u : Nat) (x : UInt8), x ∈ Lib.decDigits u → 48 ≤ x.toNat ∧ x.toNat ≤ 57 := by
 intro u
 induction u using Nat.strongRecOn with
 | _ u ih =>
  intro x hx
  rw [Lib.decDigits] at hx
  by_cases h10 : u < 10
  ·rw [dif_pos h10] at hx
   obtain rfl := List.mem_singleton.1 hx
   rw [byte_small (by omega)]; omega
  ·rw [dif_neg h10] at hx
   rcases List.mem_append.1 hx with h | h
   ·exact ih (u / 10) (by omega) x h
   ·obtain rfl := List.mem_singleton.1 h
    rw [byte_small (by omega)]; omega
theorem not_in {l : List UInt8} {c : UInt8} (h : At l c none) : c ∉ l := fun hm => by
 obtain ⟨i, hi⟩ := List.getElem?_of_mem hm
 cases h with
 | no e => exact Lib.indexByte_none e i hi
theorem none_in {l : List UInt8} {c : UInt8} (h : c ∉ l) : At l c none := At.none_of fun j hj e => h (List.mem_of_getElem? e)
theorem ent_no {c : Nat} {e : List UInt8} (h : At e 10 none) : At (entL c e) 10 none := by
 refine none_in fun hm => ?_
 rcases List.mem_append.1 hm with h1 | h1
 ·have := dec_byte c _ h1; revert this; decide
 ·rcases List.mem_append.1 h1 with h2 | h2
  ·revert h2; decide
  ·exact not_in h h2
theorem ent_at (c : Nat) (e : List UInt8) : At (entL c e) 32 (some (Lib.decDigits c).length) := by
 refine At.of ?_ fun j hj => ?_
 ·simp [entL]
 ·rw [entL, List.getElem?_append_left hj]
  intro h
  have := dec_byte c _ (List.mem_of_getElem? h)
  revert this; decide
theorem rec_cut : ∀ (ls : List (List UInt8)) (c at_ : Nat), (∀ e, e ∈ ls → At e 10 none) → at_ ≤ (jl c ls).length →
  (recL c (linesR ((jl c ls).take at_))).1 = ls.take (cntL ((jl c ls).take at_)) ∧ cntL ((jl c ls).take at_) ≤ ls.length
 | [], c, at_, _, h => by
  rw [show (jl c []).take at_ = [] by simp [jl]]
  rw [linesR_no (none_in (by simp))]
  simp [recL, cntL]
 | e :: r, c, at_, hno, h => by
  have he := hno e List.mem_cons_self
  have hE := ent_no (c := chkL c e) he
  obtain ⟨E, hEe⟩ : ∃ E, entL (chkL c e) e = E := ⟨_, rfl⟩
  have hj : jl c (e :: r) = E ++ (10 :: jl (chkL c e) r) := by rw [jl, hEe]
  rw [hEe] at hE
  rw [hj] at h ⊢
  by_cases hlt : at_ ≤ E.length
  ·have e1 : (E ++ (10 :: jl (chkL c e) r)).take at_ = E.take at_ := by rw [List.take_append, show at_ - E.length = 0 by omega]; simp
   rw [e1]
   have hn : At (E.take at_) 10 none := none_in fun hm => not_in hE (List.mem_of_mem_take hm)
   rw [linesR_no hn]
   have hc : cntL (E.take at_) = 0 := by
    rw [cntL, List.countP_eq_zero]
    intro x hx hx2
    simp only [beq_iff_eq] at hx2
    subst hx2
    exact not_in hn hx
   rw [hc]
   simp [recL]
  ·obtain ⟨k, rfl⟩ : ∃ k, at_ = E.length + 1 + k := ⟨at_ - (E.length + 1), by omega⟩
   have e1 : (E ++ (10 :: jl (chkL c e) r)).take (E.length + 1 + k) = E ++ (10 :: (jl (chkL c e) r).take k) := by
    rw [List.take_append, List.take_of_length_le (by omega), show E.length + 1 + k - E.length = k + 1 by omega, List.take_succ_cons]
   rw [e1]
   have hat : At (E ++ (10 :: (jl (chkL c e) r).take k)) 10 (some E.length) := by
    refine At.of (by simp) fun j hj => ?_
    rw [List.getElem?_append_left hj]
    intro h
    exact not_in hE (List.mem_of_getElem? h)
   rw [linesR_yes hat]
   have e2 : (E ++ (10 :: (jl (chkL c e) r).take k)).take E.length = E := by simp
   have e3 : (E ++ (10 :: (jl (chkL c e) r).take k)).drop (E.length + 1) = (jl (chkL c e) r).take k := by
    rw [List.drop_append, List.drop_of_length_le (by omega), show E.length + 1 - E.length = 1 by omega]; rfl
   rw [e2, e3]
   have h32 := ent_at (chkL c e) e
   rw [hEe] at h32
   have hdr : E.drop ((Lib.decDigits (chkL c e)).length + 1) = e := by
    rw [← hEe, entL, List.drop_append, List.drop_of_length_le (by omega), show (Lib.decDigits (chkL c e)).length + 1 - (Lib.decDigits (chkL c e)).length = 1 by omega]; rfl
   have htk : E.take (Lib.decDigits (chkL c e)).length = Lib.decDigits (chkL c e) := by rw [← hEe, entL]; simp
   rw [recL_yes h32 (by rw [hdr, htk])]
   rw [hdr]
   have hlen : (E ++ (10 :: jl (chkL c e) r)).length = E.length + 1 + (jl (chkL c e) r).length := by simp; omega
   obtain ⟨i1, i2⟩ := rec_cut r (chkL c e) k (fun x hx => hno x (List.mem_cons_of_mem _ hx)) (by omega)
   have hc : cntL (E ++ (10 :: (jl (chkL c e) r).take k)) = cntL ((jl (chkL c e) r).take k) + 1 := by
    unfold cntL
    rw [List.countP_append, List.countP_cons]
    have : List.countP (fun x => x == 10) E = 0 := by
     rw [List.countP_eq_zero]
     intro x hx hx2
     simp only [beq_iff_eq] at hx2
     subst hx2
     exact not_in hE hx
    rw [this]
    simp
   rw [hc, List.take_succ_cons]
   refine ⟨?_, ?_⟩
   ·show e :: _ = _
    rw [i1]
   ·rw [List.length_cons]; omega
end Go.Proofs.YtpjepheiagllgaaDoor.JnM
namespace Go.Proofs.YtpjepheiagllgaaDoor.Blk
open Go.RowKit Go.Proofs.YtpjepheiagllgaaDoor Go.Proofs.YtpjepheiagllgaaDoor.Base Go.Proofs.YtpjepheiagllgaaDoor.Mem
set_option linter.unusedVariables false
def Blk (w : World) (b : Nat) (t : TypeId) (cs : Array Value) : Prop := w.heap[b]? = some (.cells cs t (0, 0))
section
variable {w w' : World} {b : Nat} {t : TypeId} {cs : Array Value}
theorem Blk.new (w : World) (t : TypeId) (cs : Array Value) : Blk (w.alloc (.cells cs t)) w.heap.size t cs := by
 unfold Blk
 show (w.heap.push _)[w.heap.size]? = _
 simp
theorem Blk.newAt {n : Nat} (t : TypeId) (cs : Array Value) (h : n = w.heap.size) : Blk (w.alloc (.cells cs t)) n t cs := h ▸ Blk.new w t cs
theorem Blk.lt (h : Blk w b t cs) : b < w.heap.size := by
 rcases Nat.lt_or_ge b w.heap.size with hlt | hge
 ·exact hlt
 ·unfold Blk at h; rw [Array.getElem?_eq_none hge] at h; cases h
theorem Blk.cell (h : Blk w b t cs) (i : Nat) : w.cell? ⟨b, i, none⟩ = cs[i]? := Lib.cell_of_heap h i
theorem Blk.at (h : Blk w b t cs) (i : Nat) {v : Value} (hv : cs[i]? = some v) : w.cell? ⟨b, i, none⟩ = some v := (h.cell i).trans hv
theorem Blk.frz (h : Blk w b t cs) (i : Nat) : w.frozen? ⟨b, i, none⟩ = false := Lib.frozen_of_heap h i
theorem Blk.below {B : Nat} (h : Blk w b t cs) (hb : Below B w w') (hB : b < B) : Blk w' b t cs := (hb.block b hB).trans h
theorem Blk.belowS (h : Blk w b t cs) (hb : Below w.heap.size w w') : Blk w' b t cs := h.below hb h.lt
theorem Blk.kept {row : Option Nat} (h : Blk w b t cs) (hg : w.grownBy w' row) (hne : row ≠ some b) : Blk w' b t cs := (hg.block b h.lt fun e => hne e.symm).trans h
theorem Blk.alloc (h : Blk w b t cs) (o : Obj) : Blk (w.alloc o) b t cs := h.belowS ((Below.refl _ _).alloc (Nat.le_refl _) _)
theorem Blk.drewN (h : Blk w b t cs) (n : Nat) : Blk (w.drewN n) b t cs := h
theorem Blk.drew (h : Blk w b t cs) : Blk w.drew b t cs := h
theorem Blk.set (h : Blk w b t cs) (i : Nat) (v : Value) : Blk (w.setCell ⟨b, i, none⟩ v) b t (cs.setIfInBounds i v) := by
 unfold Blk at *
 simp [World.setCell, Array.getElem?_modify, h]
theorem Blk.other (h : Blk w b t cs) {a : Addr} (v : Value) (hne : a.block ≠ b) : Blk (w.setCell a v) b t cs :=
 h.kept (Src.grown_setCell w a v) fun e => hne (Option.some.inj e)
theorem Blk.setTo {cs' : Array Value} (h : Blk w b t cs) (i : Nat) (v : Value) (hc : cs.setIfInBounds i v = cs') : Blk (w.setCell ⟨b, i, none⟩ v) b t cs' := hc ▸ h.set i v
def put3 (w : World) (b : Nat) (v0 v1 v2 : Value) : World := ((w.setCell ⟨b, 0, none⟩ v0).setCell ⟨b, 1, none⟩ v1).setCell ⟨b, 2, none⟩ v2
theorem Blk.set3 {u0 u1 u2 : Value} (h : Blk w b t #[u0, u1, u2]) (v0 v1 v2 : Value) : Blk (put3 w b v0 v1 v2) b t #[v0, v1, v2] :=
 ((h.setTo 0 v0 rfl).setTo 1 v1 rfl).setTo 2 v2 rfl
end
structure Beside (p : Nat) (w w' : World) : Prop where
 os : w'.os = w.os
 tape : w'.tape = w.tape
 output : w'.output = w.output
 size : w.heap.size ≤ w'.heap.size
 same : ∀ q, q < w.heap.size → q ≠ p → w'.heap[q]? = w.heap[q]?
theorem Beside.refl (p : Nat) (w : World) : Beside p w w := ⟨rfl, rfl, rfl, Nat.le_refl _, fun _ _ _ => rfl⟩
theorem Beside.trans {p : Nat} {a b c : World} (h : Beside p a b) (k : Beside p b c) : Beside p a c :=
 ⟨k.os.trans h.os, k.tape.trans h.tape, k.output.trans h.output, Nat.le_trans h.size k.size, fun q h1 h2 => (k.same q (Nat.lt_of_lt_of_le h1 h.size) h2).trans (h.same q h1 h2)⟩
theorem Beside.grown {p : Nat} {w w' : World} (h : w.grownBy w' (some p)) : Beside p w w' := ⟨h.os, h.tape, h.output, h.size, fun q h1 h2 => h.block q h1 fun e => h2 (Option.some.inj e)⟩
theorem Beside.ofBelow {p : Nat} {w w' : World} (h : Below w.heap.size w w') : Beside p w w' := ⟨h.os, h.tape, h.output, h.size, fun q h1 _ => h.block q h1⟩
theorem Beside.below {p B : Nat} {w w' : World} (h : Beside p w w') (hp : B ≤ p) (hB : B ≤ w.heap.size) : Below B w w' := ⟨h.os, h.tape, h.output, h.size, fun q hq => h.same q (by omega) (by omega)⟩
theorem Beside.alloc {p : Nat} {w w' : World} (h : Beside p w w') (o : Obj) : Beside p w (w'.alloc o) := h.trans (Beside.ofBelow ((Below.refl _ _).alloc (Nat.le_refl _) o))
theorem Beside.drewN {p : Nat} {w w' : World} (h : Beside p w w') (n : Nat) : Beside p w (w'.drewN n) := h.trans (Beside.ofBelow (below_drewN (Below.refl _ _) n))
theorem Beside.drew {p : Nat} {w w' : World} (h : Beside p w w') : Beside p w w'.drew := h.drewN 1
theorem Beside.set {p : Nat} {w w' : World} (h : Beside p w w') {a : Addr} (ha : w.heap.size ≤ a.block) (v : Value) : Beside p w (w'.setCell a v) := by
 have g := Src.grown_setCell w' a v
 exact ⟨g.os.trans h.os, g.tape.trans h.tape, g.output.trans h.output, Nat.le_trans h.size g.size, fun q h1 h2 => (g.block q (Nat.lt_of_lt_of_le h1 h.size) fun e => by have := Option.some.inj e; omega).trans (h.same q h1 h2)⟩
theorem Blk.beside {p b : Nat} {t : TypeId} {cs : Array Value} {w w' : World} (h : Blk w b t cs) (hb : Beside p w w') (hne : b ≠ p) : Blk w' b t cs := (hb.same b h.lt hne).trans h
theorem Blk.src {p b : Nat} {t : TypeId} {cs : Array Value} {w w' : World} (h : Blk w b t cs) (hg : w.grownBy w' (some p)) (hne : b ≠ p) : Blk w' b t cs := h.kept hg fun e => hne (Option.some.inj e).symm
end Go.Proofs.YtpjepheiagllgaaDoor.Blk
namespace Go.Proofs.YtpjepheiagllgaaDoor.Tail
open Go.RowKit Go.Proofs.YtpjepheiagllgaaDoor Go.Proofs.YtpjepheiagllgaaDoor.Base
set_option linter.unusedVariables false
section
variable {P : Program} {ops : Array Oper} {md : Region.Mode} {C : World → Prop}
end
end Go.Proofs.YtpjepheiagllgaaDoor.Tail
namespace Go.Proofs.YtpjepheiagllgaaDoor.Pow
open Go.RowKit Go.Proofs.YtpjepheiagllgaaDoor Go.Proofs.YtpjepheiagllgaaDoor.Base Go.Proofs.YtpjepheiagllgaaDoor.Mem Go.Proofs.YtpjepheiagllgaaDoor.Blk Go.Proofs.YtpjepheiagllgaaDoor.CycM Go.Proofs.YtpjepheiagllgaaDoor.Cong
set_option linter.unusedVariables false
end Go.Proofs.YtpjepheiagllgaaDoor.Pow

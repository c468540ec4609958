/- The decimal text of a number that is not negative: the reference's l01Dec; the check number of a text. -/
import Derived.Test.YtpjepheiagllgaaDoorMgFnJ00
import Derived.Lib.ItoaNum
import Derived.Lib.UnsafeStr
import Derived.Lib.AppendIntMem
import Derived.Laws.IdiomStrings
import Derived.Lib.BufferRead
namespace Go.Proofs.YtpjepheiagllgaaDoor.Dec
open Go.RowKit Go.Proofs.YtpjepheiagllgaaDoor Go.Proofs.YtpjepheiagllgaaDoor.Base Go.Proofs.YtpjepheiagllgaaDoor.Mem
set_option linter.unusedVariables false
abbrev tx (l : List UInt8) : ByteArray := ⟨l.toArray⟩
theorem tx_ext {a b : ByteArray} (h : a.data.toList = b.data.toList) : a = b := by
 cases a with | mk a => cases b with | mk b => simp at h; rw [h]
theorem tx_list (a : ByteArray) : tx a.data.toList = a := tx_ext (by simp)
theorem list_tx (l : List UInt8) : (tx l).data.toList = l := by simp
theorem size_tx (l : List UInt8) : (tx l).size = l.length := by simp [ByteArray.size]
theorem app_list (a b : ByteArray) : (a ++ b).data.toList = a.data.toList ++ b.data.toList := by simp
theorem infoByte : (Tryd.prog.info? 5).map (fun i => (i.zero, i.size, i.bytes)) = some (some (.int .u8 0), 1, 1) := by kernel_rfl
theorem convT_own {w : World} {B g n cap : Nat} {l : List UInt8} (h : w.ownsRow B 5 1 (.slice (some ⟨g, 0, none⟩) n cap) n (Lib.byteCells l)) (hl : l.length = n) :
  (convert 22 9 (.slice (some ⟨g, 0, none⟩) n cap)).run Tryd.prog w = .ok (.string ⟨l.toArray⟩) w := by
 subst hl
 refine run_convert_bytes_back w 22 9 5 ⟨g, 0, none⟩ cap l Tryd.underlying22 Tryd.underlying5 Tryd.underlying9 ?_
 intro j hj
 have := h.cells (g := g) rfl j (.int .u8 (l[j].toNat : Int)) (by simp [Lib.byteCells, hj])
 simpa [Addr.add] using this
theorem convT_any {w : World} {B n : Nat} {v : Value} {l : List UInt8} (h : w.ownsRow B 5 1 v n (Lib.byteCells l)) (hl : l.length = n) :
  (convert 22 9 v).run Tryd.prog w = .ok (.string ⟨l.toArray⟩) w := by
 rcases h.2 with ⟨rfl, h0⟩ | ⟨g, cap, cur, rfl, _⟩
 ·obtain rfl : l = [] := List.eq_nil_of_length_eq_zero (by omega)
  exact Lib.run_convert_nil_bytes w 22 9 5 0 Tryd.underlying22 Tryd.underlying5 Tryd.underlying9
 ·exact convT_own h hl
def rd (u : Nat) : List UInt8 := if h : u = 0 then [] else UInt8.ofNat (48 + u % 10) :: rd (u / 10)
termination_by u
decreasing_by omega
theorem rd_zero : rd 0 = [] := by rw [rd, dif_pos rfl]
theorem rd_pos {u : Nat} (h : 0 < u) : rd u = UInt8.ofNat (48 + u % 10) :: rd (u / 10) := by rw [rd, dif_neg (by omega)]
theorem rd_rev : ∀ (u : Nat), 0 < u → (rd u).reverse = Lib.decDigits u := by
 intro u
 induction u using Nat.strongRecOn with
 | _ u ih =>
  intro h
  rw [rd_pos h, List.reverse_cons, Lib.decDigits]
  by_cases h10 : u < 10
  ·rw [dif_pos h10, show u / 10 = 0 by omega, rd_zero, Nat.mod_eq_of_lt h10]; rfl
  ·rw [dif_neg h10, ih (u / 10) (by omega) (by omega)]
theorem rd_len : ∀ (k u : Nat), u < 10 ^ k → (rd u).length ≤ k
  | 0, u, h => by obtain rfl : u = 0 := by simpa using h
                  rw [rd_zero]; simp
  | k + 1, u, h => by
    by_cases h0 : u = 0
    · subst h0; rw [rd_zero]; simp
    · rw [rd_pos (by omega), List.length_cons]
      have := rd_len k (u / 10) (by rw [Nat.pow_succ] at h; omega)
      omega
theorem byte_small {x : Nat} (h : x < 256) : (UInt8.ofNat x).toNat = x := by simp; omega
def DigTo (u : Nat) (w : World) (v i : Value) (wr : World) : Prop :=
 ∃ (r : Nat) (D : List UInt8), i = .int .i64 (r : Int) ∧ r ≤ u ∧ D.length ≤ 20 ∧ Hid (D ++ rd r = rd u) ∧ Hid (wr.ownsRow w.heap.size 5 1 v D.length (Lib.byteCells D)) ∧ Hid (Below w.heap.size w wr)
theorem own_byte {w3 : World} {B : Nat} {v' : Value} {D : List UInt8} {x : Nat} (hx : x < 256) (h : w3.ownsRow B 5 1 v' (D.length + 1) (Lib.byteCells D ++ [.int .u8 (x : Int)])) : w3.ownsRow B 5 1 v' (D ++ [UInt8.ofNat x]).length (Lib.byteCells (D ++ [UInt8.ofNat x])) := by
 have e : Lib.byteCells (D ++ [UInt8.ofNat x]) = Lib.byteCells D ++ [.int .u8 (x : Int)] := by
  rw [Lib.byteCells_append]
  simp [Lib.byteCells]
  omega
 rw [e]
 simpa using h
theorem DigTo.next {u r : Nat} {w wr w3 : World} {v v' : Value} {D : List UInt8} {o : Obj} (hr : 0 < r) (hru : r ≤ u) (hu : u < 10 ^ 20) (hD : D ++ rd r = rd u) (hO : wr.ownsRow w.heap.size 5 1 v D.length (Lib.byteCells D)) (hb : Below w.heap.size w wr)
  (h1 : w3.ownsRow w.heap.size 5 1 v' (D.length + 1) (Lib.byteCells D ++ [.int .u8 ((48 + r % 10 : Nat) : Int)])) (h2 : (wr.alloc o).grownBy w3 v.ownBlock) : DigTo u w v' (.int .i64 ((r / 10 : Nat) : Int)) w3 := by
 rw [rd_pos hr] at hD
 have hl := congrArg List.length hD
 have hu2 := rd_len 20 u hu
 simp only [List.length_append, List.length_cons] at hl
 refine ⟨r / 10, D ++ [UInt8.ofNat (48 + r % 10)], rfl, by omega, by simp; omega, Lib.hid (by rw [← hD]; simp), Lib.hid (own_byte (by omega) h1), Lib.hid ?_⟩
 exact hb.trans (((Below.refl wr.heap.size wr).alloc (Nat.le_refl _) _ |>.mono hb.size).trans (grown_below h2 (fun g e => by obtain ⟨_, _, q, _⟩ := ownsRow_block hO e; exact q) (by have := hb.size; simp; omega)))
def DigBack (L : List UInt8) (w0 : World) (v i : Value) (wr : World) : Prop :=
 ∃ j : Nat, j ≤ L.length ∧ i = .int .i64 ((j : Int) - 1) ∧ Hid (wr.ownsRow w0.heap.size 5 1 v (L.length - j) (Lib.byteCells (L.drop j).reverse)) ∧ Hid (Below w0.heap.size w0 wr)
theorem DigBack.next {L : List UInt8} {j : Nat} {w0 wr w3 : World} {v v' : Value} {o : Obj} (hj : j < L.length) (hO : wr.ownsRow w0.heap.size 5 1 v (L.length - (j + 1)) (Lib.byteCells (L.drop (j + 1)).reverse)) (hb : Below w0.heap.size w0 wr)
  (h1 : w3.ownsRow w0.heap.size 5 1 v' (L.length - (j + 1) + 1) (Lib.byteCells (L.drop (j + 1)).reverse ++ [.int .u8 ((L[j]'hj).toNat : Int)])) (h2 : (wr.alloc o).grownBy w3 v.ownBlock) : DigBack L w0 v' (.int .i64 ((j : Int) - 1)) w3 := by
 refine ⟨j, by omega, rfl, Lib.hid ?_, Lib.hid ?_⟩
 ·have e : (L.drop j).reverse = (L.drop (j + 1)).reverse ++ [L[j]'hj] := by rw [List.drop_eq_getElem_cons hj, List.reverse_cons]
  rw [e, Lib.byteCells_append, show L.length - j = L.length - (j + 1) + 1 by omega]
  exact h1
 ·exact hb.trans (((Below.refl wr.heap.size wr).alloc (Nat.le_refl _) _ |>.mono hb.size).trans (grown_below h2 (fun g e => by obtain ⟨_, _, q, _⟩ := ownsRow_block hO e; exact q) (by have := hb.size; simp; omega)))
set_option maxHeartbeats 2000000 in
set_option maxRecDepth 100000 in
theorem l01Dec_any (u : Nat) (hu : u ≤ 9223372036854775807) (w : World) : Calls Tryd.prog 27 #[.int .i64 (u : Int)] w fun e w' => e = .returned (.string (tx (Lib.decDigits u))) ∧ Below w.heap.size w w' := by
 by_cases hz : u = 0
 ·subst hz
  go_enter Tryd.func27, Tryd.ntmps27
  go_wp2
  go_ret
  exact ⟨by rw [Lib.decDigits_one (by decide)]; rfl, Below.refl _ _⟩
 obtain ⟨i0, hi, hz0, hz1, hz2⟩ := info_parts infoByte
 have hu0 : 0 < u := by omega
 have hu20 : u < 10 ^ 20 := by omega
 have hz' : ((u : Int) == 0) = false := by simp only [beq_eq_false_iff_ne]; omega
 have HR := Lib.hid (rd_rev u hu0)
 have HLn := Lib.hid (rd_len 20 u hu20)
 have H0 : Hid (DigTo u w (.slice (some ⟨w.heap.size, 0, none⟩) 0 0) (.int .i64 (u : Int)) (w.alloc (.cells #[] 5))) := Lib.hid ⟨u, [], rfl, Nat.le_refl _, by simp, Lib.hid (by simp), Lib.hid (World.ownsRow_made w #[] 0 (Nat.le_refl _) (Nat.zero_le _) (by simp)), Lib.hid ((Below.refl _ _).alloc (Nat.le_refl _) _)⟩
 have HU20 := Lib.hid hu20
 clear hu20 hz
 go_enter Tryd.func27, Tryd.ntmps27
 go_wp2
 go_loopw [3, 4] (fun v i wr => DigTo u w v i wr) (fun _ i _ => (intOf i).toNat)
 case atStart => exact H0.out
 case round =>
  obtain ⟨r, D, rfl, hru, hD20, HD, HO, HB⟩ := hrel
  clear H0
  by_cases hr : r = 0
  ·subst hr
   have HDu : Hid (D = rd u) := Lib.hid (by have := HD.out; rwa [rd_zero, List.append_nil] at this)
   have hDl : D.length ≤ 20 := hD20
   obtain ⟨A0, c0, e0, hf0⟩ := ownsRow_form HO.out
   have HF0 := Lib.hid hf0
   clear hf0
   subst e0
   have hneg : ¬ ((u : Int) < 0) := by omega
   have H1 : Hid (DigBack D wr (.slice (some ⟨wr.heap.size, 0, none⟩) 0 0) (.int .i64 ((D.length : Int) - 1)) (wr.alloc (.cells #[] 5))) := Lib.hid ⟨D.length, Nat.le_refl _, rfl, Lib.hid (by rw [Nat.sub_self, List.drop_length]; exact World.ownsRow_made wr #[] 0 (Nat.le_refl _) (Nat.zero_le _) (by simp)), Lib.hid ((Below.refl _ _).alloc (Nat.le_refl _) _)⟩
   go_wp2
   obtain ⟨W0, hW0⟩ : ∃ W0, W0 = wr := ⟨_, rfl⟩
   rw [← hW0] at H1 HO HB HF0
   have HW0 := Lib.hid hW0
   clear hW0
   go_loopw [6, 7] (fun v i w2 => DigBack D W0 v i w2) (fun _ i _ => (intOf i + 1).toNat)
   case atStart => rw [← HW0.out]; exact H1.out
   case round =>
    obtain ⟨j, hj, rfl, HO2, HB2⟩ := hrel
    clear H1
    by_cases hj0 : j = 0
    ·subst hj0
     have hC := convT_any HO2.out (by simp)
     have HRs : Hid ((D.drop 0).reverse = Lib.decDigits u) := Lib.hid (by rw [List.drop_zero, HDu.out, HR.out])
     rw [HRs.out] at hC
     go_wp2
     go_ret
     exact ⟨rfl, HB.out.trans (HB2.out.mono HB.out.size)⟩
    ·obtain ⟨k, rfl⟩ : ∃ k, j = k + 1 := ⟨j - 1, by omega⟩
     have hk : k < D.length := by omega
     obtain ⟨g, hg0, hg1, hg2⟩ := HF0.out (by omega)
     subst hg0
     have hcell0 := HO.out.cellAt k (by omega)
     have hcell : wr.cell? ⟨g, k, none⟩ = some (.int .u8 ((D[k]'hk).toNat : Int)) := by
      have h3 := (HB2.out.cell (p := ⟨g, k, none⟩) (show g < W0.heap.size from hg2)).trans hcell0
      rw [h3]
      simp [Lib.byteCells, hk]
     have HNx := Lib.hid (fun v' w3 h1 h2 => DigBack.next (o := .cells #[.int .u8 ((D[k]'hk).toNat : Int)] 5) (v' := v') (w3 := w3) hk HO2.out HB2.out h1 h2)
     have hby : (D[k]'hk).toNat < 256 := (D[k]'hk).toNat_lt
     have hws := HB2.out.size
     have HW2 := Lib.hid (World.ownsRow.alloc HO2.out (.cells #[.int .u8 ((D[k]'hk).toNat : Int)] 5))
     clear hcell0
     generalize (D[k]'hk).toNat = y at *
     go_wp2_with (at_builtin; refine wpList_append_own_at _ rfl (.tmp 41) (.tmp 46) 22 rfl W0.heap.size 5 i0 (.int .u8 0) 1 1 Tryd.underlying22 hi hz0 hz1 hz2 rfl (by decide) _ _ _ rfl HW2.out ⟨wr.heap.size, 0, none⟩ 1 1 [.int .u8 (y : Int)] rfl rfl ?p1b ?p2b ?p3b ?p4b ?p5b ?_)
     try case p1b => exact news_one _ _ _ (by simp)
     try case p2b => first | rfl | (intro u hu; simp at hu; subst hu; rfl)
     try case p3b => first | (simp only [maxLen]; omega) | omega
     try case p4b => omega
     try case p5b => first | (simp only [World.size_alloc]; omega) | omega
     intro v' w3 hown' hg' _ he
     have HN := Lib.hid (HNx.out v' w3 hown' hg')
     clear hown' hg' he hcell
     go_wp2_with fail
     go_roundw
     case rel => exact HN.out
     case measure => simp [intOf]
  ·have hr0 : 0 < r := by omega
   have hne : ((r : Int) != 0) = true := by simp only [bne_iff_ne, ne_eq]; omega
   have hws := HB.out.size
   have HNx := Lib.hid (fun v' w3 h1 h2 => DigTo.next (o := .cells #[.int .u8 ((48 + r % 10 : Nat) : Int)] 5) (v' := v') (w3 := w3) hr0 hru HU20.out HD.out HO.out HB.out h1 h2)
   have HW := Lib.hid (World.ownsRow.alloc HO.out (.cells #[.int .u8 ((48 + r % 10 : Nat) : Int)] 5))
   obtain ⟨x, hx⟩ : ∃ x, r % 10 = x := ⟨_, rfl⟩
   obtain ⟨q, hq⟩ : ∃ q, r / 10 = q := ⟨_, rfl⟩
   have hm : (r : Int) % 10 = (x : Int) := by omega
   have hmt : (r : Int).tmod 10 = (x : Int) := by rw [Int.tmod_eq_emod_of_nonneg (by omega)]; exact hm
   have hd : (r : Int) / 10 = (q : Int) := by omega
   have hdt : (r : Int).tdiv 10 = (q : Int) := by rw [Int.tdiv_eq_ediv_of_nonneg (by omega)]; exact hd
   have hx10 : x < 10 := by omega
   have hqr : q < r := by omega
   rw [hx, hq] at HNx
   rw [hx] at HW
   have hcast : ((48 + x : Nat) : Int) = 48 + (x : Int) := by omega
   rw [hcast] at HW HNx
   have hxn : ¬ ((x : Int) < 0) := by omega
   clear hx hq
   go_wp2_with (at_builtin; refine wpList_append_own_at _ rfl (.tmp 22) (.tmp 26) 22 rfl w.heap.size 5 i0 (.int .u8 0) 1 1 Tryd.underlying22 hi hz0 hz1 hz2 rfl (by decide) _ _ _ rfl HW.out ⟨wr.heap.size, 0, none⟩ 1 1 [.int .u8 (48 + (x : Int))] rfl rfl ?p1a ?p2a ?p3a ?p4a ?p5a ?_)
   try case p1a => exact news_one _ _ _ (by simp)
   try case p2a => first | rfl | (intro u hu; simp at hu; subst hu; rfl)
   try case p3a => first | (simp only [maxLen]; omega) | omega
   try case p4a => omega
   try case p5a => first | (simp only [World.size_alloc]; omega) | omega
   intro v' w3 hown' hg' _ he
   have HN := Lib.hid (HNx.out v' w3 hown' hg')
   clear hown' hg' he
   go_wp2_with fail
   go_roundw
   case rel => exact HN.out
   case measure => simp [intOf]; omega
def chkTo (c : Nat) (s : ByteArray) : Nat → Nat
 | 0 => c
 | i + 1 => (4099 * chkTo c s i + (if h : i < s.size then (s[i]'h).toNat else 0) + 1) % 999983
theorem chkTo_lt {c : Nat} (hc : c < 999983) (s : ByteArray) : ∀ i, chkTo c s i < 999983
 | 0 => hc
 | i + 1 => Nat.mod_lt _ (by decide)
def chk (c : Nat) (s : ByteArray) : Nat := chkTo c s s.size
theorem chk_lt {c : Nat} (hc : c < 999983) (s : ByteArray) : chk c s < 999983 := chkTo_lt hc s _
theorem chk_step {c i x p : Nat} {s : ByteArray} (hi : i < s.size) (hx : (s[i]'hi).toNat = x) (hp : chkTo c s i = p) : (((4099 : Int) * (p : Int) + (x : Int) + 1) % 999983) = (chkTo c s (i + 1) : Nat) := by
 rw [chkTo, dif_pos hi, hx, hp]
 omega
set_option maxHeartbeats 1000000 in
theorem checkOf_any (c : Nat) (s : ByteArray) (w : World) (hc : c < 999983) (hs : s.size ≤ 9223372036854775807) : Calls Tryd.prog 14 #[.int .i64 (c : Int), .string s] w fun e w' => e = .returned (.int .i64 (chk c s : Nat)) ∧ w = w' := by
 go_enter Tryd.func14, Tryd.ntmps14
 go_wp2
 go_loop [0, 8] (fun v i => ∃ k : Nat, k ≤ s.size ∧ i = .int .i64 (k : Int) ∧ v = .int .i64 (chkTo c s k : Nat)) (fun _ i => s.size - (intOf i).toNat)
 case atStart => exact ⟨0, Nat.zero_le _, rfl, rfl⟩
 case round =>
  obtain ⟨k, hk, rfl, rfl⟩ := hrel
  by_cases hlt : k < s.size
  ·obtain ⟨x, hx⟩ : ∃ x, (s[k]'hlt).toNat = x := ⟨_, rfl⟩
   have hx2 : x < 256 := by rw [← hx]; exact (s[k]'hlt).toNat_lt
   obtain ⟨p, hp⟩ : ∃ p, chkTo c s k = p := ⟨_, rfl⟩
   have hp2 : p < 999983 := by rw [← hp]; exact chkTo_lt hc s k
   have HN := Lib.hid (chk_step hlt hx hp)
   rw [hp]
   clear hp
   go_wp2
   go_round
   case rel => exact ⟨k + 1, hlt, by go_num, by rw [← HN.out]⟩
   case measure => simp [intOf]; omega
  ·obtain rfl : k = s.size := by omega
   go_wp2
   go_ret
   exact ⟨rfl, rfl⟩
end Go.Proofs.YtpjepheiagllgaaDoor.Dec

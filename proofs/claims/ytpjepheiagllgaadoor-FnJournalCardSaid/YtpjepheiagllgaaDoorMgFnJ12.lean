/- The text of a stream, of the program and of the reference; the law. -/
import Derived.Test.YtpjepheiagllgaaDoorMgFnJ02
import Derived.Test.YtpjepheiagllgaaDoorMgFnJ04
import Derived.Laws.Concat
import Derived.Deep.RegionWith
import Derived.Test.YtpjepheiagllgaaDoorMgFnJ11
namespace Go.Proofs.YtpjepheiagllgaaDoor.StTx
open Go.RowKit Go.Proofs.YtpjepheiagllgaaDoor Go.Proofs.YtpjepheiagllgaaDoor.Base Go.Proofs.YtpjepheiagllgaaDoor.Mem Go.Proofs.YtpjepheiagllgaaDoor.Dec Go.Proofs.YtpjepheiagllgaaDoor.Str Go.Proofs.YtpjepheiagllgaaDoor.Take
set_option linter.unusedVariables false
def nAt (xs : List Int) (i : Nat) : Nat := (xs.getD i 0).toNat
def joinTo (l : List UInt8) (xs : List Int) : Nat → List UInt8
 | 0 => l
 | i + 1 => joinTo l xs i ++ ([58] ++ Lib.decDigits (nAt xs i))
theorem decS_len {u : Nat} (h : u < 1000000) : (Lib.decDigits u).length ≤ 6 := by
 by_cases h0 : u = 0
 ·subst h0; rw [Lib.decDigits_one (by decide)]; simp
 ·rw [← rd_rev u (by omega), List.length_reverse]
  exact rd_len 6 u h
def Fit (xs : List Int) : Prop := xs.length ≤ 4 ∧ ∀ i, i < xs.length → 0 ≤ xs.getD i 0 ∧ xs.getD i 0 < 1000000
theorem joinTo_len {xs : List Int} (h : Fit xs) (l : List UInt8) : ∀ i, i ≤ xs.length → (joinTo l xs i).length ≤ l.length + 7 * i
 | 0, _ => Nat.le_refl _
 | i + 1, hi => by
  have h1 := joinTo_len h l i (by omega)
  have h2 := h.2 i (by omega)
  have h3 := decS_len (u := nAt xs i) (by unfold nAt; omega)
  rw [joinTo, List.length_append, List.length_append]
  simp only [List.length_cons, List.length_nil]
  omega
theorem strAddS {a b c : ByteArray} (h : a ++ b = c) (hs : a.size + b.size ≤ 9223372036854775807) (w : World) : (Op.stringOp .add a b).run Tryd.prog w = .ok (.string c) w := by
 rw [run_string_add_sum w a b (by omega), h]
theorem joinStep {xs : List Int} (h : Fit xs) (l : List UInt8) (hl : l.length ≤ 1) (k : Nat) (hk : k < xs.length) : ∃ (u : Nat) (d o a1 a2 : ByteArray), xs.getD k 0 = (u : Int) ∧ u < 1000000 ∧ tx (Lib.decDigits u) = d ∧ tx (joinTo l xs k) = o ∧
  (∀ w : World, (Op.stringOp .add ⟨#[58]⟩ d).run Tryd.prog w = .ok (.string a1) w) ∧ (∀ w : World, (Op.stringOp .add o a1).run Tryd.prog w = .ok (.string a2) w) ∧ tx (joinTo l xs (k + 1)) = a2 := by
 have h2 := h.2 k hk
 have hj := joinTo_len h l k (by omega)
 have hx4 := h.1
 obtain ⟨u, hu⟩ := Int.eq_ofNat_of_zero_le h2.1
 have hu6 : u < 1000000 := by omega
 have h3 := decS_len hu6
 have hn : nAt xs k = u := by rw [nAt, hu]; rfl
 refine ⟨u, _, _, (⟨#[58]⟩ : ByteArray) ++ tx (Lib.decDigits u), _, hu, hu6, rfl, rfl, strAddS rfl ?_, strAddS rfl ?_, ?_⟩
 ·have := size_tx (Lib.decDigits u); show 1 + _ ≤ _; omega
 ·have h8 := size_tx (Lib.decDigits u)
  have h9 := size_tx (joinTo l xs k)
  rw [ByteArray.size_append]; show _ + (1 + _) ≤ _; omega
 ·apply tx_ext
  rw [joinTo, hn]
  simp
set_option maxHeartbeats 1000000 in
theorem l11Join_any (l : List UInt8) (A : Option Addr) (c B : Nat) (xs : List Int) (w : World) (hx : RdI w B A xs) (hB : B ≤ w.heap.size) (hf : Fit xs) (hl : l.length ≤ 1) :
  Calls Tryd.prog 35 #[.string (tx l), .slice A xs.length c] w fun e w' => e = .returned (.string (tx (joinTo l xs xs.length))) ∧ Below w.heap.size w w' := by
 have HX := Lib.hid hx
 have HF := Lib.hid hf
 obtain ⟨n, hn⟩ : ∃ n, n = xs.length := ⟨_, rfl⟩
 have hn4 := hf.1
 rw [← hn] at hn4 ⊢
 have HN := Lib.hid hn
 clear hx hf hn
 go_enter Tryd.func35, Tryd.ntmps35
 go_wp2
 go_loopw [0, 5] (fun o i wr => ∃ k : Nat, k ≤ n ∧ i = .int .i64 (k : Int) ∧ o = .string (tx (joinTo l xs k)) ∧ Hid (Below w.heap.size w wr)) (fun _ i _ => n - (intOf i).toNat)
 case atStart => exact ⟨0, Nat.zero_le _, rfl, rfl, Lib.hid (Below.refl _ _)⟩
 case round =>
  obtain ⟨k, hk, rfl, rfl, HB⟩ := hrel
  by_cases hlt : k < n
  ·obtain ⟨b, off, rfl, hbB, hc⟩ := HX.out (by have := HN.out; omega)
   have g0 := (HB.out.cell (p := ⟨b, off + k, none⟩) (show b < w.heap.size by omega)).trans (hc k (by have := HN.out; omega))
   obtain ⟨u, d, o, a1, a2, e1, e2, e3, e4, r1, r2, e5⟩ := joinStep HF.out l hl k (by have := HN.out; omega)
   have HD := Lib.hid (fun w => l01Dec_any u (by omega) w)
   have hws := HB.out.size
   rw [e3] at HD
   rw [e1] at g0
   have E5 := Lib.hid e5
   rw [e4]
   clear hc e1 e3 e4 e5
   go_wp2_with (go_at_call 27; refine (HD.out _).mono ?_; rintro e w1 ⟨rfl, hb1⟩)
   go_roundw
   case rel => exact ⟨k + 1, hlt, by go_num, by rw [E5.out], Lib.hid (HB.out.trans (hb1.mono hws))⟩
   case measure => simp [intOf]; omega
  ·obtain rfl : k = n := by omega
   go_wp2
   go_ret
   exact ⟨rfl, HB.out⟩
theorem rd3 (w0 : World) (x y z : Int) : RdI (w0.alloc (.cells #[.int .i64 x, .int .i64 y, .int .i64 z] 2)) (w0.alloc (.cells #[.int .i64 x, .int .i64 y, .int .i64 z] 2)).heap.size (some ⟨w0.heap.size, 0, none⟩) [x, y, z] := fun _ =>
 ⟨_, 0, rfl, by simp, fun i hi => by
  rw [Nat.zero_add, World.cell?_alloc_new w0 _ _ i]
  match i, hi with
  | 0, _ => rfl
  | 1, _ => rfl
  | 2, _ => rfl
  | i + 3, h => exact absurd h (by simp)⟩
theorem rd4 (w0 : World) (x y z u : Int) : RdI (w0.alloc (.cells #[.int .i64 x, .int .i64 y, .int .i64 z, .int .i64 u] 2)) (w0.alloc (.cells #[.int .i64 x, .int .i64 y, .int .i64 z, .int .i64 u] 2)).heap.size (some ⟨w0.heap.size, 0, none⟩) [x, y, z, u] := fun _ =>
 ⟨_, 0, rfl, by simp, fun i hi => by
  rw [Nat.zero_add, World.cell?_alloc_new w0 _ _ i]
  match i, hi with
  | 0, _ => rfl
  | 1, _ => rfl
  | 2, _ => rfl
  | 3, _ => rfl
  | i + 4, h => exact absurd h (by simp)⟩
def textS (K W T m f a s : Int) : List UInt8 := if K = 0 then joinTo [114] [W, T, s] 3 else joinTo [99] [m, f, a, s] 4
theorem fit3 {W T s : Int} (h : Reg.bothR W T s = true) : Fit [W, T, s] := by
 obtain ⟨h1, h2, h3, h4, h5, h6⟩ := Reg.bothR_true h
 have hp : (2 : Int) ^ W.toNat ≤ 2 ^ 16 := by
  have : 2 ^ W.toNat ≤ 2 ^ 16 := Nat.pow_le_pow_right (by decide) (by omega)
  have h7 : ((2 ^ W.toNat : Nat) : Int) ≤ ((2 ^ 16 : Nat) : Int) := Int.ofNat_le.2 this
  simpa using h7
 refine ⟨by simp, fun i hi => ?_⟩
 match i, hi with
 | 0, _ => show 0 ≤ W ∧ W < 1000000; omega
 | 1, _ => show 0 ≤ T ∧ T < 1000000; omega
 | 2, _ => show 0 ≤ s ∧ s < 1000000; omega
 | i + 3, h => exact absurd h (by simp)
theorem fit4 {m f a s : Int} (h : Cong.bothB m f a s = true) : Fit [m, f, a, s] := by
 obtain ⟨h1, h2, h3, h4, h5, h6, h7, h8⟩ := Cong.bothB_true h
 refine ⟨by simp, fun i hi => ?_⟩
 match i, hi with
 | 0, _ => show 0 ≤ m ∧ m < 1000000; omega
 | 1, _ => show 0 ≤ f ∧ f < 1000000; omega
 | 2, _ => show 0 ≤ a ∧ a < 1000000; omega
 | 3, _ => show 0 ≤ s ∧ s < 1000000; omega
 | i + 4, h => exact absurd h (by simp)
set_option maxHeartbeats 2000000 in
set_option maxRecDepth 100000 in
theorem l11Text_any (b : Nat) (K W T m f a s : Int) (w : World) (hs : SBox w b K W T m f a s) (hv : streamB K W T m f a s = true) :
  Calls Tryd.prog 26 #[.pointer (some ⟨b, 0, none⟩)] w fun e w' => e = .returned (.string (tx (textS K W T m f a s))) ∧ Below w.heap.size w w' := by
 have c0 := hs.c0
 have c1 := hs.c1
 have c2 := hs.c2
 have c3 := hs.c3
 have c4 := hs.c4
 have c5 := hs.c5
 have c6 := hs.c6
 clear hs
 by_cases hK : K = 0
 ·subst hK
  have hf : Fit [W, T, s] := fit3 (by simp [streamB] at hv; exact hv.2)
  have HJ : Hid (∀ w0 : World, Calls Tryd.prog 35 #[.string { data := #[114] }, .slice (some ⟨w0.heap.size, 0, none⟩) 3 3] (w0.alloc (.cells #[.int .i64 W, .int .i64 T, .int .i64 s] 2)).drew fun e w' => e = .returned (.string (tx (textS 0 W T m f a s))) ∧ Below w0.heap.size w0 w') :=
   Lib.hid fun w0 => (l11Join_any [114] _ 3 _ [W, T, s] _ ((rd3 w0 W T s).below ((Below.refl _ _).drew) (Nat.le_refl _)) (Nat.le_refl _) hf (by decide)).mono fun e w' h => ⟨h.1, Base.Below.boxed (((Below.refl _ _).drew).trans (h.2.mono (Nat.le_refl _)))⟩
  generalize textS 0 W T m f a s = R at *
  clear hv hf
  go_enter Tryd.func26, Tryd.ntmps26
  go_wp2
  go_region_with (go_at_call 35; refine (HJ.out _).mono ?_; rintro e w1 ⟨rfl, hb1⟩)
  all_goals (try go_wp2)
  all_goals go_ret
  all_goals exact ⟨rfl, hb1⟩
 ·have hK1 : K = 1 := by
   by_cases h : K = 1
   ·exact h
   ·simp [streamB, hK, h] at hv
  subst hK1
  have hf : Fit [m, f, a, s] := fit4 (by simp [streamB] at hv; exact hv.2)
  have HJ : Hid (∀ w0 : World, Calls Tryd.prog 35 #[.string { data := #[99] }, .slice (some ⟨w0.heap.size, 0, none⟩) 4 4] (w0.alloc (.cells #[.int .i64 m, .int .i64 f, .int .i64 a, .int .i64 s] 2)).drew fun e w' => e = .returned (.string (tx (textS 1 W T m f a s))) ∧ Below w0.heap.size w0 w') :=
   Lib.hid fun w0 => (l11Join_any [99] _ 4 _ [m, f, a, s] _ ((rd4 w0 m f a s).below ((Below.refl _ _).drew) (Nat.le_refl _)) (Nat.le_refl _) hf (by decide)).mono fun e w' h => ⟨h.1, Base.Below.boxed (((Below.refl _ _).drew).trans (h.2.mono (Nat.le_refl _)))⟩
  generalize textS 1 W T m f a s = R at *
  clear hv hf hK
  go_enter Tryd.func26, Tryd.ntmps26
  go_wp2
  go_region_with (go_at_call 35; refine (HJ.out _).mono ?_; rintro e w1 ⟨rfl, hb1⟩)
  all_goals (try go_wp2)
  all_goals go_ret
  all_goals exact ⟨rfl, hb1⟩
end Go.Proofs.YtpjepheiagllgaaDoor.StTx
namespace Go.Proofs.YtpjepheiagllgaaDoor.LabD
open Go.RowKit Go.Proofs.YtpjepheiagllgaaDoor Go.Proofs.YtpjepheiagllgaaDoor.Base Go.Proofs.YtpjepheiagllgaaDoor.Mem Go.Proofs.YtpjepheiagllgaaDoor.Dec Go.Proofs.YtpjepheiagllgaaDoor.LabM Go.Proofs.YtpjepheiagllgaaDoor.Str Go.Proofs.YtpjepheiagllgaaDoor.Take Go.Proofs.YtpjepheiagllgaaDoor.StTx Go.Proofs.YtpjepheiagllgaaDoor.Src Go.Proofs.YtpjepheiagllgaaDoor.Blk Go.Proofs.YtpjepheiagllgaaDoor.Draw
set_option linter.unusedVariables false
def Gd (n : Nat) (t : ByteArray) : Prop := t.size ≤ n ∧ ∀ x ∈ t.data.toList, x ≠ 10
theorem Gd.app {n m : Nat} {a b : ByteArray} (h : Gd n a) (k : Gd m b) : Gd (n + m) (a ++ b) := by
 refine ⟨by rw [ByteArray.size_append]; have := h.1; have := k.1; omega, fun x hx => ?_⟩
 rw [app_list] at hx
 rcases List.mem_append.1 hx with h1 | h1
 ·exact h.2 x h1
 ·exact k.2 x h1
theorem Gd.more {n m : Nat} {a : ByteArray} (h : Gd n a) (hm : n ≤ m) : Gd m a := ⟨Nat.le_trans h.1 hm, h.2⟩
theorem Gd.dec {u : Nat} (h : u < 10 ^ 10) : Gd 10 (tx (Lib.decDigits u)) := by
 have hd : ∀ (u : Nat) (x : UInt8), x ∈ Lib.decDigits u → 48 ≤ x.toNat := by
  intro u
  induction u using Nat.strongRecOn with
  | _ u ih =>
   intro x hx
   rw [Lib.decDigits] at hx
   by_cases h10 : u < 10
   ·rw [dif_pos h10] at hx
    obtain rfl := List.mem_singleton.1 hx
    rw [byte_small (by omega)]; omega
   ·rw [dif_neg h10] at hx
    rcases List.mem_append.1 hx with h | h
    ·exact ih (u / 10) (by omega) x h
    ·obtain rfl := List.mem_singleton.1 h
     rw [byte_small (by omega)]; omega
 refine ⟨?_, fun x hx e => ?_⟩
 ·rw [size_tx]
  by_cases h0 : u = 0
  ·subst h0; rw [Lib.decDigits_one (by decide)]; simp
  ·rw [← rd_rev u (by omega), List.length_reverse]
   exact rd_len 10 u h
 ·rw [list_tx] at hx
  have := hd u x hx
  rw [e] at this
  exact absurd this (by decide)
def TextRet (p K : Nat) (ss : List ByteArray) (w : World) (e : Ending) (w' : World) : Prop := ∃ r : Nat, e = .returned (.string (ss.getD r ByteArray.empty)) ∧ r < ss.length ∧ Src w' p K ∧ w.grownBy w' (some p)
set_option maxHeartbeats 1000000 in
set_option maxRecDepth 100000 in
theorem text_any (p K b off c : Nat) (ss : List ByteArray) (w : World) (h : Src w p K) (hK : K ≤ 1000000000000) (hb : b ≠ p) (hlt : b < w.heap.size) (hl : 1 ≤ ss.length) (hm : ss.length ≤ 1000000) (hc : ∀ i, i < ss.length → w.cell? ⟨b, off + i, none⟩ = some (.string (ss.getD i ByteArray.empty))) :
  Calls Tryd.prog 23 #[.pointer (some ⟨p, 0, none⟩), .slice (some ⟨b, off, none⟩) ss.length c] w (TextRet p (K + 2) ss w) := by
 have HP := Lib.hid (pick_any p K ss.length w h hK)
 have HCc := Lib.hid hc
 clear h hc
 go_enter Tryd.func23, Tryd.ntmps23
 go_wp2_with fail
 refine HP.out.mono ?_
 rintro e w1 ⟨r, rfl, hr, s1, g1⟩
 have hr' : r < ss.length := by omega
 have hcell : w1.cell? ⟨b, off + r, none⟩ = some (.string (ss.getD r ByteArray.empty)) := (World.cell?_of_block (a := ⟨b, off + r, none⟩) (g1.block b hlt fun e => hb (Option.some.inj e))).trans (HCc.out r hr')
 have S1 := Lib.hid s1
 have G1 := Lib.hid g1
 clear s1 g1 hr
 have HR : Hid (∀ v, v = ss.getD r ByteArray.empty → TextRet p (K + 2) ss w (.returned (.string v)) w1) := Lib.hid fun v hv => ⟨r, by rw [hv], hr', S1.out, G1.out⟩
 generalize ss.getD r ByteArray.empty = v at *
 go_wp2
 go_ret
 exact HR.out _ rfl
def PickT (p K n : Nat) (w : World) (e : Ending) (w' : World) : Prop := ∃ t : ByteArray, Gd n t ∧ e = .returned (.string t) ∧ Src w' p K ∧ w.grownBy w' (some p)
theorem text_good (p K b off c n : Nat) (ss : List ByteArray) (w : World) (h : Src w p K) (hK : K ≤ 1000000000000) (hb : b ≠ p) (hlt : b < w.heap.size) (hl : 1 ≤ ss.length) (hm : ss.length ≤ 1000000) (hc : ∀ i, i < ss.length → w.cell? ⟨b, off + i, none⟩ = some (.string (ss.getD i ByteArray.empty))) (hg : ∀ i, i < ss.length → Gd n (ss.getD i ByteArray.empty)) :
  Calls Tryd.prog 23 #[.pointer (some ⟨p, 0, none⟩), .slice (some ⟨b, off, none⟩) ss.length c] w (PickT p (K + 2) n w) :=
 (text_any p K b off c ss w h hK hb hlt hl hm hc).mono fun e w' ⟨r, h1, h2, h3, h4⟩ => ⟨_, hg r h2, h1, h3, h4⟩
end Go.Proofs.YtpjepheiagllgaaDoor.LabD

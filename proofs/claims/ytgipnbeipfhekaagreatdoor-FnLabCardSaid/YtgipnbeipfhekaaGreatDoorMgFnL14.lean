/- The chance of a value, of the reference. -/
import Derived.Test.YtgipnbeipfhekaaGreatDoorMgFnL13
import Derived.Test.YtgipnbeipfhekaaGreatDoorMgFnL08
import Derived.Test.YtgipnbeipfhekaaGreatDoorMgFnL05
import Derived.Test.YtgipnbeipfhekaaGreatDoorMgFnL04
import Derived.Test.YtgipnbeipfhekaaGreatDoorMgFnL02
import Derived.Test.YtgipnbeipfhekaaGreatDoorMgFnL03
import Derived.Test.YtgipnbeipfhekaaGreatDoorMgFnL06
import Derived.Lib.Strings
import Derived.Lib.Join
import Derived.Shelf.Spec.SearchS
import Derived.Shelf.Lay
import Derived.Test.YtgipnbeipfhekaaGreatDoorMgFnL07
import Derived.Test.YtgipnbeipfhekaaGreatDoorMgFnL00
import Derived.Deep.Cut
import Derived.Test.YtgipnbeipfhekaaGreatDoorMgFnL09
set_option linter.unusedVariables false
set_option linter.unusedSimpArgs false
set_option maxRecDepth 100000
set_option maxHeartbeats 4000000
namespace Go.Proofs.YtgipnbeipfhekaaGreatDoor
namespace LvH
open Go.RowKit Base Mem MemF GiveM RatM Blk LvM LvQ LvO LvT LvW LvF LvG
end LvH
namespace LvI
open Go.RowKit Base Mem MemF GiveM RatM Blk LvM LvQ LvO LvT LvW LvF LvG LvX
end LvI
namespace LvK
open Go.RowKit Base Mem MemF Blk LvM LvQ LvO LvR LvT LvW LvJ Dice
def lvA (s : ByteArray) : Nat := upS (onesC s.size) ((onesC s.size).c (onesTo (byt s) s.size)) (onesC s.size).many
def lvB (s : ByteArray) : Nat := upS (runsC s.size) ((runsC s.size).c ((runsTo (byt s) s.size).length - 1)) (runsC s.size).many
def lvC (s : ByteArray) : Nat := upS (lenC s.size) ((lenC s.size).c ((mostR (byt s) s.size).toNat - 1)) (lenC s.size).many
def lvF (s : ByteArray) : List Int := [nD s.size (lvA s), dD s.size (lvA s), nD s.size (lvB s), dD s.size (lvB s), nD s.size (lvC s), dD s.size (lvC s)]
def FrRet (p q : Int) (w : World) (e : Ending) (w' : World) : Prop := e = .returned (.tuple #[.agg #[.int .i64 p, .int .i64 q], .bool true]) ∧ Below w.heap.size w w'
end LvK
namespace LvN
open Go.RowKit Base Mem MemF Blk LvK Str Take
def okL (K W T m f a s c : Int) : Bool := streamB K W T m f a s && inR c 1 50
def txtL (K W T m f a s c : Int) : ByteArray := ⟨(takeL K W T m f a s c).toArray⟩
def resL (K W T m f a s c : Int) : List Int := if okL K W T m f a s c = true then lvF (txtL K W T m f a s c) else []
def numL (K W T m f a s c : Int) : Nat := if okL K W T m f a s c = true then 3 else 0
def LvRet (K W T m f a s c : Int) (w : World) (e : Ending) (w' : World) : Prop := FsRet (numL K W T m f a s c) (resL K W T m f a s c) (okL K W T m f a s c) w e w'
theorem LvRet.no {K W T m f a s c : Int} {w w' : World} (h : okL K W T m f a s c = false) (hb : Below w.heap.size w w') : LvRet K W T m f a s c w (.returned (.tuple #[.slice none 0 0, .bool false])) w' := by
 unfold LvRet numL resL
 rw [h]
 exact FsRet.no hb
theorem LvRet.yes {K W T m f a s c : Int} {w w' : World} {A : Option Addr} {k : Nat} (h : okL K W T m f a s c = true) (ho : OwnF w' w.heap.size (.slice A 3 k) 3 (lvF (txtL K W T m f a s c))) (hb : Below w.heap.size w w') : LvRet K W T m f a s c w (.returned (.tuple #[.slice A 3 k, .bool true])) w' := by
 unfold LvRet numL resL
 rw [h]
 exact ⟨A, k, rfl, ho, hb⟩
end LvN
namespace CarM
open Dec LabV Str StM StTx Rd Skip Take Face Val CutP
abbrev Lb := List ByteArray × List St
def posS (ss : List ByteArray) (x : ByteArray) : Nat := Lib.bsGo (fun t => lessS (ss.getD t ByteArray.empty) x) ss.length 0 ss.length
def hasS (ss : List ByteArray) (x : ByteArray) : Bool := decide (posS ss x < ss.length ∧ ss.getD (posS ss x) ByteArray.empty = x)
def findR (L : Lb) (x : ByteArray) : Option St := if hasS L.1 x = true then some (L.2.getD (posS L.1 x) zeroSt) else none
def withR (L : Lb) (x : ByteArray) (r : St) : Lb := if hasS L.1 x = true then (L.1, L.2.set (posS L.1 x) r) else (L.1.take (posS L.1 x) ++ x :: L.1.drop (posS L.1 x), L.2.take (posS L.1 x) ++ r :: L.2.drop (posS L.1 x))
def goneR (L : Lb) (x : ByteArray) : Lb := (L.1.take (posS L.1 x) ++ L.1.drop (posS L.1 x + 1), L.2.take (posS L.1 x) ++ L.2.drop (posS L.1 x + 1))
def labR (L : Lb) : Bool := labB L.1 L.2.length (flat L.2)
def toSt (t : S7) : St := ⟨t.1, t.2.1, t.2.2.1, t.2.2.2.1, t.2.2.2.2.1, t.2.2.2.2.2.1, t.2.2.2.2.2.2⟩
abbrev Tx := List UInt8
def wSet : Tx := [115, 101, 116]
def wCopy : Tx := [99, 111, 112, 121]
def wBits : Tx := [98, 105, 116, 115]
def wSkip : Tx := [115, 107, 105, 112]
def wRoll : Tx := [114, 111, 108, 108]
def wCards : Tx := [99, 97, 114, 100, 115]
def wLevels : Tx := [108, 101, 118, 101, 108, 115]
def wDrop : Tx := [100, 114, 111, 112]
def wShow : Tx := [115, 104, 111, 119]
def wCycle : Tx := [99, 121, 99, 108, 101]
def tOk : Tx := [111, 107]
def tNo : Tx := [110, 111]
def tWhat : Tx := [119, 104, 97, 116]
def tNone : Tx := [110, 111, 110, 101]
def decI (x : Int) : Tx := Lib.decDigits x.toNat
def joinR (sep : Tx) (xs : List Tx) : Tx := Lib.join xs sep
def listR (xs : List Int) : Tx := if xs = [] then tNone else joinR [44] (xs.map decI)
def fracR (p q : Int) : Tx := if q = 1 then decI p else decI p ++ 47 :: decI q
def fracsR (xs : List Int) : Nat → List Tx
 | 0 => []
 | k + 1 => fracsR xs k ++ [fracR (xs.getD (2 * k) 0) (xs.getD (2 * k + 1) 0)]
noncomputable def giveR (L : Lb) (cmd name word : Tx) : Option Lb :=
 match (if cmd = wSet then (rdO word).map toSt else findR L (tx word)) with
 | none => none
 | some r => if labR (withR L (tx name) r) = true then some (withR L (tx name) r) else none
noncomputable def useR (L : Lb) (cmd name : Tx) : Option (Lb × Tx) :=
 match findR L (tx name) with
 | none => none
 | some r => if cmd = wDrop then some (goneR L (tx name), tOk) else if cmd = wShow then some (L, textS r.K r.W r.T r.m r.f r.a r.s) else some (L, decI (preS r.K r.W r.T r.m r.f r.a r.s) ++ 32 :: decI (perS r.K r.W r.T r.m r.f r.a r.s))
noncomputable def drawT (cmd : Tx) (r : St) (n : Int) : Option (St × Tx) :=
 if cmd = wBits then (if okB r.K r.W r.T r.m r.f r.a r.s n = true then some (r.to (takeX r.K r.W r.T r.m r.f r.a r.s n), if takeL r.K r.W r.T r.m r.f r.a r.s n = [] then tNone else takeL r.K r.W r.T r.m r.f r.a r.s n) else none)
 else if cmd = wSkip then (if okS r.K r.W r.T r.m r.f r.a r.s n = true then some (r.to (takeX r.K r.W r.T r.m r.f r.a r.s n), tOk) else none)
 else if cmd = wRoll then (facesR r.K r.W r.T r.m r.f r.a r.s n 1).map (fun q => (r.to q.2, listR q.1))
 else if cmd = wCards then (ordR r.K r.W r.T r.m r.f r.a r.s n).map (fun q => (r.to q.2, listR q.1))
 else if LvN.okL r.K r.W r.T r.m r.f r.a r.s n = true then some (r, joinR [32] (fracsR (LvN.resL r.K r.W r.T r.m r.f r.a r.s n) 3)) else none
noncomputable def drawR (L : Lb) (cmd name word : Tx) : Option (Lb × Tx) :=
 match findR L (tx name), valO word with
 | some r, some n => (drawT cmd r n).map fun q => (withR L (tx name) q.1, q.2)
 | _, _ => none
def wordsR (c : Tx) : Nat :=
 if c = wSet ∨ c = wCopy ∨ c = wBits ∨ c = wSkip ∨ c = wRoll ∨ c = wCards ∨ c = wLevels then 3 else if c = wDrop ∨ c = wShow ∨ c = wCycle then 2 else 0
noncomputable def doR (L : Lb) (c a b : Tx) : Option (Lb × Tx) :=
 if c = wSet ∨ c = wCopy then (giveR L c a b).map fun q => (q, tOk) else if c = wDrop ∨ c = wShow ∨ c = wCycle then useR L c a else drawR L c a b
noncomputable def lineR (L : Lb) (line : Tx) : Lb × Tx :=
 if wordsR ((cutR 32 line).getD 0 []) = (cutR 32 line).length then (doR L ((cutR 32 line).getD 0 []) ((cutR 32 line).getD 1 []) ((cutR 32 line).getD 2 [])).getD (L, tNo) else (L, tWhat)
noncomputable def runR (L : Lb) : List Tx → Lb × Tx
 | [] => (L, [])
 | x :: r => ((runR (lineR L x).1 r).1, (lineR L x).2 ++ 10 :: (runR (lineR L x).1 r).2)
end CarM
end Go.Proofs.YtgipnbeipfhekaaGreatDoor
namespace Go.Proofs
open Go.Shelf
def YtgipnbeipfhekaaGreatDoor.lcS26_ren : Go.Shelf.Ren := ⟨fun | 26 => 184 | 33 => 219 | 34 => 220 | 38 => 237 | n => n, fun | 24 => 50 | 9 => 9 | 3 => 3 | 4 => 4 | 40 => 118 | 0 => 0 | n => n, fun | n => n⟩
theorem YtgipnbeipfhekaaGreatDoor.lcS26 : Go.Proofs.Lays2.n26 Tryz.prog YtgipnbeipfhekaaGreatDoor.lcS26_ren := {
 mixed := by kernel_rfl
 f26 := Tryz.func184.trans (congrArg some (by kernel_rfl))
 f33 := Tryz.func219.trans (congrArg some (by kernel_rfl))
 f34 := Tryz.func220.trans (congrArg some (by kernel_rfl))
 f38 := Tryz.func237.trans (congrArg some (by kernel_rfl))
 t0 := Tryz.underlying0
 a0 := Tryz.isAgg0
 z0 := Tryz.sizeOf0
 v0 := Tryz.zeroValue0
 t3 := Tryz.underlying3
 a3 := Tryz.isAgg3
 z3 := Tryz.sizeOf3
 v3 := Tryz.zeroValue3
 t4 := Tryz.underlying4
 a4 := Tryz.isAgg4
 z4 := Tryz.sizeOf4
 v4 := Tryz.zeroValue4
 t9 := Tryz.underlying9
 a9 := Tryz.isAgg9
 z9 := Tryz.sizeOf9
 v9 := Tryz.zeroValue9
 t24 := Tryz.underlying50
 a24 := Tryz.isAgg50
 z24 := Tryz.sizeOf50
 v24 := Tryz.zeroValue50
 t40 := Tryz.underlying118
 a40 := Tryz.isAgg118
 z40 := Tryz.sizeOf118
 v40 := Tryz.zeroValue118 }
end Go.Proofs
namespace Go.Proofs.YtgipnbeipfhekaaGreatDoor
namespace LcA
open Go.RowKit Base Mem Take MemS LabM LabV StM Dec CarM
theorem search_any (A : Option Addr) (c B : Nat) (ss : List ByteArray) (x : ByteArray) (w : World) (hx : RdT w B A ss) (hn : ss.length ≤ 1000) :
  Calls Tryz.prog 184 #[.slice A ss.length c, .string x] w fun e w' => e = .returned (.tuple #[.int .i64 ((posS ss x : Nat) : Int), .bool (hasS ss x)]) ∧ Below w.heap.size w w' := by
 by_cases h0 : ss = []
 ·subst h0
  refine (Any2.slices_BinarySearch_string_empty YtgipnbeipfhekaaGreatDoor.lcS26 A c x w).mono ?_
  rintro e w' ⟨rfl, rfl⟩
  exact ⟨rfl, Below.refl _ _⟩
 ·have hpos : 0 < ss.length := List.length_pos_iff.2 h0
  obtain ⟨b, off, rfl, _, hc⟩ := hx hpos
  refine (Any2.slices_BinarySearch_string YtgipnbeipfhekaaGreatDoor.lcS26 b off ss.length c (fun t => ss.getD t ByteArray.empty) x w (by omega) hc).mono ?_
  rintro e w' ⟨rfl, q, rfl⟩
  exact ⟨rfl, below_drewN (Below.refl _ _) q⟩
def TyAt (w : World) (A : Option Addr) (t : TypeId) : Prop := ∀ b off sub, A = some ⟨b, off, sub⟩ → ∃ cs fr, w.heap[b]? = some (.cells cs t fr)
theorem heap_lt {w : World} {b : Nat} {o : Obj} (h : w.heap[b]? = some o) : b < w.heap.size := by
 rcases Nat.lt_or_ge b w.heap.size with hlt | hge
 ·exact hlt
 ·rw [Array.getElem?_eq_none hge] at h; cases h
theorem TyAt.below {w w' : World} {A : Option Addr} {t : TypeId} (h : TyAt w A t) (hb : Below w.heap.size w w') : TyAt w' A t := fun b off sub e => by
 obtain ⟨cs, fr, h1⟩ := h b off sub e
 exact ⟨cs, fr, (hb.block b (heap_lt h1)).trans h1⟩
theorem TyAt.put {w : World} {A : Option Addr} {t : TypeId} (h : TyAt w A t) (p : Addr) (x : Value) : TyAt (w.setCell p x) A t := fun b off sub e => by
 obtain ⟨cs, fr, h1⟩ := h b off sub e
 by_cases hp : p.block = b
 ·subst hp
  unfold World.setCell
  simp only [Array.getElem?_modify, if_true, h1, Option.map_some]
  exact ⟨_, _, rfl⟩
 ·refine ⟨cs, fr, ?_⟩
  unfold World.setCell
  simp only [Array.getElem?_modify, if_neg hp, h1]
theorem TyAt.own {w : World} {B sz n c : Nat} {A : Option Addr} {t : TypeId} {xs : List Value} (h : w.ownsRow B t sz (.slice A n c) n xs) : TyAt w A t := fun b off sub e => by
 subst e
 obtain ⟨cur, h2, _⟩ := ownsRow_block h (g := b) rfl
 exact ⟨cur, _, h2⟩
theorem TyAt.none (w : World) (t : TypeId) : TyAt w none t := by
 intro b off sub e
 cases e
def LabAt (w : World) (v : Value) (L : Lb) : Prop := ∃ A c A' c', v = .agg #[.slice A L.1.length c, .slice A' L.2.length c'] ∧ RdT w w.heap.size A L.1 ∧ RdS w w.heap.size A' L.2.length (flat L.2) ∧ TyAt w A 9 ∧ TyAt w A' 29
theorem LabAt.below {w w' : World} {v : Value} {L : Lb} (h : LabAt w v L) (hb : Below w.heap.size w w') : LabAt w' v L := by
 obtain ⟨A, c, A', c', e, h1, h2, h3, h4⟩ := h
 exact ⟨A, c, A', c', e, (h1.below hb (Nat.le_refl _)).more hb.size, (h2.below hb (Nat.le_refl _)).more hb.size, h3.below hb, h4.below hb⟩
theorem LabAt.nil (w : World) : LabAt w (.agg #[.slice none 0 0, .slice none 0 0]) ([], []) := ⟨none, 0, none, 0, rfl, fun h => absurd h (Nat.lt_irrefl 0), fun h => absurd h (Nat.lt_irrefl 0), TyAt.none w _, TyAt.none w _⟩
theorem RdS.st {w : World} {B : Nat} {A : Option Addr} {xs : List St} (h : RdS w B A xs.length (flat xs)) {j : Nat} (hj : j < xs.length) : ∃ b off, A = some ⟨b, off, none⟩ ∧ b < B ∧ At7 w b (off + j * 7) (fun i => (xs.getD j zeroSt).l.getD i 0) := by
 obtain ⟨b, off, e, hb, hc⟩ := RdS.at7 h hj
 refine ⟨b, off, e, hb, ?_⟩
 have k : ∀ i, i < 7 → (flat xs).getD (7 * j + i) 0 = (xs.getD j zeroSt).l.getD i 0 := fun i hi => flat_get xs j i hi
 exact ⟨(k 0 (by decide)) ▸ hc.c0, (k 1 (by decide)) ▸ hc.c1, (k 2 (by decide)) ▸ hc.c2, (k 3 (by decide)) ▸ hc.c3, (k 4 (by decide)) ▸ hc.c4, (k 5 (by decide)) ▸ hc.c5, (k 6 (by decide)) ▸ hc.c6⟩
theorem find_any (L : Lb) (A A' : Option Addr) (c c' : Nat) (x : ByteArray) (w : World) (hx : RdT w w.heap.size A L.1) (hy : RdS w w.heap.size A' L.2.length (flat L.2)) (hl : L.1.length = L.2.length) (hn : L.1.length ≤ 6) :
  Calls Tryz.prog 137 #[.agg #[.slice A L.1.length c, .slice A' L.2.length c'], .string x] w fun e w' => e = .returned (match findR L x with | some r => .tuple #[r.val, .bool true] | none => .tuple #[zeroSt.val, .bool false]) ∧ Below w.heap.size w w' := by
 have HX := J hx
 have HY := J hy
 obtain ⟨W1, hW1⟩ : ∃ W1, W1 = (w.alloc (.cells #[.slice A L.1.length c, .slice A' L.2.length c'] 53)).alloc (.cells #[.int .i64 0, .int .i64 0, .int .i64 0, .int .i64 0, .int .i64 0, .int .i64 0, .int .i64 0] 29) := ⟨_, rfl⟩
 have b1 : Below w.heap.size w W1 := by rw [hW1]; exact ((Below.refl _ _).alloc (Nat.le_refl _) _).alloc (by simp) _
 have KL : Blk.Blk W1 w.heap.size 53 #[.slice A L.1.length c, .slice A' L.2.length c'] := by rw [hW1]; exact (Blk.Blk.new w _ _).alloc _
 have KR : SBox W1 (w.heap.size + 1) 0 0 0 0 0 0 0 := by
  have := SBox.new (w.alloc (.cells #[.slice A L.1.length c, .slice A' L.2.length c'] 53)) 0 0 0 0 0 0 0
  rw [World.size_alloc] at this
  rw [hW1]; exact this
 have HR := J KR
 have HLL := J hl
 have HS := J (search_any A c W1.heap.size L.1 x W1 ((hx.below b1 (Nat.le_refl _)).more b1.size) (by omega))
 have HW := J hW1
 have HB := J b1
 have HK := J KL
 have d0 := KL.at 0 (v := .slice A L.1.length c) rfl
 have d1 := KL.at 1 (v := .slice A' L.2.length c') rfl
 clear hx hy hW1 b1 KL KR hl
 cases hh : hasS L.1 x with
 | false =>
  have HF : Hid (findR L x = none) := J (by unfold findR; rw [hh]; rfl)
  rw [hh] at HS
  rw [HF.out]
  clear hh
  generalize posS L.1 x = q at *
  go_enter Tryz.func137, Tryz.ntmps137
  go_wp2_with fail
  rw [← HW.out]
  refine HS.out.mono ?_
  rintro e w' ⟨rfl, hb⟩
  have HB2 := J (Base.Below.nextA HB.out hb)
  have KR2 := HR.out.below hb HR.out.lt
  have x0 := (KR2).c0; have x1 := (KR2).c1; have x2 := (KR2).c2; have x3 := (KR2).c3; have x4 := (KR2).c4; have x5 := (KR2).c5; have x6 := (KR2).c6
  have z0 := (KR2).frz 0; have z1 := (KR2).frz 1; have z2 := (KR2).frz 2; have z3 := (KR2).frz 3; have z4 := (KR2).frz 4; have z5 := (KR2).frz 5; have z6 := (KR2).frz 6
  have S8 := KR2.set7 0 0 0 0 0 0 0
  have p0 := (S8).c0; have p1 := (S8).c1; have p2 := (S8).c2; have p3 := (S8).c3; have p4 := (S8).c4; have p5 := (S8).c5; have p6 := (S8).c6
  simp only [set7] at p0 p1 p2 p3 p4 p5 p6
  clear hb KR2 S8
  go_wp2
  refine bodyPost_ret (v := .tuple #[zeroSt.val, .bool false]) (by simp [results, Tryz.results137, go_sem, zeroSt, St.val, p0, p1, p2, p3, p4, p5, p6]) rfl ?_
  exact ⟨rfl, (((((((HB2.out).setCell (Nat.le_succ _) _).setCell (Nat.le_succ _) _).setCell (Nat.le_succ _) _).setCell (Nat.le_succ _) _).setCell (Nat.le_succ _) _).setCell (Nat.le_succ _) _).setCell (Nat.le_succ _) _⟩
 | true =>
  have hp : posS L.1 x < L.1.length := (of_decide_eq_true hh).1
  obtain ⟨r, hr⟩ : ∃ r, r = L.2.getD (posS L.1 x) zeroSt := ⟨_, rfl⟩
  have HF : Hid (findR L x = some r) := J (by unfold findR; rw [hh, hr]; rfl)
  obtain ⟨b, off, rfl, hbb, hc⟩ := RdS.st HY.out (show posS L.1 x < L.2.length by have := HLL.out; omega)
  rw [← hr] at hc
  rw [hh] at HS
  rw [HF.out]
  have HC := J hc
  clear hh hr hc
  generalize posS L.1 x = q at *
  have hpl : (q : Int) < (L.2.length : Int) := by have := HLL.out; omega
  go_enter Tryz.func137, Tryz.ntmps137
  go_wp2_with fail
  rw [← HW.out]
  refine HS.out.mono ?_
  rintro e w' ⟨rfl, hb⟩
  have bb := Base.Below.nextA HB.out hb
  have K2 := HK.out.belowS hb
  have e0 := K2.at 0 (v := .slice A L.1.length c) rfl
  have e1 := K2.at 1 (v := .slice (some ⟨b, off, none⟩) L.2.length c') rfl
  have G := HC.out.below bb hbb
  have g0 := G.c0
  have g1 := G.c1
  have g2 := G.c2
  have g3 := G.c3
  have g4 := G.c4
  have g5 := G.c5
  have g6 := G.c6
  have HB2 := J bb
  have KR2 := HR.out.below hb HR.out.lt
  have x0 := (KR2).c0; have x1 := (KR2).c1; have x2 := (KR2).c2; have x3 := (KR2).c3; have x4 := (KR2).c4; have x5 := (KR2).c5; have x6 := (KR2).c6
  have z0 := (KR2).frz 0; have z1 := (KR2).frz 1; have z2 := (KR2).frz 2; have z3 := (KR2).frz 3; have z4 := (KR2).frz 4; have z5 := (KR2).frz 5; have z6 := (KR2).frz 6
  have S8 := KR2.set7 r.K r.W r.T r.m r.f r.a r.s
  have p0 := (S8).c0; have p1 := (S8).c1; have p2 := (S8).c2; have p3 := (S8).c3; have p4 := (S8).c4; have p5 := (S8).c5; have p6 := (S8).c6
  simp only [set7] at p0 p1 p2 p3 p4 p5 p6
  simp only [St.l, List.getD_cons_zero, List.getD_cons_succ] at g0 g1 g2 g3 g4 g5 g6
  clear hb bb K2 HC KR2 S8 G
  obtain ⟨K, W, T, m, f, a, s⟩ := r
  go_wp2
  refine bodyPost_ret (v := .tuple #[.agg #[.int .i64 K, .int .i64 W, .int .i64 T, .int .i64 m, .int .i64 f, .int .i64 a, .int .i64 s], .bool true]) (by simp [results, Tryz.results137, go_sem, p0, p1, p2, p3, p4, p5, p6]) rfl ?_
  exact ⟨rfl, (((((((HB2.out).setCell (Nat.le_succ _) _).setCell (Nat.le_succ _) _).setCell (Nat.le_succ _) _).setCell (Nat.le_succ _) _).setCell (Nat.le_succ _) _).setCell (Nat.le_succ _) _).setCell (Nat.le_succ _) _⟩
end LcA
namespace LcC
open Go.RowKit Base Mem MemS LabM LabV StM CarM LcA
theorem newsT {w : World} {B : Nat} {ad : Addr} {ss : List ByteArray} (h : RdT w B (some ad) ss) (hB : B ≤ w.heap.size) (o : Obj) : ∀ j u, (texts ss)[j]? = some u → (w.alloc o).cell? (ad.add j) = some u := fun j u hj => by
 have hl : j < ss.length := by
  have := (List.getElem?_eq_some_iff.1 hj).1
  simpa [texts] using this
 obtain ⟨b, off, e2, _, hc⟩ := (h.below ((Below.refl w.heap.size w).alloc (Nat.le_refl _) o) hB) (by omega)
 injection e2 with e2
 subst e2
 rw [Addr.add_lit, hc j hl]
 simp only [texts, List.getElem?_map, List.getElem?_eq_getElem hl, Option.map_some] at hj
 rw [← hj]
 simp [List.getD, hl]
theorem newsS {w : World} {B n : Nat} {ad : Addr} {fs : List Int} (h : RdS w B (some ad) n fs) (hf : fs.length = 7 * n) (hB : B ≤ w.heap.size) (o : Obj) : ∀ j u, (ints fs)[j]? = some u → (w.alloc o).cell? (ad.add j) = some u := fun j u hj => by
 have hl : j < fs.length := by
  have := (List.getElem?_eq_some_iff.1 hj).1
  rwa [ints_len] at this
 obtain ⟨b, off, e2, _, hc⟩ := (h.below ((Below.refl w.heap.size w).alloc (Nat.le_refl _) o) hB) (by omega)
 injection e2 with e2
 subst e2
 rw [Addr.add_lit, hc j (by omega)]
 rw [ints_get _ j hl] at hj
 rw [← hj]
theorem cloneT_any (A : Option Addr) (c B : Nat) (ss : List ByteArray) (w : World) (hx : RdT w B A ss) (hB : B ≤ w.heap.size) (hn : ss.length ≤ 1000) :
  Calls Tryz.prog 91 #[.slice A ss.length c] w fun e w' => ∃ A' c', e = .returned (.slice A' ss.length c') ∧ w'.ownsRow w.heap.size 9 1 (.slice A' ss.length c') ss.length (texts ss) ∧ Below w.heap.size w w' := by
 obtain ⟨i0, hi, hz0, hz1, hz2⟩ := info_parts infoT
 have q22 : ∀ (w : World) (a : Option Addr) (n c n' c' : Nat), (binOp .eql 50 (.slice a n c) (.slice none n' c')).run Tryz.prog w = .ok (.bool a.isNone) w := fun w a n c n' c' => Lib.run_eql_slice_nil w _ _ a n c n' c' Tryz.underlying50
 cases A with
 | none =>
  have h0 : ss = [] := by
   rcases ss with _ | ⟨x, xs⟩
   ·rfl
   ·obtain ⟨b, off, e, _⟩ := hx (by simp)
    cases e
  subst h0
  clear hx
  go_enter Tryz.func91, Tryz.ntmps91
  go_wp2
  go_ret
  exact ⟨none, 0, rfl, World.ownsRow_nil _ _ _ _, Below.refl _ _⟩
 | some ad =>
  have HN := J (newsT hx hB (.cells #[] 9))
  have HW := J (World.ownsRow_made (base := w.heap.size) (e := 9) (size := 1) w #[] 0 (Nat.le_refl _) (Nat.zero_le _) rfl)
  clear hx
  go_enter Tryz.func91, Tryz.ntmps91
  go_wp2_with (at_builtin; refine wpList_append_own_at _ rfl (.tmp 5) (.tmp 6) 50 rfl w.heap.size 9 i0 (.string ByteArray.empty) 1 16 Tryz.underlying50 hi hz0 hz1 hz2 rfl (by decide) _ _ _ rfl HW.out ad ss.length c (texts ss) rfl ?p1 ?p2 ?p3 ?p4 ?p5 ?p6 ?_)
  try case p1 => simp [texts]
  try case p2 => exact HN.out
  try case p3 => exact fun u hu => by obtain ⟨x, _, rfl⟩ := List.mem_map.1 hu; rfl
  try case p4 => first | (simp only [maxLen]; omega) | omega
  try case p5 => omega
  try case p6 => first | (simp only [World.size_alloc]; omega) | omega
  intro v' w2 hown' hgrow _ he
  have hown2 : w2.ownsRow w.heap.size 9 1 v' ss.length (texts ss) := by simpa using hown'
  obtain ⟨A2, c2, rfl, _⟩ := ownsRow_form hown2
  have HO := J hown2
  have HB2 := J (((Below.refl w.heap.size w).alloc (Nat.le_refl _) (.cells #[] 9)).trans (grown_below (show (w.alloc (.cells #[] 9)).grownBy w2 (some w.heap.size) from hgrow) (fun g e => by injection e with e; omega) (by simp)))
  clear hown' hown2 hgrow he
  go_wp2
  go_ret
  exact ⟨A2, c2, rfl, HO.out, HB2.out⟩
theorem cloneS_any (A : Option Addr) (c B : Nat) (n : Nat) (fs : List Int) (w : World) (hx : RdS w B A n fs) (hB : B ≤ w.heap.size) (hn : n ≤ 1000) (hf : fs.length = 7 * n) :
  Calls Tryz.prog 92 #[.slice A n c] w fun e w' => ∃ A' c', e = .returned (.slice A' n c') ∧ w'.ownsRow w.heap.size 29 7 (.slice A' n c') n (ints fs) ∧ Below w.heap.size w w' := by
 obtain ⟨i0, hi, hz0, hz1, hz2⟩ := info_parts infoSt7
 have q22 : ∀ (w : World) (a : Option Addr) (n c n' c' : Nat), (binOp .eql 51 (.slice a n c) (.slice none n' c')).run Tryz.prog w = .ok (.bool a.isNone) w := fun w a n c n' c' => Lib.run_eql_slice_nil w _ _ a n c n' c' Tryz.underlying51
 cases A with
 | none =>
  have h0 : n = 0 := by
   rcases n with _ | n
   ·rfl
   ·obtain ⟨b, off, e, _⟩ := hx (by omega)
    cases e
  subst h0
  obtain rfl : fs = [] := List.length_eq_zero_iff.1 (by omega)
  clear hx
  go_enter Tryz.func92, Tryz.ntmps92
  go_wp2
  go_ret
  exact ⟨none, 0, rfl, World.ownsRow_nil _ _ _ _, Below.refl _ _⟩
 | some ad =>
  have HN := J (newsS hx hf hB (.cells #[] 29))
  have HW := J (World.ownsRow_made (base := w.heap.size) (e := 29) (size := 7) w #[] 0 (Nat.le_refl _) (Nat.zero_le _) rfl)
  have HFL := J hf
  clear hf
  clear hx
  go_enter Tryz.func92, Tryz.ntmps92
  go_wp2_with (at_builtin; refine wpList_append_own_at _ rfl (.tmp 5) (.tmp 6) 51 rfl w.heap.size 29 i0 (.agg #[.int .i64 0, .int .i64 0, .int .i64 0, .int .i64 0, .int .i64 0, .int .i64 0, .int .i64 0]) 7 56 Tryz.underlying51 hi hz0 hz1 hz2 rfl (by decide) _ _ _ rfl HW.out ad n c (ints fs) rfl ?p1 ?p2 ?p3 ?p4 ?p5 ?p6 ?_)
  try case p1 => have := HFL.out; rw [ints_len]; omega
  try case p2 => exact HN.out
  try case p3 => exact ints_one fs
  try case p4 => first | (simp only [maxLen]; omega) | omega
  try case p5 => omega
  try case p6 => first | (simp only [World.size_alloc]; omega) | omega
  intro v' w2 hown' hgrow _ he
  have hown2 : w2.ownsRow w.heap.size 29 7 v' n (ints fs) := by simpa using hown'
  obtain ⟨A2, c2, rfl, _⟩ := ownsRow_form hown2
  have HO := J hown2
  have HB2 := J (((Below.refl w.heap.size w).alloc (Nat.le_refl _) (.cells #[] 29)).trans (grown_below (show (w.alloc (.cells #[] 29)).grownBy w2 (some w.heap.size) from hgrow) (fun g e => by injection e with e; omega) (by simp)))
  clear hown' hown2 hgrow he
  go_wp2
  go_ret
  exact ⟨A2, c2, rfl, HO.out, HB2.out⟩
end LcC
namespace LcC
open Go.RowKit Base Mem MemS LabM LabV StM CarM LcA
def TCl (B : Nat) (ss : List ByteArray) (w : World) (v : Value) : Prop := ∃ A c, v = .slice A ss.length c ∧ w.ownsRow B 9 1 (.slice A ss.length c) ss.length (texts ss)
theorem tclM (B : Nat) (ss : List ByteArray) : Rel.Mono (fun v w => TCl B ss w v) := fun v w w' ⟨A, c, e, h⟩ hb => ⟨A, c, e, ownsRow_below h hb⟩
def SCl (B n : Nat) (fs : List Int) (w : World) (v : Value) : Prop := ∃ A c, v = .slice A n c ∧ w.ownsRow B 29 7 (.slice A n c) n (ints fs)
theorem sclM (B n : Nat) (fs : List Int) : Rel.Mono (fun v w => SCl B n fs w v) := fun v w w' ⟨A, c, e, h⟩ hb => ⟨A, c, e, ownsRow_below h hb⟩
theorem ownsRow_setCell_below' {w : World} {B b : Nat} {e t : TypeId} {sz n : Nat} {v : Value} {xs : List Value} {cs : Array Value} (h : w.ownsRow B e sz v n xs) (hK : Blk.Blk w b t cs) (i : Nat) (x : Value) (j : Nat) (y : Value) (hne : e ≠ t := by decide) :
  ((w.setCell ⟨b, i, none⟩ x).setCell ⟨b, j, none⟩ y).ownsRow B e sz v n xs := by
 have h1 : v.ownBlock ≠ some b := fun he => by
  obtain ⟨cur, h2, _⟩ := ownsRow_block h he
  unfold Blk.Blk at hK
  rw [hK] at h2
  injection h2 with h2
  injection h2 with _ h3
  exact hne h3.symm
 exact World.ownsRow.kept (World.ownsRow.kept h (Src.grown_setCell _ _ _) (.inr h1)) (Src.grown_setCell _ _ _) (.inr h1)
def LCl (B : Nat) (ss : List ByteArray) (M : Nat) (fs : List Int) (w : World) (v : Value) : Prop := ∃ A1 c1 A2 c2, v = .agg #[.slice A1 ss.length c1, .slice A2 M c2] ∧ w.ownsRow B 9 1 (.slice A1 ss.length c1) ss.length (texts ss) ∧ w.ownsRow B 29 7 (.slice A2 M c2) M (ints fs)
theorem lclM (B : Nat) (ss : List ByteArray) (M : Nat) (fs : List Int) : Rel.Mono (fun v w => LCl B ss M fs w v) := fun v w w' ⟨A1, c1, A2, c2, e, h1, h2⟩ hb => ⟨A1, c1, A2, c2, e, ownsRow_below h1 hb, ownsRow_below h2 hb⟩
def LabOwn (B : Nat) (w : World) (v : Value) (L : Lb) : Prop := ∃ A c A' c', v = .agg #[.slice A L.1.length c, .slice A' L.2.length c'] ∧ w.ownsRow B 9 1 (.slice A L.1.length c) L.1.length (texts L.1) ∧ w.ownsRow B 29 7 (.slice A' L.2.length c') L.2.length (ints (flat L.2))
theorem LabOwn.below {B : Nat} {w w' : World} {v : Value} {L : Lb} (h : LabOwn B w v L) (hb : Below w.heap.size w w') : LabOwn B w' v L := by
 obtain ⟨A, c, A', c', e, h1, h2⟩ := h
 exact ⟨A, c, A', c', e, ownsRow_below h1 hb, ownsRow_below h2 hb⟩
theorem LabOwn.at {B : Nat} {w : World} {v : Value} {L : Lb} (h : LabOwn B w v L) : LabAt w v L := by
 obtain ⟨A, c, A', c', e, h1, h2⟩ := h
 exact ⟨A, c, A', c', e, OwnT.rd h1, OwnS.rd h2, TyAt.own h1, TyAt.own h2⟩
theorem labClone_rd (A A' : Option Addr) (c c' M : Nat) (ss : List ByteArray) (fs : List Int) (w : World) (hx : RdT w w.heap.size A ss) (hy : RdS w w.heap.size A' M fs) (hn : ss.length ≤ 1000) (hn2 : M ≤ 1000) (hf : fs.length = 7 * M) :
  Calls Tryz.prog 47 #[.agg #[.slice A ss.length c, .slice A' M c']] w fun e w' => ∃ v', e = .returned v' ∧ (∃ A1 c1 A2 c2, v' = .agg #[.slice A1 ss.length c1, .slice A2 M c2] ∧ w'.ownsRow w.heap.size 9 1 (.slice A1 ss.length c1) ss.length (texts ss) ∧ w'.ownsRow w.heap.size 29 7 (.slice A2 M c2) M (ints fs)) ∧ Below w.heap.size w w' := by
 obtain ⟨W2, hW2⟩ : ∃ W2, W2 = (w.alloc (.cells #[.slice A ss.length c, .slice A' M c'] 53)).alloc (.cells #[.slice none 0 0, .slice none 0 0] 53) := ⟨_, rfl⟩
 have b2 : Below w.heap.size w W2 := by rw [hW2]; exact ((Below.refl _ _).alloc (Nat.le_refl _) _).alloc (by simp) _
 have KL : Hid (Blk.Blk W2 w.heap.size 53 #[.slice A ss.length c, .slice A' M c']) := J (by rw [hW2]; exact (Blk.Blk.new w _ _).alloc _)
 have KR : Hid (Blk.Blk W2 (w.heap.size + 1) 53 #[.slice none 0 0, .slice none 0 0]) := J (by rw [hW2]; exact Blk.Blk.newAt _ _ (by simp))
 have hx2 := (hx.below b2 (Nat.le_refl _)).more b2.size
 have hy2 := (hy.below b2 (Nat.le_refl _)).more b2.size
 have HT := J (fun W (hW : Below W2.heap.size W2 W) => cloneT_any A c W.heap.size ss W ((hx2.below hW (Nat.le_refl _)).more hW.size) (Nat.le_refl _) hn)
 have HS := J (fun W (hW : Below W2.heap.size W2 W) => cloneS_any A' c' W.heap.size M fs W ((hy2.below hW (Nat.le_refl _)).more hW.size) (Nat.le_refl _) hn2 hf)
 have HB := J b2
 have HBW := J b2.size
 have HW := J hW2
 clear hW2 b2 hx hy hx2 hy2 hf
 go_enter Tryz.func47, Tryz.ntmps47
 go_wp2_with fail
 rw [← HW.out]
 refine Rel.wp_region_rel 7 (by kernel_rfl) (by kernel_rfl) (fun F hF => ?_)
 simp only [List.take_succ_cons, List.take_zero, List.drop_succ_cons, List.drop_zero, Rel.putL] at hF ⊢
 have HF := J hF
 clear hF
 have uv := @Rel.upon_value Tryz.prog
 have ue := @Rel.upon_enter Tryz.prog
 apply Rel.rel_pure
 apply Exists.intro
 refine ⟨fun vs wq hq hdp R hR => ?_, ?_⟩
 ·(rw [HF.out, Rel.stepAt_eq]; clear hdp; skip; go_simp; exact hR)
 apply Rel.rel_pure
 apply Exists.intro
 refine ⟨fun vs wq hq hdp R hR => ?_, ?_⟩
 ·(rw [HF.out, Rel.stepAt_eq]; have qd0 : vs 0 = _ := Rel.dep hdp 0 (by kernel_rfl); clear hdp; have x0 := (KL.out.belowS hq).at 0 (v := .slice A ss.length c) rfl; go_simp; exact hR)
 refine Rel.rel_law (S := fun v w' => TCl w.heap.size ss w' v) (tclM w.heap.size ss) (fun vs wq hq hdp => ?_) ?_
 ·(rw [HF.out, Rel.stepAt_eq]; have qd1 : vs 1 = _ := Rel.dep hdp 1 (by kernel_rfl); clear hdp; skip; go_simp; refine (HT.out wq hq).mono ?_; rintro e w7 ⟨A9, c9, rfl, ho, hb⟩; exact ⟨_, rfl, ⟨A9, c9, rfl, ownsRow_base ho (Nat.le_trans HBW.out hq.size)⟩, hb⟩)
 apply Rel.rel_pure
 apply Exists.intro
 refine ⟨fun vs wq hq hdp R hR => ?_, ?_⟩
 ·(rw [HF.out, Rel.stepAt_eq]; clear hdp; skip; go_simp; exact hR)
 apply Rel.rel_pure
 apply Exists.intro
 refine ⟨fun vs wq hq hdp R hR => ?_, ?_⟩
 ·(rw [HF.out, Rel.stepAt_eq]; have qd3 : vs 3 = _ := Rel.dep hdp 3 (by kernel_rfl); clear hdp; have x1 := (KL.out.belowS hq).at 1 (v := .slice A' M c') rfl; go_simp; exact hR)
 refine Rel.rel_law (S := fun v w' => SCl w.heap.size M fs w' v) (sclM w.heap.size M fs) (fun vs wq hq hdp => ?_) ?_
 ·(rw [HF.out, Rel.stepAt_eq]; have qd4 : vs 4 = _ := Rel.dep hdp 4 (by kernel_rfl); clear hdp; skip; go_simp; refine (HS.out wq hq).mono ?_; rintro e w7 ⟨A9, c9, rfl, ho, hb⟩; exact ⟨_, rfl, ⟨A9, c9, rfl, ownsRow_base ho (Nat.le_trans HBW.out hq.size)⟩, hb⟩)
 refine Rel.rel_law (S := fun v w' => LCl w.heap.size ss M fs w' v) (lclM w.heap.size ss M fs) (fun vs wq hq hdp => ?_) ?_
 ·(rw [HF.out, Rel.stepAt_eq]; have qd2 : TCl _ _ wq (vs 2) := Rel.dep hdp 2 (by kernel_rfl); have qd5 : SCl _ _ _ wq (vs 5) := Rel.dep hdp 5 (by kernel_rfl); clear hdp; obtain ⟨A1, c1, ev1, ho1⟩ := qd2; obtain ⟨A2, c2, ev2, ho2⟩ := qd5; have HPP : Hid (LCl w.heap.size ss M fs wq (.agg #[.slice A1 ss.length c1, .slice A2 M c2]) ∧ Below wq.heap.size wq wq) := J ⟨⟨A1, c1, A2, c2, rfl, ho1, ho2⟩, Below.refl _ _⟩; clear ho1 ho2; go_simp; exact HPP.out)
 refine Rel.rel_end (fun vs wq hq hall => ?_)
 rw [HF.out]
 have qe0 : vs 0 = _ := Rel.fin hall 0 (by decide)
 have qe1 : vs 1 = _ := Rel.fin hall 1 (by decide)
 have qe2 : TCl _ _ wq (vs 2) := Rel.fin hall 2 (by decide)
 have qe3 : vs 3 = _ := Rel.fin hall 3 (by decide)
 have qe4 : vs 4 = _ := Rel.fin hall 4 (by decide)
 have qe5 : SCl _ _ _ wq (vs 5) := Rel.fin hall 5 (by decide)
 have qe6 : LCl _ _ _ _ wq (vs 6) := Rel.fin hall 6 (by decide)
 clear hall HF uv ue
 obtain ⟨A1, c1, A2, c2, ev, ho1, ho2⟩ := qe6
 have KR2 := KR.out.belowS hq
 have HB2 := Base.Below.nextA HB.out hq
 have r0 := KR2.at 0 (v := .slice none 0 0) rfl
 have r1 := KR2.at 1 (v := .slice none 0 0) rfl
 have f0 := KR2.frz 0
 have f1 := KR2.frz 1
 have KK := (KR2.setTo 0 (.slice A1 ss.length c1) rfl).setTo 1 (.slice A2 M c2) rfl
 have k0 := KK.at 0 (v := .slice A1 ss.length c1) rfl
 have k1 := KK.at 1 (v := .slice A2 M c2) rfl
 have HFIN := J (And.intro (ownsRow_setCell_below' ho1 KR2 0 (.slice A1 ss.length c1) 1 (.slice A2 M c2)) (And.intro (ownsRow_setCell_below' ho2 KR2 0 (.slice A1 ss.length c1) 1 (.slice A2 M c2)) ((HB2.setCell (p := ⟨w.heap.size + 1, 0, none⟩) (Nat.le_succ _) (.slice A1 ss.length c1)).setCell (p := ⟨w.heap.size + 1, 1, none⟩) (Nat.le_succ _) (.slice A2 M c2))))
 clear KK KR2 HB2 ho1 ho2 hq qe0 qe1 qe2 qe3 qe4 qe5
 go_wp2
 refine bodyPost_ret (v := .agg #[.slice A1 ss.length c1, .slice A2 M c2]) (by simp [results, Tryz.results47, go_sem, k0, k1]) rfl ?_
 exact ⟨_, rfl, ⟨A1, c1, A2, c2, rfl, HFIN.out.1, HFIN.out.2.1⟩, HFIN.out.2.2⟩
theorem labClone_any (L : Lb) (v : Value) (w : World) (h : LabAt w v L) (hn : L.1.length ≤ 1000) (hn2 : L.2.length ≤ 1000) :
  Calls Tryz.prog 47 #[v] w fun e w' => ∃ v', e = .returned v' ∧ LabOwn w.heap.size w' v' L ∧ Below w.heap.size w w' := by
 obtain ⟨A, c, A', c', rfl, hx, hy, _⟩ := h
 exact labClone_rd A A' c c' L.2.length L.1 (flat L.2) w hx hy hn hn2 (flat_len _)
end LcC
namespace LcI
open Go.RowKit Base Mem MemS LabM LabV StM CarM LcA
theorem news_add {w : World} {vb : Nat} {xs : List Value} (h : ∀ j u, xs[j]? = some u → w.cell? ⟨vb, j, none⟩ = some u) : ∀ j u, xs[j]? = some u → w.cell? ((⟨vb, 0, none⟩ : Addr).add j) = some u := fun j u hj => by
 rw [Addr.add_lit, Nat.zero_add]; exact h j u hj
theorem insT_end (A : Option Addr) (n c B vb : Nat) (xs news : List Value) (w : World) (hO : w.ownsRow B 9 1 (.slice A n c) n xs) (hB : B ≤ w.heap.size) (hn : n ≤ 1000) (hl : news.length = 1) (h1 : ∀ u ∈ news, u.oneCell' = true)
  (hv : ∀ j u, news[j]? = some u → w.cell? ⟨vb, j, none⟩ = some u) :
  Calls Tryz.prog 185 #[.slice A n c, .int .i64 (n : Int), .slice (some ⟨vb, 0, none⟩) 1 1] w fun e w' => ∃ A' c', e = .returned (.slice A' (n + 1) c') ∧ w'.ownsRow B 9 1 (.slice A' (n + 1) c') (n + 1) (xs ++ news) ∧ w.grownBy w' (Value.slice A n c).ownBlock := by
 obtain ⟨i0, hi, hz0, hz1, hz2⟩ := info_parts infoT
 have HN := J (news_add hv)
 have H1 := J h1
 have HO := J hO
 have hform : (A = none ∧ n = 0) ∨ ∃ g, A = some ⟨g, 0, none⟩ ∧ (n = c ∨ (n < c ∧ ¬ c = n)) := by
  rcases hO.2 with ⟨hv, h0⟩ | ⟨g, cap, cur, hv, _, _, h3, _⟩
  ·injection hv with e1 e2 e3
   exact .inl ⟨e1, h0⟩
  ·injection hv with e1 e2 e3
   exact .inr ⟨g, e1, by omega⟩
 clear hO hv h1
 have hc63 : 0 ≤ c := Nat.zero_le _
 rcases hform with ⟨rfl, rfl⟩ | ⟨g, rfl, rfl | ⟨hnc, hcn⟩⟩
 all_goals
  go_enter Tryz.func185, Tryz.ntmps185
  go_wp2_with (at_builtin; refine wpList_append_own_at _ rfl (.tmp 23) (.tmp 24) 50 rfl B 9 i0 (.string ByteArray.empty) 1 16 Tryz.underlying50 hi hz0 hz1 hz2 rfl (by decide) _ _ _ rfl HO.out ⟨vb, 0, none⟩ 1 1 news rfl ?p1 ?p2 ?p3 ?p4 ?p5 ?p6 ?_)
  try case p1 => omega
  try case p2 => exact HN.out
  try case p3 => exact H1.out
  try case p4 => first | (simp only [maxLen]; omega) | omega
  try case p5 => omega
  try case p6 => first | omega | (simp only [World.size_alloc]; omega)
  intro v' w2 hown' hgrow _ he
  have hown2 : w2.ownsRow B 9 1 v' (_ + 1) (xs ++ news) := hown'
  obtain ⟨A2, c2, rfl, _⟩ := ownsRow_form hown2
  have HFO := J hown2
  have HG := J hgrow
  clear hown' hown2 hgrow he
  go_wp2
  go_ret
  exact ⟨A2, c2, rfl, HFO.out, HG.out⟩
theorem insS_end (A : Option Addr) (n c B vb : Nat) (xs news : List Value) (w : World) (hO : w.ownsRow B 29 7 (.slice A n c) n xs) (hB : B ≤ w.heap.size) (hn : n ≤ 1000) (hl : news.length = 7) (h1 : ∀ u ∈ news, u.oneCell' = true)
  (hv : ∀ j u, news[j]? = some u → w.cell? ⟨vb, j, none⟩ = some u) :
  Calls Tryz.prog 186 #[.slice A n c, .int .i64 (n : Int), .slice (some ⟨vb, 0, none⟩) 1 1] w fun e w' => ∃ A' c', e = .returned (.slice A' (n + 1) c') ∧ w'.ownsRow B 29 7 (.slice A' (n + 1) c') (n + 1) (xs ++ news) ∧ w.grownBy w' (Value.slice A n c).ownBlock := by
 obtain ⟨i0, hi, hz0, hz1, hz2⟩ := info_parts infoSt7
 have HN := J (news_add hv)
 have H1 := J h1
 have HO := J hO
 have hform : (A = none ∧ n = 0) ∨ ∃ g, A = some ⟨g, 0, none⟩ ∧ (n = c ∨ (n < c ∧ ¬ c = n)) := by
  rcases hO.2 with ⟨hv, h0⟩ | ⟨g, cap, cur, hv, _, _, h3, _⟩
  ·injection hv with e1 e2 e3
   exact .inl ⟨e1, h0⟩
  ·injection hv with e1 e2 e3
   exact .inr ⟨g, e1, by omega⟩
 clear hO hv h1
 have hc63 : 0 ≤ c := Nat.zero_le _
 rcases hform with ⟨rfl, rfl⟩ | ⟨g, rfl, rfl | ⟨hnc, hcn⟩⟩
 all_goals
  go_enter Tryz.func186, Tryz.ntmps186
  go_wp2_with (at_builtin; refine wpList_append_own_at _ rfl (.tmp 23) (.tmp 24) 51 rfl B 29 i0 (.agg #[.int .i64 0, .int .i64 0, .int .i64 0, .int .i64 0, .int .i64 0, .int .i64 0, .int .i64 0]) 7 56 Tryz.underlying51 hi hz0 hz1 hz2 rfl (by decide) _ _ _ rfl HO.out ⟨vb, 0, none⟩ 1 1 news rfl ?p1 ?p2 ?p3 ?p4 ?p5 ?p6 ?_)
  try case p1 => omega
  try case p2 => exact HN.out
  try case p3 => exact H1.out
  try case p4 => first | (simp only [maxLen]; omega) | omega
  try case p5 => omega
  try case p6 => first | omega | (simp only [World.size_alloc]; omega)
  intro v' w2 hown' hgrow _ he
  have hown2 : w2.ownsRow B 29 7 v' (_ + 1) (xs ++ news) := hown'
  obtain ⟨A2, c2, rfl, _⟩ := ownsRow_form hown2
  have HFO := J hown2
  have HG := J hgrow
  clear hown' hown2 hgrow he
  go_wp2
  go_ret
  exact ⟨A2, c2, rfl, HFO.out, HG.out⟩
end LcI
namespace LcW
open Go.RowKit Base Mem MemS LabM LabV StM CarM LcA LcC LcI
open Take (SBox)
theorem set_app (l m : List Int) (k : Nat) (v : Int) : (l ++ m).set (l.length + k) v = l ++ m.set k v := by
 rw [List.set_append_right _ _ (Nat.le_add_right _ _), Nat.add_sub_cancel_left]
theorem flat_set7 : ∀ (xs : List St) (p : Nat) (r : St), p < xs.length → ((((((((flat xs).set (7 * p) r.K).set (7 * p + 1) r.W).set (7 * p + 2) r.T).set (7 * p + 3) r.m).set (7 * p + 4) r.f).set (7 * p + 5) r.a).set (7 * p + 6) r.s) = flat (xs.set p r)
 | [], _, _, h => absurd h (Nat.not_lt_zero _)
 | x :: xs, 0, r, _ => rfl
 | x :: xs, p + 1, r, h => by
  have ih := flat_set7 xs p r (Nat.lt_of_succ_lt_succ h)
  have e : ∀ i, 7 * (p + 1) + i = x.l.length + (7 * p + i) := fun i => by show _ = 7 + _; omega
  rw [List.set_cons_succ, flat_cons, flat_cons, ← ih, show 7 * (p + 1) = x.l.length + 7 * p by show _ = 7 + _; omega]
  simp only [Nat.add_assoc]
  rw [set_app, set_app, set_app, set_app, set_app, set_app, set_app]
theorem row_set {w : World} {B g n c p : Nat} {xs : List St} {r : St} (h : w.ownsRow B 29 7 (.slice (some ⟨g, 0, none⟩) n c) n (ints (flat xs))) (hp : p < xs.length) :
  (put7 w g (p * 7) (fun i => r.l.getD i 0)).ownsRow B 29 7 (.slice (some ⟨g, 0, none⟩) n c) n (ints (flat (xs.set p r))) ∧ w.grownBy (put7 w g (p * 7) (fun i => r.l.getD i 0)) (some g) := by
 obtain ⟨h1, g1⟩ := h.stored (7 * p) (.int .i64 r.K)
 obtain ⟨h2, g2⟩ := h1.stored (7 * p + 1) (.int .i64 r.W)
 obtain ⟨h3, g3⟩ := h2.stored (7 * p + 2) (.int .i64 r.T)
 obtain ⟨h4, g4⟩ := h3.stored (7 * p + 3) (.int .i64 r.m)
 obtain ⟨h5, g5⟩ := h4.stored (7 * p + 4) (.int .i64 r.f)
 obtain ⟨h6, g6⟩ := h5.stored (7 * p + 5) (.int .i64 r.a)
 obtain ⟨h7, g7⟩ := h6.stored (7 * p + 6) (.int .i64 r.s)
 rw [ints_set, ints_set, ints_set, ints_set, ints_set, ints_set, ints_set, flat_set7 xs p r hp] at h7
 unfold put7
 rw [Nat.mul_comm p 7]
 exact ⟨h7, grown_trans (grown_trans (grown_trans (grown_trans (grown_trans (grown_trans g1 g2) g3) g4) g5) g6) g7⟩
theorem blkNews {w : World} {b : Nat} {t : TypeId} {cs : Array Value} (h : Blk.Blk w b t cs) : ∀ j u, cs.toList[j]? = some u → w.cell? ⟨b, j, none⟩ = some u := fun j u hu => h.at j (by simpa using hu)
theorem row_at {w : World} {B g n c p : Nat} {xs : List St} (h : w.ownsRow B 29 7 (.slice (some ⟨g, 0, none⟩) n c) xs.length (ints (flat xs))) (hp : p < xs.length) :
  At7 w g (p * 7) (fun i => (xs.getD p zeroSt).l.getD i 0) ∧ ∀ i, w.frozen? ⟨g, i, none⟩ = false := by
 obtain ⟨b, off, e, _, hc⟩ := RdS.st (OwnS.rd h) hp
 injection e with e
 injection e with e1 e2
 subst e1 e2
 rw [Nat.zero_add] at hc
 refine ⟨hc, fun i => ?_⟩
 obtain ⟨cur, h2, _⟩ := ownsRow_block h (g := g) rfl
 exact Lib.frozen_of_heap h2 i
theorem blkFar {w w' : World} {B b n sz : Nat} {e t : TypeId} {v : Value} {xs : List Value} {cs : Array Value} (hK : Blk.Blk w b t cs) (h : w.ownsRow B e sz v n xs) (hg : w.grownBy w' v.ownBlock) (hne : e ≠ t := by decide) : Blk.Blk w' b t cs :=
 hK.kept hg fun he => by
  obtain ⟨cur, h2, _⟩ := ownsRow_block h he
  unfold Blk.Blk at hK
  rw [hK] at h2
  injection h2 with h2
  injection h2 with _ h3
  exact hne h3.symm
theorem with_at (L : Lb) (v : Value) (x : ByteArray) (r : St) (w : World) (h : LabAt w v L) (hl : L.1.length = L.2.length) (hn : L.1.length ≤ 6) (hh : hasS L.1 x = true) (hsz : ∀ i, i < L.1.length → (L.1.getD i ByteArray.empty).size ≤ 9223372036854775807) :
  Calls Tryz.prog 139 #[v, .string x, r.val] w fun e w' => ∃ v', e = .returned (.tuple #[v', .bool (labR (withR L x r))]) ∧ LabOwn w.heap.size w' v' (withR L x r) ∧ Below w.heap.size w w' := by
 have hp : posS L.1 x < L.2.length := by have := (of_decide_eq_true hh).1; omega
 have HR : Hid (withR L x r = (L.1, L.2.set (posS L.1 x) r)) := J (by unfold withR; rw [hh]; rfl)
 rw [HR.out]
 have hns : (L.2.set (posS L.1 x) r).length = L.2.length := by simp
 obtain ⟨nl, hnl⟩ : ∃ nl, nl = L.2.set (posS L.1 x) r := ⟨_, rfl⟩
 rw [← hnl] at HR hns ⊢
 have HLR : Hid (labR (L.1, nl) = labB L.1 L.2.length (flat nl)) := J (by unfold labR; rw [hns])
 obtain ⟨ok, hok⟩ : ∃ ok, ok = labB L.1 L.2.length (flat nl) := ⟨_, rfl⟩
 rw [HLR.out, ← hok]
 have hv0 := h
 obtain ⟨A, c, A', c', rfl, hx, hy, _⟩ := h
 obtain ⟨W3, hW3⟩ : ∃ W3, W3 = ((w.alloc (.cells #[.slice A L.1.length c, .slice A' L.2.length c'] 53)).alloc (.cells #[.int .i64 r.K, .int .i64 r.W, .int .i64 r.T, .int .i64 r.m, .int .i64 r.f, .int .i64 r.a, .int .i64 r.s] 29)).alloc (.cells #[.slice none 0 0, .slice none 0 0] 53) := ⟨_, rfl⟩
 have b3 : Below w.heap.size w W3 := by rw [hW3]; exact (((Below.refl _ _).alloc (Nat.le_refl _) _).alloc (by simp) _).alloc (by simp; omega) _
 have hz3 : W3.heap.size = w.heap.size + 3 := by rw [hW3]; simp
 have KS : SBox W3 (w.heap.size + 1) r.K r.W r.T r.m r.f r.a r.s := by
  have := SBox.new (w.alloc (.cells #[.slice A L.1.length c, .slice A' L.2.length c'] 53)) r.K r.W r.T r.m r.f r.a r.s
  rw [World.size_alloc] at this
  rw [hW3]; exact this.below ((Below.refl _ _).alloc (Nat.le_refl _) _) (by simp)
 have KR : Blk.Blk W3 (w.heap.size + 2) 53 #[.slice none 0 0, .slice none 0 0] := by rw [hW3]; exact Blk.Blk.newAt _ _ (by simp)
 have HCl := J (labClone_any L (.agg #[.slice A L.1.length c, .slice A' L.2.length c']) W3 (hv0.below b3) (by omega) (by omega))
 have HW := J hW3
 have HLL := J hl
 clear hW3 hx hy hl hv0
 obtain ⟨K, W, T, m, f, a, s⟩ := r
 unfold St.val
 dsimp only at KS HW ⊢
 go_enter Tryz.func139, Tryz.ntmps139
 go_wp2_with fail
 rw [← HW.out]
 refine HCl.out.mono ?_
 rintro e w1 ⟨v1, rfl, ⟨A1, c1, A2, c2, rfl, o1, o2⟩, b1⟩
 obtain ⟨W4, hW4⟩ : ∃ W4, W4 = w1.alloc (.cells #[.slice A1 L.1.length c1, .slice A2 L.2.length c2] 53) := ⟨_, rfl⟩
 have b4 : Below w1.heap.size w1 W4 := by rw [hW4]; exact (Below.refl _ _).alloc (Nat.le_refl _) _
 have KT : Blk.Blk W4 w1.heap.size 53 #[.slice A1 L.1.length c1, .slice A2 L.2.length c2] := by rw [hW4]; exact Blk.Blk.new _ _ _
 have b34 := Base.Below.nextA b1 b4
 have hz4 : W4.heap.size = w1.heap.size + 1 := by rw [hW4]; simp
 have p1 := ownsRow_below o1 b4
 have p2 := ownsRow_below o2 b4
 have HSr := J (search_any A1 c1 W4.heap.size L.1 x W4 (OwnT.rd p1) (by omega))
 rw [hh] at HSr
 have HW4 := J hW4
 have KS4 := KS.below b34 KS.lt
 have KR4 := KR.belowS b34
 have B4 := Base.Below.nextA b3 b34
 have hz1 := b1.size
 clear hW4 b4 b34 b1 o1 o2 KS KR b3 HCl HW
 go_wp2_with fail
 rw [← HW4.out]
 refine HSr.out.mono ?_
 rintro e w2 ⟨rfl, hb2⟩
 have KS5 := KS4.below hb2 KS4.lt
 have KR := J (KR4.belowS hb2)
 have KT := J (KT.belowS hb2)
 have HB := J (Base.Below.nextA B4 hb2)
 have q1 := ownsRow_below p1 hb2
 have q2 := ownsRow_below p2 hb2
 have hz2 := hb2.size
 clear KS4 KR4 B4 p1 p2 hb2 HSr HW4
 obtain ⟨A2', c2', e2, hf2⟩ := ownsRow_form q2
 obtain ⟨g, rfl, hg1, hg2⟩ := hf2 (by have := HLL.out; omega)
 injection e2 with e3 e4 e5
 subst e3 e5
 clear e4
 have QA := row_at q2 hp
 have Q2 := row_set (r := ⟨K, W, T, m, f, a, s⟩) q2 hp
 rw [← hnl] at Q2
 obtain ⟨W5, hW5⟩ : ∃ W5, W5 = put7 w2 g (posS L.1 x * 7) (fun i => (⟨K, W, T, m, f, a, s⟩ : St).l.getD i 0) := ⟨_, rfl⟩
 rw [← hW5] at Q2
 have O1 := J (ownsRow_base (LvT.rowKept q1 q2 (by decide) Q2.2) (show w.heap.size ≤ W3.heap.size by omega))
 have O2 := J (ownsRow_base Q2.1 (show w.heap.size ≤ W3.heap.size by omega))
 have KT5 := J (blkFar KT.out q2 Q2.2)
 have KR5 := J (blkFar KR.out q2 Q2.2)
 have HB5 := J (HB.out.trans (grown_below (B := w.heap.size) Q2.2 (fun q e => by injection e with e; omega) (by omega)))
 have HV := J (fun W (hW : Below W5.heap.size W5 W) => implLab_any A1 (some ⟨g, 0, none⟩) c1 c2 W.heap.size L.2.length L.1 (flat nl) W (OwnT.rd (ownsRow_below O1.out hW)) (OwnS.rd (ownsRow_below O2.out hW)) (Nat.le_refl _) hsz (by omega) (by have := HLL.out; omega))
 have HY : Hid (∀ (W : World) (b : Bool), (W.ownsRow w.heap.size 9 1 (.slice A1 L.1.length c1) L.1.length (texts L.1) ∧ W.ownsRow w.heap.size 29 7 (.slice (some ⟨g, 0, none⟩) L.2.length c2) L.2.length (ints (flat nl)) ∧ Below w.heap.size w W) → ∃ v', Ending.returned (.tuple #[.agg #[.slice A1 L.1.length c1, .slice (some ⟨g, 0, none⟩) L.2.length c2], .bool b]) = .returned (.tuple #[v', .bool b]) ∧ LabOwn w.heap.size W v' (L.1, nl) ∧ Below w.heap.size w W) := J fun W b hh2 => ⟨_, rfl, ⟨A1, c1, some ⟨g, 0, none⟩, c2, by rw [hns], hh2.1, by rw [hns]; exact hh2.2.1⟩, hh2.2.2⟩
 rw [← hok] at HV
 have HW5 := J hW5
 unfold put7 at HW5
 simp only [St.l, List.getD_cons_zero, List.getD_cons_succ] at HW5
 have e1 := KT.out.at 1 (v := .slice (some ⟨g, 0, none⟩) L.2.length c2) rfl
 have y0 := (KS5).c0; have y1 := (KS5).c1; have y2 := (KS5).c2; have y3 := (KS5).c3; have y4 := (KS5).c4; have y5 := (KS5).c5; have y6 := (KS5).c6
 obtain ⟨QC, QF⟩ := QA
 have g0 := QC.c0
 have g1 := QC.c1
 have g2 := QC.c2
 have g3 := QC.c3
 have g4 := QC.c4
 have g5 := QC.c5
 have g6 := QC.c6
 have hpl : ((posS L.1 x : Nat) : Int) < (L.2.length : Int) := by omega
 clear QC KS5 q1 q2 Q2 hW5 KT KR HB hp hns HR HLR hnl hh hok
 generalize posS L.1 x = p at *
 generalize (L.2.getD p zeroSt).l.getD 0 0 = u0 at *
 generalize (L.2.getD p zeroSt).l.getD 1 0 = u1 at *
 generalize (L.2.getD p zeroSt).l.getD 2 0 = u2 at *
 generalize (L.2.getD p zeroSt).l.getD 3 0 = u3 at *
 generalize (L.2.getD p zeroSt).l.getD 4 0 = u4 at *
 generalize (L.2.getD p zeroSt).l.getD 5 0 = u5 at *
 generalize (L.2.getD p zeroSt).l.getD 6 0 = u6 at *
 go_wp2_with fail
 rw [← HW5.out]
 have KT := KT5
 have KR := KR5
 have HB := HB5
 clear KT5 KR5 HB5 e1 y0 y1 y2 y3 y4 y5 y6 g0 g1 g2 g3 g4 g5 g6 QF HW5
 refine Rel.wp_region_rel 3 (by kernel_rfl) (by kernel_rfl) (fun F hF => ?_)
 simp only [List.take_succ_cons, List.take_zero, List.drop_succ_cons, List.drop_zero, Rel.putL] at hF ⊢
 have HF := J hF
 clear hF
 have uv := @Rel.upon_value Tryz.prog
 have ue := @Rel.upon_enter Tryz.prog
 apply Rel.rel_pure
 apply Exists.intro
 refine ⟨fun vs wq hq hdp R hR => ?_, ?_⟩
 ·(rw [HF.out, Rel.stepAt_eq]; clear hdp; have x0 := (KT.out.belowS hq).at 0 (v := .slice A1 L.1.length c1) rfl; have x1 := (KT.out.belowS hq).at 1 (v := .slice (some ⟨g, 0, none⟩) L.2.length c2) rfl; go_simp; exact hR)
 apply Rel.rel_pure
 apply Exists.intro
 refine ⟨fun vs wq hq hdp R hR => ?_, ?_⟩
 ·(rw [HF.out, Rel.stepAt_eq]; clear hdp; have x0 := (KT.out.belowS hq).at 0 (v := .slice A1 L.1.length c1) rfl; have x1 := (KT.out.belowS hq).at 1 (v := .slice (some ⟨g, 0, none⟩) L.2.length c2) rfl; go_simp; exact hR)
 apply Rel.rel_same
 apply Exists.intro
 refine ⟨fun vs wq hq hdp => ?_, ?_⟩
 ·(rw [HF.out, Rel.stepAt_eq]; have qd1 : vs 1 = _ := Rel.dep hdp 1 (by kernel_rfl); clear hdp; skip; go_simp; refine (HV.out wq hq).mono ?_; rintro e w7 ⟨rfl, hb⟩; exact ⟨_, rfl, rfl, hb⟩)
 refine Rel.rel_end (fun vs wq hq hall => ?_)
 rw [HF.out]
 have qe0 : vs 0 = _ := Rel.fin hall 0 (by decide)
 have qe1 : vs 1 = _ := Rel.fin hall 1 (by decide)
 have qe2 : vs 2 = _ := Rel.fin hall 2 (by decide)
 clear hall HF uv ue
 have KR2 := KR.out.belowS hq
 have HB2 := Base.Below.nextA HB.out hq
 have r0 := KR2.at 0 (v := .slice none 0 0) rfl
 have r1 := KR2.at 1 (v := .slice none 0 0) rfl
 have f0 := KR2.frz 0
 have f1 := KR2.frz 1
 have KK := (KR2.setTo 0 (.slice A1 L.1.length c1) rfl).setTo 1 (.slice (some ⟨g, 0, none⟩) L.2.length c2) rfl
 have k0 := KK.at 0 (v := .slice A1 L.1.length c1) rfl
 have k1 := KK.at 1 (v := .slice (some ⟨g, 0, none⟩) L.2.length c2) rfl
 have HFIN := J (And.intro (ownsRow_setCell_below' (ownsRow_below O1.out hq) KR2 0 (.slice A1 L.1.length c1) 1 (.slice (some ⟨g, 0, none⟩) L.2.length c2)) (And.intro (ownsRow_setCell_below' (ownsRow_below O2.out hq) KR2 0 (.slice A1 L.1.length c1) 1 (.slice (some ⟨g, 0, none⟩) L.2.length c2)) ((HB2.setCell (p := ⟨w.heap.size + 2, 0, none⟩) (by simp) (.slice A1 L.1.length c1)).setCell (p := ⟨w.heap.size + 2, 1, none⟩) (by simp) (.slice (some ⟨g, 0, none⟩) L.2.length c2))))
 clear KK KR2 HB2 hq qe1
 go_wp2
 refine bodyPost_ret (v := .tuple #[.agg #[.slice A1 L.1.length c1, .slice (some ⟨g, 0, none⟩) L.2.length c2], .bool ok]) (by simp [results, Tryz.results139, go_sem, k0, k1]) rfl ?_
 exact HY.out _ _ ⟨HFIN.out.1, HFIN.out.2.1, HFIN.out.2.2⟩
end LcW
namespace LcG
open Go.RowKit Base Mem MemS LabM LabV StM Dec Val Rd CarM LcA LcC
open Take (SBox set7)
def Tabs (w : World) : Prop := Pow w.heap.size w ∧ Errs w.heap.size w ∧ MaxL w.heap.size w
theorem Tabs.on {w w' : World} (h : Tabs w) (hb : Below w.heap.size w w') : Tabs w' := ⟨powMore (h.1.on hb) hb.size, errMore (h.2.1.on hb) hb.size, maxMore (h.2.2.on hb) hb.size⟩
def WithRet (L : Lb) (x : ByteArray) (r : St) (w : World) (e : Ending) (w' : World) : Prop := ∃ v', e = .returned (.tuple #[v', .bool (labR (withR L x r))]) ∧ LabOwn w.heap.size w' v' (withR L x r) ∧ Below w.heap.size w w'
def WithC (L : Lb) (x : ByteArray) (r : St) : Prop := ∀ v w, LabAt w v L → Calls Tryz.prog 139 #[v, .string x, r.val] w (WithRet L x r w)
theorem withC_at {L : Lb} {x : ByteArray} (r : St) (hl : L.1.length = L.2.length) (hn : L.1.length ≤ 6) (hh : hasS L.1 x = true) (hsz : ∀ i, i < L.1.length → (L.1.getD i ByteArray.empty).size ≤ 9223372036854775807) : WithC L x r := fun v w h => LcW.with_at L v x r w h hl hn hh hsz
theorem find_ex (L : Lb) (v : Value) (x : ByteArray) (w : World) (h : LabAt w v L) (hl : L.1.length = L.2.length) (hn : L.1.length ≤ 6) :
  Calls Tryz.prog 137 #[v, .string x] w fun e w' => ∃ r0 : St, e = .returned (.tuple #[r0.val, .bool (findR L x).isSome]) ∧ (∀ r, findR L x = some r → r0 = r) ∧ Below w.heap.size w w' := by
 obtain ⟨A, c, A', c', rfl, hx, hy, _⟩ := h
 refine (find_any L A A' c c' x w hx hy hl hn).mono ?_
 rintro e w' ⟨rfl, hb⟩
 cases hf : findR L x with
 | none => exact ⟨zeroSt, rfl, fun r hr => (by cases hr), hb⟩
 | some r => exact ⟨r, rfl, fun r' hr => Option.some.inj hr, hb⟩
theorem ownPut {B b : Nat} {w : World} {v : Value} {L : Lb} (h : LabOwn B w v L) (hb : b < B) (x y : Value) : LabOwn B ((w.setCell ⟨b, 0, none⟩ x).setCell ⟨b, 1, none⟩ y) v L := by
 obtain ⟨A, c, A', c', e, h1, h2⟩ := h
 exact ⟨A, c, A', c', e, ownsRow_setCell_below (ownsRow_setCell_below h1 (a := ⟨b, 0, none⟩) hb x) (a := ⟨b, 1, none⟩) hb y, ownsRow_setCell_below (ownsRow_setCell_below h2 (a := ⟨b, 0, none⟩) hb x) (a := ⟨b, 1, none⟩) hb y⟩
end LcG
namespace LcG
open Go.RowKit Base Mem MemS LabM LabV StM Str StTx Dec Val Rd CarM LcA LcC
open Take (SBox set7)
theorem addTx (a b : List UInt8) (h : a.length + b.length ≤ 9223372036854775807) (w : World) : (Op.stringOp .add (tx a) (tx b)).run Tryz.prog w = .ok (.string (tx (a ++ b))) w := strAddS (by apply tx_ext; simp) (by rw [size_tx, size_tx]; exact h) w
theorem cyc_in {r : St} (hv : r.ok = true) : ∃ p q : Nat, preS r.K r.W r.T r.m r.f r.a r.s = (p : Int) ∧ perS r.K r.W r.T r.m r.f r.a r.s = (q : Int) ∧ p ≤ 200000 ∧ 1 ≤ q ∧ q ≤ 200000 := by
 obtain ⟨U, X, j, n, h⟩ := ApartM.way hv
 have h1 := h.cyc.1
 have h2 := h.small
 exact ⟨j, n - j, h.pre, by rw [h.per]; omega, by omega, by omega, by omega⟩
theorem dec_len {u : Nat} (h : u < 10 ^ 19) : (Lib.decDigits u).length ≤ 20 := by
 by_cases h0 : u = 0
 ·subst h0; decide +kernel
 ·rw [← rd_rev u (by omega), List.length_reverse]
  exact rd_len 20 u (by omega)
theorem use_cycle {L : Lb} {nm : ByteArray} {r : St} (hf : findR L nm = some r) (hv : r.ok = true) (hl : L.1.length = L.2.length) (hn : L.1.length ≤ 6) (v : Value) (w : World) (h : LabAt w v L) (ht : Tabs w) :
  Calls Tryz.prog 88 #[v, .string ⟨#[99, 121, 99, 108, 101]⟩, .string nm] w fun e w' => e = .returned (.tuple #[v, .string (tx (decI (preS r.K r.W r.T r.m r.f r.a r.s) ++ 32 :: decI (perS r.K r.W r.T r.m r.f r.a r.s))), .bool true]) ∧ Below w.heap.size w w' := by
 obtain ⟨p, q, hp1, hq1, hp2, _, hq2⟩ := cyc_in hv
 have HCy := J (fun W => implCycle_any hv W)
 rw [hp1, hq1] at HCy ⊢
 unfold decI
 rw [Int.toNat_natCast, Int.toNat_natCast]
 have hd1 := dec_len (u := p) (by omega)
 have hd2 := dec_len (u := q) (by omega)
 have HD := J (fun W (hb : Below w.heap.size w W) => And.intro (decimal_any p (by omega) W.heap.size W (ht.on hb).1 (Nat.le_refl _)) (decimal_any q (by omega) W.heap.size W (ht.on hb).1 (Nat.le_refl _)))
 have HA1 := J (addTx (Lib.decDigits p) [32] (by simp; omega))
 have HA2 := J (addTx (Lib.decDigits p ++ [32]) (Lib.decDigits q) (by simp; omega))
 rw [show Lib.decDigits p ++ [32] ++ Lib.decDigits q = Lib.decDigits p ++ 32 :: Lib.decDigits q by simp] at HA2
 have hv0 := h
 obtain ⟨A, c, A', c', rfl, hx, hy, _⟩ := h
 obtain ⟨W2, hW2⟩ : ∃ W2, W2 = (w.alloc (.cells #[.slice A L.1.length c, .slice A' L.2.length c'] 53)).alloc (.cells #[.slice none 0 0, .slice none 0 0] 53) := ⟨_, rfl⟩
 have b2 : Below w.heap.size w W2 := by rw [hW2]; exact ((Below.refl _ _).alloc (Nat.le_refl _) _).alloc (by simp) _
 have KL : Hid (Blk.Blk W2 w.heap.size 53 #[.slice A L.1.length c, .slice A' L.2.length c']) := J (by rw [hW2]; exact (Blk.Blk.new w _ _).alloc _)
 have KR : Hid (Blk.Blk W2 (w.heap.size + 1) 53 #[.slice none 0 0, .slice none 0 0]) := J (by rw [hW2]; exact Blk.Blk.newAt _ _ (by simp))
 have HF := J (find_ex L (.agg #[.slice A L.1.length c, .slice A' L.2.length c']) nm W2 (hv0.below b2) hl hn)
 have HB := J b2
 have HW := J hW2
 rw [hf] at HF
 clear hv hv0 hx hy hW2 b2 ht hl hf hp1 hq1 hd1 hd2
 generalize tx (Lib.decDigits p ++ 32 :: Lib.decDigits q) = t3 at *
 generalize tx (Lib.decDigits p ++ [32]) = t2 at *
 generalize tx (Lib.decDigits p) = t1 at *
 generalize tx (Lib.decDigits q) = t0 at *
 obtain ⟨K, W, T, m, f, a, s⟩ := r
 dsimp only at HCy HF
 go_enter Tryz.func88, Tryz.ntmps88
 go_wp2_with fail
 rw [← HW.out]
 refine HF.out.mono ?_
 rintro e w1 ⟨r0, rfl, hr0, b1⟩
 obtain rfl := hr0 _ rfl
 have KL1 := J (KL.out.belowS b1)
 have KR1 := J (KR.out.belowS b1)
 have HB1 := J (Base.Below.nextA HB.out b1)
 clear b1 KL KR HB HF HW hr0
 unfold St.val
 dsimp only
 obtain ⟨W3, hW3⟩ : ∃ W3, W3 = w1.alloc (.cells #[.int .i64 K, .int .i64 W, .int .i64 T, .int .i64 m, .int .i64 f, .int .i64 a, .int .i64 s] 29) := ⟨_, rfl⟩
 have b3 : Below w1.heap.size w1 W3 := by rw [hW3]; exact (Below.refl _ _).alloc (Nat.le_refl _) _
 have HW3 := J hW3
 have KL3 := J (KL1.out.belowS b3)
 have KR3 := J (KR1.out.belowS b3)
 have HB3 := J (Base.Below.nextA HB1.out b3)
 clear b3 hW3 KL1 KR1 HB1
 go_wp2_with fail
 rw [← HW3.out]
 refine (HCy.out W3).mono ?_
 rintro e w4 ⟨rfl, b4⟩
 have KL := J (KL3.out.belowS b4)
 have KR := J (KR3.out.belowS b4)
 have HB4 := J (Base.Below.nextA HB3.out b4)
 have HSZ : Hid (w.heap.size + 1 ≤ w4.heap.size) := J (Nat.le_of_lt KR.out.lt)
 have HEV := J (RelR.evBox_ok (w.heap.size + 1) (w.heap.size + 1) 53 #[.slice none 0 0, .slice none 0 0] #[.slice A L.1.length c, .slice A' L.2.length c'])
 clear b4 KL3 KR3 HB3 HCy HW3
 go_wp2_with fail
 refine RelR.wp_region_rel HEV.out 8 (by kernel_rfl) (by kernel_rfl) (fun F hF => ?_)
 simp only [List.take_succ_cons, List.take_zero, List.drop_succ_cons, List.drop_zero, Rel.putL] at hF ⊢
 have HF := J hF
 clear hF
 have uv := @Rel.upon_value Tryz.prog
 have ue := @Rel.upon_enter Tryz.prog
 have us := @RelR.upon_skip Tryz.prog
 apply RelR.rel_pure HEV.out
 apply Exists.intro
 refine ⟨fun vs wq hq hdp R hR => ?_, ?_⟩
 ·(rw [HF.out, Rel.stepAt_eq]; clear hdp; have x0 := (KL.out.below hq.1 (Nat.lt_succ_self _)).at 0 (v := .slice A L.1.length c) rfl; have x1 := (KL.out.below hq.1 (Nat.lt_succ_self _)).at 1 (v := .slice A' L.2.length c') rfl; go_simp; exact hR)
 apply RelR.rel_pure HEV.out
 apply Exists.intro
 refine ⟨fun vs wq hq hdp R hR => ?_, ?_⟩
 ·(rw [HF.out, Rel.stepAt_eq]; clear hdp; skip; go_simp; exact hR)
 apply RelR.rel_same
 apply Exists.intro
 refine ⟨fun vs wq hq hdp => ?_, ?_⟩
 ·(rw [HF.out, Rel.stepAt_eq]; have qd1 : vs 1 = _ := Rel.dep hdp 1 (by kernel_rfl); clear hdp; skip; go_simp; refine (HD.out wq (HB4.out.trans (hq.1.mono (Nat.le_succ _)))).1.mono ?_; rintro e w7 ⟨rfl, hb⟩; exact ⟨_, rfl, rfl, RelR.evBox_of (Nat.le_trans HSZ.out hq.1.size) hb⟩)
 apply RelR.rel_pure HEV.out
 apply Exists.intro
 refine ⟨fun vs wq hq hdp R hR => ?_, ?_⟩
 ·(rw [HF.out, Rel.stepAt_eq]; have qd2 : vs 2 = _ := Rel.dep hdp 2 (by kernel_rfl); clear hdp; have ha := HA1.out; go_simp; exact hR)
 apply RelR.rel_pure HEV.out
 apply Exists.intro
 refine ⟨fun vs wq hq hdp R hR => ?_, ?_⟩
 ·(rw [HF.out, Rel.stepAt_eq]; clear hdp; skip; go_simp; exact hR)
 apply RelR.rel_same
 apply Exists.intro
 refine ⟨fun vs wq hq hdp => ?_, ?_⟩
 ·(rw [HF.out, Rel.stepAt_eq]; have qd4 : vs 4 = _ := Rel.dep hdp 4 (by kernel_rfl); clear hdp; skip; go_simp; refine (HD.out wq (HB4.out.trans (hq.1.mono (Nat.le_succ _)))).2.mono ?_; rintro e w7 ⟨rfl, hb⟩; exact ⟨_, rfl, rfl, RelR.evBox_of (Nat.le_trans HSZ.out hq.1.size) hb⟩)
 apply RelR.rel_pure HEV.out
 apply Exists.intro
 refine ⟨fun vs wq hq hdp R hR => ?_, ?_⟩
 ·(rw [HF.out, Rel.stepAt_eq]; have qd3 : vs 3 = _ := Rel.dep hdp 3 (by kernel_rfl); have qd5 : vs 5 = _ := Rel.dep hdp 5 (by kernel_rfl); clear hdp; have ha := HA2.out; go_simp; exact hR)
 refine RelR.rel_law (S := fun _ w' => Blk.Blk w' (w.heap.size + 1) 53 #[.slice A L.1.length c, .slice A' L.2.length c']) (RelR.evBox_mono _ _ _ _ _) (fun vs wq hq hdp => ?_) ?_
 ·(rw [HF.out, Rel.stepAt_eq]; have qd0 : vs 0 = _ := Rel.dep hdp 0 (by kernel_rfl); clear hdp; obtain ⟨u0, u1, p0, p1, p2, p3, p4, p5⟩ := RelR.evBox_put hq KR.out (Nat.le_refl _); have HPP := J (And.intro p4 p5); clear p4 p5; go_simp; exact HPP.out)
 refine RelR.rel_end (fun vs wq hq hall => ?_)
 rw [HF.out]
 have qe0 : vs 0 = _ := Rel.fin hall 0 (by decide)
 have qe1 : vs 1 = _ := Rel.fin hall 1 (by decide)
 have qe2 : vs 2 = _ := Rel.fin hall 2 (by decide)
 have qe3 : vs 3 = _ := Rel.fin hall 3 (by decide)
 have qe4 : vs 4 = _ := Rel.fin hall 4 (by decide)
 have qe5 : vs 5 = _ := Rel.fin hall 5 (by decide)
 have qe6 : vs 6 = _ := Rel.fin hall 6 (by decide)
 have qe7 : Blk.Blk wq _ _ _ := Rel.fin hall 7 (by decide)
 clear hall HF uv ue us
 have k0 := qe7.at 0 (v := .slice A L.1.length c) rfl
 have k1 := qe7.at 1 (v := .slice A' L.2.length c') rfl
 have HFIN := J (HB4.out.trans (hq.1.mono (Nat.le_succ _)))
 clear hq qe0 qe1 qe2 qe3 qe4 qe5 qe7
 go_wp2
 refine bodyPost_ret (v := .tuple #[.agg #[.slice A L.1.length c, .slice A' L.2.length c'], .string t3, .bool true]) (by simp [results, Tryz.results88, go_sem, k0, k1]) rfl ?_
 exact ⟨rfl, HFIN.out⟩
end LcG
namespace Ratio
open Go.RowKit Base Mem NatM Nat32 RatM
open YtgipnbeipfhekaaGreatDoor.Inv (natOf natOf_eq len_pos Rat3 not_slice not_bool frz)
theorem rt_store {w w1 : World} {b p q : Nat} (s : Bool) {b0 : Bool} {a1 a2 : Option Addr} {n1 k1 n2 k2 : Nat} {A1 A2 : Option Addr} {c1 c2 : Nat} (hr : Rat3 w1 b (.bool b0) (.slice a1 n1 k1) (.slice a2 n2 k2)) (h1 : RdU w1 w1.heap.size A1 (natL p)) (h2 : RdU w1 w1.heap.size A2 (natL q))
  (hb : Below w.heap.size w w1) (hle : w.heap.size ≤ b) :
  Rat3 (w1.setCell ⟨b, 0, none⟩ (.bool s)) b (.bool s) (.slice a1 n1 k1) (.slice a2 n2 k2) ∧
  Rat3 ((w1.setCell ⟨b, 0, none⟩ (.bool s)).setCell ⟨b, 1, none⟩ (.slice A1 (natL p).length c1)) b (.bool s) (.slice A1 (natL p).length c1) (.slice a2 n2 k2) ∧
  Rat3 (((w1.setCell ⟨b, 0, none⟩ (.bool s)).setCell ⟨b, 1, none⟩ (.slice A1 (natL p).length c1)).setCell ⟨b, 2, none⟩ (.slice A2 (natL q).length c2)) b (.bool s) (.slice A1 (natL p).length c1) (.slice A2 (natL q).length c2) ∧
  RtRet s p q w (.returned (.agg #[.bool s, .slice A1 (natL p).length c1, .slice A2 (natL q).length c2])) (((w1.setCell ⟨b, 0, none⟩ (.bool s)).setCell ⟨b, 1, none⟩ (.slice A1 (natL p).length c1)).setCell ⟨b, 2, none⟩ (.slice A2 (natL q).length c2)) := by
 have m6 := hr.set0 (.bool s)
 have m7 := m6.set1 (.slice A1 (natL p).length c1)
 have m8 := m7.set2 (.slice A2 (natL q).length c2)
 refine ⟨m6, m7, m8, A1, c1, A2, c2, rfl, ?_, ?_, ?_⟩
 ·simp only [World.size_setCell]
  exact ((h1.non hr.c0 (not_bool _) _).non m6.c1 (not_slice _ _ _) _).non m7.c2 (not_slice _ _ _) _
 ·simp only [World.size_setCell]
  exact ((h2.non hr.c0 (not_bool _) _).non m6.c1 (not_slice _ _ _) _).non m7.c2 (not_slice _ _ _) _
 ·exact ((hb.setCell hle _).setCell hle _).setCell hle _
theorem whole_any (n : Int) (hn : n.natAbs ≤ 1000000000000000000) (w : World) : Calls Tryz.prog 159 #[.int .i64 n] w (RtRet (decide (n < 0)) n.natAbs 1 w) := by
 obtain ⟨W0, hW0⟩ : ∃ W0, W0 = w.alloc (.cells #[.bool false, .slice none 0 0, .slice none 0 0] 147) := ⟨_, rfl⟩
 have hB0 : Below w.heap.size w W0 := by rw [hW0]; exact (Below.refl _ _).alloc (Nat.le_refl _) _
 have r1 : Rat3 W0 w.heap.size (.bool false) (.slice none 0 0) (.slice none 0 0) := by rw [hW0]; exact Rat3.new w _ _ _ _
 have hz0 : w.heap.size < W0.heap.size := by rw [hW0]; simp
 have HC := J (ratioOf_any n 1 hn (by decide) (by decide) W0)
 rw [show (1 : Int).toNat = 1 from rfl] at HC
 generalize n.natAbs = m at *
 go_enter Tryz.func159, Tryz.ntmps159
 go_wp2_with fail
 rw [← hW0]
 refine HC.out.mono ?_
 rintro e w1 ⟨A1, c1, A2, c2, rfl, h1, h2, hb1⟩
 clear hW0 HC
 have q1 := r1.below hb1 hz0
 have hb := hB0.trans (hb1.mono hB0.size)
 clear r1 hb1 hB0 hz0
 obtain ⟨m6, m7, m8, HR⟩ := rt_store (decide (n < 0)) (c1 := c1) (c2 := c2) q1 h1 h2 hb (Nat.le_refl _)
 have HRH := J HR
 clear HR
 obtain ⟨d0, d1, d2, df0, df1, df2⟩ := q1
 obtain ⟨m60, m61, m62, mf60, mf61, mf62⟩ := m6
 obtain ⟨m70, m71, m72, mf70, mf71, mf72⟩ := m7
 obtain ⟨m80, m81, m82, mf80, mf81, mf82⟩ := m8
 go_wp2
 refine bodyPost_ret (v := .agg #[.bool (decide (n < 0)), .slice A1 (natL m).length c1, .slice A2 (natL 1).length c2]) (by simp [results, Tryz.results159, go_sem, m80, m81, m82]) rfl HRH.out
theorem lowestG_zero (s : Bool) (A A' : Option Addr) (c n' c' : Nat) (w : World) : Calls Tryz.prog 197 #[.agg #[.bool s, .slice A 0 c, .slice A' n' c']] w (RtRet false 0 1 w) := by
 obtain ⟨W0, hW0⟩ : ∃ W0, W0 = (w.alloc (.cells #[.bool s, .slice A 0 c, .slice A' n' c'] 147)).alloc (.cells #[.bool false, .slice none 0 0, .slice none 0 0] 147) := ⟨_, rfl⟩
 have hB0 : Below w.heap.size w W0 := by rw [hW0]; exact ((Below.refl _ _).alloc (Nat.le_refl _) _).alloc (by simp) _
 have r1 : Rat3 W0 (w.heap.size + 1) (.bool false) (.slice none 0 0) (.slice none 0 0) := by
  rw [hW0]
  have := Rat3.new (w.alloc (.cells #[.bool s, .slice A 0 c, .slice A' n' c'] 147)) (.bool false) (.slice none 0 0) (.slice none 0 0) 147
  simpa using this
 have hz0 : w.heap.size + 1 < W0.heap.size := by rw [hW0]; simp
 have HC := J (whole_any 0 (by decide) W0)
 rw [show decide ((0 : Int) < 0) = false from rfl, show (0 : Int).natAbs = 0 from rfl] at HC
 go_enter Tryz.func197, Tryz.ntmps197
 go_wp2_with fail
 rw [← hW0]
 refine HC.out.mono ?_
 rintro e w1 ⟨A1, c1, A2, c2, rfl, h1, h2, hb1⟩
 clear hW0 HC
 have q1 := r1.below hb1 hz0
 have hb := hB0.trans (hb1.mono hB0.size)
 clear r1 hb1 hB0 hz0
 obtain ⟨m6, m7, m8, HR⟩ := rt_store false (c1 := c1) (c2 := c2) q1 h1 h2 hb (Nat.le_succ _)
 have HRH := J HR
 clear HR
 obtain ⟨d0, d1, d2, df0, df1, df2⟩ := q1
 obtain ⟨m60, m61, m62, mf60, mf61, mf62⟩ := m6
 obtain ⟨m70, m71, m72, mf70, mf71, mf72⟩ := m7
 obtain ⟨m80, m81, m82, mf80, mf81, mf82⟩ := m8
 go_wp2
 refine bodyPost_ret (v := .agg #[.bool false, .slice A1 (natL 0).length c1, .slice A2 (natL 1).length c2]) (by simp [results, Tryz.results197, go_sem, m80, m81, m82]) rfl HRH.out
def RV (q : Rat) (w : World) (e : Ending) (w' : World) : Prop := RtRet (decide (q < 0)) q.num.natAbs q.den w e w'
theorem RV.of_zero {w w' : World} {e : Ending} (h : RtRet false 0 1 w e w') : RV 0 w e w' := h
theorem RV.of_pos {s : Bool} {v u : Nat} {w w' : World} {e : Ending} (hv : 0 < v) (hu : 0 < u) (h : RtRet s (v / Nat.gcd v u) (u / Nat.gcd v u) w e w') : RV (qv s v u) w e w' := by
 obtain ⟨h1, h2⟩ := qv_num s (n := v) (d := u) (by omega)
 unfold RV
 rw [qv_neg (by omega) (by omega), h1, h2]
 exact h
theorem lowestG (s : Bool) (v u : Nat) (A A' : Option Addr) (c c' : Nat) (w : World) (hx : RdU w w.heap.size A (natL v)) (hy : RdU w w.heap.size A' (natL u)) (hv : (natL v).length ≤ 1000000) (hu : (natL u).length ≤ 1000000) (hu0 : 0 < u) :
  Calls Tryz.prog 197 #[.agg #[.bool s, .slice A (natL v).length c, .slice A' (natL u).length c']] w (RV (qv s v u) w) := by
 rcases Nat.eq_zero_or_pos v with rfl | hv0
 ·rw [natL_zero, List.length_nil, qv_zero]
  exact (lowestG_zero s A A' c _ c' w).mono fun e w' h => RV.of_zero h
 ·exact (lowestG_pos s v u A A' c c' w hx hy hv hu hv0 hu0).mono fun e w' h => RV.of_pos hv0 hu0 h
def szR (q : Rat) : Nat := (natL q.num.natAbs).length + (natL q.den).length
end Ratio
end Go.Proofs.YtgipnbeipfhekaaGreatDoor

/- The stream after many steps: l11Skip, skip, SkipStream; the law. -/
import Derived.Test.YtcimmgpmkfbpdaaGreatDoorMgStr20
import Derived.Test.YtcimmgpmkfbpdaaGreatDoorMgStr22
import Derived.Test.YtcimmgpmkfbpdaaGreatDoorMgStr21
import Derived.Test.YtcimmgpmkfbpdaaGreatDoorMgStr18
import Derived.Shelf.Lay
import Derived.Shelf.Strings.SlTrimAscii
import Derived.Test.YtcimmgpmkfbpdaaGreatDoorMgStr13
import Derived.Test.YtcimmgpmkfbpdaaGreatDoorMgStr19
import Derived.Shelf.Strings.Count
import Derived.Test.YtcimmgpmkfbpdaaGreatDoorMgStr17
import Derived.Test.YtcimmgpmkfbpdaaGreatDoorMgStr08
namespace Go.Proofs.YtcimmgpmkfbpdaaGreatDoor.Skip
open Go.RowKit Go.Proofs.YtcimmgpmkfbpdaaGreatDoor Go.Proofs.YtcimmgpmkfbpdaaGreatDoor.Base Go.Proofs.YtcimmgpmkfbpdaaGreatDoor.Mem Go.Proofs.YtcimmgpmkfbpdaaGreatDoor.Reg Go.Proofs.YtcimmgpmkfbpdaaGreatDoor.Str Go.Proofs.YtcimmgpmkfbpdaaGreatDoor.Take Go.Proofs.YtcimmgpmkfbpdaaGreatDoor.Blk Go.Proofs.YtcimmgpmkfbpdaaGreatDoor.Pow
set_option linter.unusedVariables false
theorem two (w : World) (K W T m f a s : Int) : ∃ W1, W1 = (w.alloc (.cells #[.int .i64 K, .int .i64 W, .int .i64 T, .int .i64 m, .int .i64 f, .int .i64 a, .int .i64 s] 34)).alloc (.cells #[.int .i64 0, .int .i64 0, .int .i64 0, .int .i64 0, .int .i64 0, .int .i64 0, .int .i64 0] 34) ∧ SBox W1 w.heap.size K W T m f a s ∧ SBox W1 (w.heap.size + 1) 0 0 0 0 0 0 0 ∧ Below w.heap.size w W1 := by
 refine ⟨_, rfl, ?_, ?_, ((Below.refl _ _).alloc (Nat.le_refl _) _).alloc (by simp) _⟩
 ·exact (SBox.new w K W T m f a s).below ((Below.refl (w.heap.size + 1) _).alloc (by simp) (.cells #[.int .i64 0, .int .i64 0, .int .i64 0, .int .i64 0, .int .i64 0, .int .i64 0, .int .i64 0] 34)) (Nat.lt_succ_self _)
 ·have := SBox.new (w.alloc (.cells #[.int .i64 K, .int .i64 W, .int .i64 T, .int .i64 m, .int .i64 f, .int .i64 a, .int .i64 s] 34)) 0 0 0 0 0 0 0
  rw [World.size_alloc] at this
  exact this
theorem SBox.other {w : World} {b : Nat} {K W T m f a s : Int} (h : SBox w b K W T m f a s) {p : Addr} (v : Value) (hne : p.block ≠ b) : SBox (w.setCell p v) b K W T m f a s := h.kept (Src.grown_setCell w p v) fun e => hne (Option.some.inj e)
end Go.Proofs.YtcimmgpmkfbpdaaGreatDoor.Skip
namespace Go.Proofs.YtcimmgpmkfbpdaaGreatDoor.Skip
open Go.RowKit Go.Proofs.YtcimmgpmkfbpdaaGreatDoor Go.Proofs.YtcimmgpmkfbpdaaGreatDoor.Base Go.Proofs.YtcimmgpmkfbpdaaGreatDoor.Mem Go.Proofs.YtcimmgpmkfbpdaaGreatDoor.Reg Go.Proofs.YtcimmgpmkfbpdaaGreatDoor.Str Go.Proofs.YtcimmgpmkfbpdaaGreatDoor.Take Go.Proofs.YtcimmgpmkfbpdaaGreatDoor.Blk Go.Proofs.YtcimmgpmkfbpdaaGreatDoor.Pow
set_option linter.unusedVariables false
end Go.Proofs.YtcimmgpmkfbpdaaGreatDoor.Skip
namespace Go.Proofs.YtcimmgpmkfbpdaaGreatDoor.Face
open Go.RowKit Go.Proofs.YtcimmgpmkfbpdaaGreatDoor Go.Proofs.YtcimmgpmkfbpdaaGreatDoor.Base Go.Proofs.YtcimmgpmkfbpdaaGreatDoor.Mem Go.Proofs.YtcimmgpmkfbpdaaGreatDoor.Reg Go.Proofs.YtcimmgpmkfbpdaaGreatDoor.Str Go.Proofs.YtcimmgpmkfbpdaaGreatDoor.Take Go.Proofs.YtcimmgpmkfbpdaaGreatDoor.Skip Go.Proofs.YtcimmgpmkfbpdaaGreatDoor.Dice
set_option linter.unusedVariables false
theorem outS_bits (nx bt : Nat → Nat) (hbt : ∀ y, bt y < 2) (x : Nat) : ∀ n, ∀ b ∈ outS nx bt x n, b.toNat = 48 ∨ b.toNat = 49
 | 0, b, h => by simp [outS] at h
 | n + 1, b, h => by
  rw [outS, List.mem_append] at h
  rcases h with h | h
  ·exact outS_bits nx bt hbt x n b h
  ·simp only [List.mem_singleton] at h
   subst h
   have := hbt (CycM.iter nx x n)
   rcases Nat.lt_or_ge (bt (CycM.iter nx x n)) 1 with h1 | h1
   ·rw [show bt (CycM.iter nx x n) = 0 by omega]; left; rfl
   ·rw [show bt (CycM.iter nx x n) = 1 by omega]; right; rfl
theorem takeL_bits (K W T m f a s c : Int) : BitsS ⟨(takeL K W T m f a s c).toArray⟩ := by
 have h : ∀ b ∈ takeL K W T m f a s c, b.toNat = 48 ∨ b.toNat = 49 := by
  unfold takeL
  split
  ·exact outS_bits _ _ (fun y => Nat.mod_lt _ (by decide)) _ _
  ·exact outS_bits _ _ (fun y => cbit_lt _ _ _ _) _ _
 intro u hu
 refine h _ ?_
 have hu' : u < (takeL K W T m f a s c).length := by simpa [ByteArray.size] using hu
 have e : (⟨(takeL K W T m f a s c).toArray⟩ : ByteArray)[u] = (takeL K W T m f a s c)[u] := rfl
 rw [e]
 exact List.getElem_mem hu'
theorem takeL_size (K W T m f a s c : Int) : (⟨(takeL K W T m f a s c).toArray⟩ : ByteArray).size = c.toNat := by
 show (takeL K W T m f a s c).toArray.size = _
 unfold takeL
 split <;> simp [outS_len]
end Go.Proofs.YtcimmgpmkfbpdaaGreatDoor.Face
namespace Go.Proofs
open Go.Shelf
def YtcimmgpmkfbpdaaGreatDoor.lays160_ren : Go.Shelf.Ren := ⟨fun | 160 => 67 | 232 => 92 | 231 => 91 | 227 => 93 | 234 => 95 | 233 => 94 | 236 => 97 | 235 => 96 | 228 => 120 | 271 => 123 | 151 => 122 | 197 => 121 | 120 => 145 | 152 => 144 | 260 => 143 | 137 => 152 | 119 => 153 | 224 => 137 | 225 => 136 | 217 => 135 | 266 => 150 | n => n, fun | 9 => 9 | 4 => 4 | 3 => 3 | 5 => 5 | 117 => 140 | 116 => 139 | 0 => 0 | 124 => 143 | 21 => 21 | 105 => 165 | 46 => 98 | 119 => 184 | 139 => 187 | 138 => 186 | n => n, fun | 3 => 3 | 4 => 4 | n => n⟩
theorem YtcimmgpmkfbpdaaGreatDoor.lays160 : Go.Proofs.Lays.n160 Tryz.prog YtcimmgpmkfbpdaaGreatDoor.lays160_ren := {
 mixed := by kernel_rfl
 f119 := Tryz.func153.trans (congrArg some (by kernel_rfl))
 f120 := Tryz.func145.trans (congrArg some (by kernel_rfl))
 f137 := Tryz.func152.trans (congrArg some (by kernel_rfl))
 f151 := Tryz.func122.trans (congrArg some (by kernel_rfl))
 f152 := Tryz.func144.trans (congrArg some (by kernel_rfl))
 f160 := Tryz.func67.trans (congrArg some (by kernel_rfl))
 f197 := Tryz.func121.trans (congrArg some (by kernel_rfl))
 f217 := Tryz.func135.trans (congrArg some (by kernel_rfl))
 f224 := Tryz.func137.trans (congrArg some (by kernel_rfl))
 f225 := Tryz.func136.trans (congrArg some (by kernel_rfl))
 f227 := Tryz.func93.trans (congrArg some (by kernel_rfl))
 f228 := Tryz.func120.trans (congrArg some (by kernel_rfl))
 f231 := Tryz.func91.trans (congrArg some (by kernel_rfl))
 f232 := Tryz.func92.trans (congrArg some (by kernel_rfl))
 f233 := Tryz.func94.trans (congrArg some (by kernel_rfl))
 f234 := Tryz.func95.trans (congrArg some (by kernel_rfl))
 f235 := Tryz.func96.trans (congrArg some (by kernel_rfl))
 f236 := Tryz.func97.trans (congrArg some (by kernel_rfl))
 f260 := Tryz.func143.trans (congrArg some (by kernel_rfl))
 f266 := Tryz.func150.trans (congrArg some (by kernel_rfl))
 f271 := Tryz.func123.trans (congrArg some (by kernel_rfl))
 t0 := Tryz.underlying0
 a0 := Tryz.isAgg0
 z0 := Tryz.sizeOf0
 v0 := Tryz.zeroValue0
 t3 := Tryz.underlying3
 a3 := Tryz.isAgg3
 z3 := Tryz.sizeOf3
 v3 := Tryz.zeroValue3
 t4 := Tryz.underlying4
 a4 := Tryz.isAgg4
 z4 := Tryz.sizeOf4
 v4 := Tryz.zeroValue4
 t5 := Tryz.underlying5
 a5 := Tryz.isAgg5
 z5 := Tryz.sizeOf5
 v5 := Tryz.zeroValue5
 t9 := Tryz.underlying9
 a9 := Tryz.isAgg9
 z9 := Tryz.sizeOf9
 v9 := Tryz.zeroValue9
 t21 := Tryz.underlying21
 a21 := Tryz.isAgg21
 z21 := Tryz.sizeOf21
 v21 := Tryz.zeroValue21
 t46 := Tryz.underlying98
 a46 := Tryz.isAgg98
 z46 := Tryz.sizeOf98
 v46 := Tryz.zeroValue98
 t105 := Tryz.underlying165
 a105 := Tryz.isAgg165
 z105 := Tryz.sizeOf165
 v105 := Tryz.zeroValue165
 t116 := Tryz.underlying139
 a116 := Tryz.isAgg139
 z116 := Tryz.sizeOf139
 t117 := Tryz.underlying140
 a117 := Tryz.isAgg140
 z117 := Tryz.sizeOf140
 v117 := Tryz.zeroValue140
 t119 := Tryz.underlying184
 a119 := Tryz.isAgg184
 z119 := Tryz.sizeOf184
 t124 := Tryz.underlying143
 a124 := Tryz.isAgg143
 z124 := Tryz.sizeOf143
 v124 := Tryz.zeroValue143
 t138 := Tryz.underlying186
 a138 := Tryz.isAgg186
 z138 := Tryz.sizeOf186
 v138 := Tryz.zeroValue186
 t139 := Tryz.underlying187
 a139 := Tryz.isAgg187
 z139 := Tryz.sizeOf187
 v139 := Tryz.zeroValue187
 g3 := by kernel_rfl
 g4 := by kernel_rfl }
end Go.Proofs
namespace Go.Proofs.YtcimmgpmkfbpdaaGreatDoor.Dice
open Go.RowKit Go.Proofs.YtcimmgpmkfbpdaaGreatDoor Go.Proofs.YtcimmgpmkfbpdaaGreatDoor.Base Go.Proofs.YtcimmgpmkfbpdaaGreatDoor.Mem
set_option linter.unusedVariables false
theorem drop_all : ∀ (l cs : List UInt8), (∀ b ∈ l, cs.contains b = true) → l.dropWhile (cs.contains ·) = []
 | [], _, _ => rfl
 | b :: l, cs, h => by
  have h1 := h b List.mem_cons_self
  rw [List.dropWhile_cons, if_pos h1]
  exact drop_all l cs fun b hb => h b (List.mem_cons_of_mem _ hb)
theorem trim_bits {s : ByteArray} (h : BitsS s) : Lib.trimS s.data.toList #[48, 49].toList = [] := by
 have h1 : ∀ b ∈ s.data.toList, #[48, 49].toList.contains b = true := by
  intro b hb
  obtain ⟨i, hi, rfl⟩ := List.getElem_of_mem hb
  have hi' : i < s.size := by simpa using hi
  have h2 := h i hi'
  have e : s.data.toList[i] = s[i] := rfl
  rw [e]
  rcases h2 with h2 | h2
  ·have : s[i] = 48 := UInt8.toNat_inj.1 h2
   rw [this]; rfl
  ·have : s[i] = 49 := UInt8.toNat_inj.1 h2
   rw [this]; rfl
 unfold Lib.trimS Lib.trimRightS Lib.trimLeftS
 rw [drop_all s.data.toList.reverse _ fun b hb => h1 b (List.mem_reverse.1 hb)]
 rfl
theorem isBits_yes (s : ByteArray) (hs : s.size ≤ 400) (hB : BitsS s) (w : World) : Calls Tryz.prog 38 #[.string s] w fun e w' => e = .returned (.bool true) ∧ Below w.heap.size w w' := by
 have HT := Lib.hid (Any.strings_Trim_laid YtcimmgpmkfbpdaaGreatDoor.lays160 (by kernel_rfl) s ⟨#[48, 49]⟩ w (by omega) (by decide) (ascii_of_all (by decide)))
 rw [show (⟨#[48, 49]⟩ : ByteArray).data = #[48, 49] from rfl, trim_bits hB] at HT
 have hs2 : (s.size : Int) ≤ 400 := by omega
 go_enter Tryz.func38, Tryz.ntmps38
 go_wp2_with fail
 refine HT.out.mono ?_
 rintro e w' ⟨rfl, hb⟩
 have HB := Lib.hid hb
 clear hb
 go_wp2
 go_ret
 exact ⟨rfl, HB.out⟩
end Go.Proofs.YtcimmgpmkfbpdaaGreatDoor.Dice
namespace Go.Proofs
open Go.Shelf
def YtcimmgpmkfbpdaaGreatDoor.lays138_ren : Go.Shelf.Ren := ⟨fun | 138 => 41 | 195 => 75 | 218 => 76 | 143 => 77 | 219 => 109 | 217 => 135 | 225 => 136 | 224 => 137 | 267 => 138 | 266 => 150 | 314 => 151 | n => n, fun | 9 => 9 | 3 => 3 | 4 => 4 | 5 => 5 | 0 => 0 | 46 => 98 | 146 => 182 | 51 => 170 | n => n, fun | 1 => 0 | n => n⟩
theorem YtcimmgpmkfbpdaaGreatDoor.lays138 : Go.Proofs.Lays.n138 Tryz.prog YtcimmgpmkfbpdaaGreatDoor.lays138_ren := {
 mixed := by kernel_rfl
 f138 := Tryz.func41.trans (congrArg some (by kernel_rfl))
 f143 := Tryz.func77.trans (congrArg some (by kernel_rfl))
 f195 := Tryz.func75.trans (congrArg some (by kernel_rfl))
 f217 := Tryz.func135.trans (congrArg some (by kernel_rfl))
 f218 := Tryz.func76.trans (congrArg some (by kernel_rfl))
 f219 := Tryz.func109.trans (congrArg some (by kernel_rfl))
 f224 := Tryz.func137.trans (congrArg some (by kernel_rfl))
 f225 := Tryz.func136.trans (congrArg some (by kernel_rfl))
 f266 := Tryz.func150.trans (congrArg some (by kernel_rfl))
 f267 := Tryz.func138.trans (congrArg some (by kernel_rfl))
 f314 := Tryz.func151.trans (congrArg some (by kernel_rfl))
 t0 := Tryz.underlying0
 a0 := Tryz.isAgg0
 z0 := Tryz.sizeOf0
 v0 := Tryz.zeroValue0
 t3 := Tryz.underlying3
 a3 := Tryz.isAgg3
 z3 := Tryz.sizeOf3
 v3 := Tryz.zeroValue3
 t4 := Tryz.underlying4
 a4 := Tryz.isAgg4
 z4 := Tryz.sizeOf4
 v4 := Tryz.zeroValue4
 t5 := Tryz.underlying5
 a5 := Tryz.isAgg5
 z5 := Tryz.sizeOf5
 v5 := Tryz.zeroValue5
 t9 := Tryz.underlying9
 a9 := Tryz.isAgg9
 z9 := Tryz.sizeOf9
 v9 := Tryz.zeroValue9
 t46 := Tryz.underlying98
 a46 := Tryz.isAgg98
 z46 := Tryz.sizeOf98
 v46 := Tryz.zeroValue98
 t51 := Tryz.underlying170
 a51 := Tryz.isAgg170
 z51 := Tryz.sizeOf170
 v51 := Tryz.zeroValue170
 t146 := Tryz.underlying182
 a146 := Tryz.isAgg182
 z146 := Tryz.sizeOf182
 v146 := Tryz.zeroValue182
 g1 := by kernel_rfl }
end Go.Proofs
namespace Go.Proofs.YtcimmgpmkfbpdaaGreatDoor.LpT
open Go.RowKit Go.Proofs.YtcimmgpmkfbpdaaGreatDoor Go.Proofs.YtcimmgpmkfbpdaaGreatDoor.Base Go.Proofs.YtcimmgpmkfbpdaaGreatDoor.Mem Go.Proofs.YtcimmgpmkfbpdaaGreatDoor.MemF Go.Proofs.YtcimmgpmkfbpdaaGreatDoor.Blk Go.Proofs.YtcimmgpmkfbpdaaGreatDoor.LvM Go.Proofs.YtcimmgpmkfbpdaaGreatDoor.LvQ Go.Proofs.YtcimmgpmkfbpdaaGreatDoor.LvO Go.Proofs.YtcimmgpmkfbpdaaGreatDoor.LvR Go.Proofs.YtcimmgpmkfbpdaaGreatDoor.LvT Go.Proofs.YtcimmgpmkfbpdaaGreatDoor.LvW Go.Proofs.YtcimmgpmkfbpdaaGreatDoor.LvJ Go.Proofs.YtcimmgpmkfbpdaaGreatDoor.LvK Go.Proofs.YtcimmgpmkfbpdaaGreatDoor.LpR Go.Proofs.YtcimmgpmkfbpdaaGreatDoor.Dice
set_option linter.unusedVariables false
theorem ones_count (s : ByteArray) : ∀ i, i ≤ s.size → onesTo (byt s) i = (s.data.toList.take i).count 49
 | 0, _ => by simp [onesTo]
 | i + 1, h => by
  have h1 : i < s.size := h
  have h2 : i < s.data.toList.length := by rw [Array.length_toList]; exact h1
  rw [onesTo, ones_count s i (by omega), List.take_succ_eq_append_getElem h2, List.count_append, byt_at h1]
  have e : s[i] = s.data.toList[i] := rfl
  rw [e]
  generalize s.data.toList[i] = x
  by_cases hb : x = 49
  ·subst hb; simp
  ·have : x.toNat ≠ 49 := fun h => hb (UInt8.toNat_inj.1 (by simpa using h))
   simp [this, hb]
theorem ones_all (s : ByteArray) : Lib.countByte s.data.toList 49 = onesTo (byt s) s.size := by
 unfold Lib.countByte
 rw [ones_count s s.size (Nat.le_refl _), List.take_of_length_le (by rw [Array.length_toList]; exact Nat.le_refl _)]
theorem count_d (s : ByteArray) (w : World) : Calls Tryz.prog 41 #[.string s, .string ⟨#[49]⟩] w fun e w' => e = .returned (.int .i64 ((onesTo (byt s) s.size : Nat) : Int)) ∧ w = w' := by
 refine (Any.strings_Count_one YtcimmgpmkfbpdaaGreatDoor.lays138 s 49 w).mono ?_
 rintro e w' ⟨rfl, rfl⟩
 rw [ones_all]
 exact ⟨rfl, rfl⟩
theorem levA {s : ByteArray} (hs : s.size ≤ 50) {v : Value} (w : World) (hv : LawIs (onesC s.size) s.size w v) : Calls Tryz.prog 40 #[v, .int .i64 ((onesTo (byt s) s.size : Nat) : Int)] w (FrRet (nD s.size (lvA s)) (dD s.size (lvA s)) w) := by
 have h := LpL.levelI_d (p := onesTo (byt s) s.size) (onesC_ok s.size) (by have := ones_le (byt s) s.size; show _ < s.size + 1; omega) hs w hv
 rw [show (onesC s.size).first + onesTo (byt s) s.size = onesTo (byt s) s.size from Nat.zero_add _] at h
 exact h
theorem levB {s : ByteArray} (h1 : 1 ≤ s.size) (hs : s.size ≤ 50) {v : Value} (w : World) (hv : LawIs (runsC s.size) s.size w v) : Calls Tryz.prog 40 #[v, .int .i64 (((runsTo (byt s) s.size).length : Nat) : Int)] w (FrRet (nD s.size (lvB s)) (dD s.size (lvB s)) w) := by
 obtain ⟨g1, g2, _⟩ := runs_in (byt s) s.size
 have g3 := g2 h1
 have h := LpL.levelI_d (p := (runsTo (byt s) s.size).length - 1) (runsC_ok h1) (by show _ < s.size; omega) hs w hv
 rw [show (runsC s.size).first + ((runsTo (byt s) s.size).length - 1) = (runsTo (byt s) s.size).length by show 1 + _ = _; omega] at h
 exact h
theorem levC {s : ByteArray} (h1 : 1 ≤ s.size) (hs : s.size ≤ 50) {v : Value} (w : World) (hv : LawIs (lenC s.size) s.size w v) : Calls Tryz.prog 40 #[v, .int .i64 (mostR (byt s) s.size)] w (FrRet (nD s.size (lvC s)) (dD s.size (lvC s)) w) := by
 obtain ⟨g1, g2⟩ := mostR_in (byt s) h1
 have h := LpL.levelI_d (p := (mostR (byt s) s.size).toNat - 1) (lenC_ok h1) (by show _ < s.size; omega) hs w hv
 rw [show (((lenC s.size).first + ((mostR (byt s) s.size).toNat - 1) : Nat) : Int) = mostR (byt s) s.size by show ((1 + _ : Nat) : Int) = _; omega] at h
 exact h
def TlRet (s : ByteArray) (w : World) (e : Ending) (w' : World) : Prop := ∃ A c, e = .returned (.tuple #[.slice A 3 c, .bool true]) ∧ OwnF w' w.heap.size (.slice A 3 c) 3 (lvF s) ∧ Below w.heap.size w w'
set_option maxHeartbeats 4000000 in
set_option maxRecDepth 100000 in
theorem levelsI_d (s : ByteArray) (h1 : 1 ≤ s.size) (hs : s.size ≤ 50) (hB : BitsS s) (w : World) : Calls Tryz.prog 19 #[.string s] w (TlRet s w) := by
 have HIB := Lib.hid (fun W => isBits_yes s (by omega) hB W)
 have HFR := Lib.hid (fun W => isFair_d (s.size : Int) W)
 rw [inR_yes (show (1 : Int) ≤ s.size ∧ (s.size : Int) ≤ 50 by omega)] at HFR
 have HO := Lib.hid (fun W => LpX.onesI_d s.size hs W)
 have HR := Lib.hid (fun W => LpX.runsL_d s.size h1 hs W)
 have HL := Lib.hid (fun W => LpX.longL_d s.size h1 hs W)
 have HO2 := Lib.hid (fun W => count_d s W)
 have HR2 := Lib.hid (fun W => runsI_d s (by omega) W)
 have HL2 := Lib.hid (fun W => mostI_d s (by omega) W)
 have HLN := Lib.hid (fun A n c W (h : n ≤ 9223372036854775807) => AllIn.lenI_any A n c W h)
 have HA : Hid (∀ v W, LawIs (onesC s.size) s.size W v → Calls Tryz.prog 40 #[v, .int .i64 ((onesTo (byt s) s.size : Nat) : Int)] W (FrRet (nD s.size (lvA s)) (dD s.size (lvA s)) W)) := Lib.hid fun v W h => levA hs W h
 have HBb : Hid (∀ v W, LawIs (runsC s.size) s.size W v → Calls Tryz.prog 40 #[v, .int .i64 (((runsTo (byt s) s.size).length : Nat) : Int)] W (FrRet (nD s.size (lvB s)) (dD s.size (lvB s)) W)) := Lib.hid fun v W h => levB h1 hs W h
 have HCc : Hid (∀ v W, LawIs (lenC s.size) s.size W v → Calls Tryz.prog 40 #[v, .int .i64 (mostR (byt s) s.size)] W (FrRet (nD s.size (lvC s)) (dD s.size (lvC s)) W)) := Lib.hid fun v W h => levC h1 hs W h
 have HF : Hid (lvF s = [nD s.size (lvA s), dD s.size (lvA s), nD s.size (lvB s), dD s.size (lvB s), nD s.size (lvC s), dD s.size (lvC s)]) := Lib.hid rfl
 unfold RunRet at HR2
 have hrl := (runs_in (byt s) s.size).1
 generalize nD s.size (lvA s) = a1 at *
 generalize dD s.size (lvA s) = a2 at *
 generalize nD s.size (lvB s) = b1 at *
 generalize dD s.size (lvB s) = b2 at *
 generalize nD s.size (lvC s) = d1 at *
 generalize dD s.size (lvC s) = d2 at *
 generalize onesTo (byt s) s.size = n1 at *
 generalize runsTo (byt s) s.size = rs at *
 generalize mostR (byt s) s.size = mm at *
 clear hB
 go_enter Tryz.func19, Tryz.ntmps19
 go_wp2_with fail
 refine (HIB.out _).mono ?_
 rintro e w0 ⟨rfl, hb0⟩
 have B0 := Lib.hid hb0
 clear hb0
 go_wp2_with fail
 refine (HFR.out _).mono ?_
 rintro e w' ⟨rfl, rfl⟩
 go_wp2_with fail
 refine (HO.out _).mono ?_
 rintro e w1 ⟨v, rfl, hv, hb1⟩
 have HV := Lib.hid hv.is
 have B1 := Lib.hid (Base.Below.nextA B0.out hb1)
 clear hv hb1 B0
 go_wp2_with fail
 refine (HO2.out _).mono ?_
 rintro e w' ⟨rfl, rfl⟩
 go_wp2_with fail
 refine (HA.out _ _ HV.out).mono ?_
 rintro e w2 ⟨rfl, hb2⟩
 have B2 := Lib.hid (Base.Below.nextA B1.out hb2)
 clear hb2 HV HO HO2 HA B1
 go_wp2_with fail
 obtain ⟨W3, hW3⟩ : ∃ W3, W3 = w2.alloc (.cells #[.int .i64 a1, .int .i64 a2] 52) := ⟨_, rfl⟩
 have K3 : Hid (Blk W3 w2.heap.size 52 #[.int .i64 a1, .int .i64 a2]) := Lib.hid (by rw [hW3]; exact Blk.new w2 _ _)
 have B3 : Hid (Below w.heap.size w W3) := Lib.hid (by rw [hW3]; exact B2.out.alloc B2.out.size _)
 rw [← hW3]
 clear hW3 B2
 refine (HR.out _).mono ?_
 rintro e w4 ⟨v, rfl, hv, hb4⟩
 have HV := Lib.hid hv.is
 have K4 := Lib.hid (K3.out.belowS hb4)
 have B4 := Lib.hid (Base.Below.nextA B3.out hb4)
 clear hv hb4 K3 B3
 go_wp2_with fail
 refine (HR2.out _).mono ?_
 rintro e w5 ⟨A5, c5, rfl, _, hb5⟩
 have HV5 := Lib.hid (HV.out.below hb5)
 have K5 := Lib.hid (K4.out.belowS hb5)
 have B5 := Lib.hid (Base.Below.nextA B4.out hb5)
 clear hb5 K4 B4 HV
 go_wp2_with fail
 refine (HLN.out _ _ _ _ (by omega)).mono ?_
 rintro e w' ⟨rfl, rfl⟩
 go_wp2_with fail
 refine (HBb.out _ _ HV5.out).mono ?_
 rintro e w6 ⟨rfl, hb6⟩
 have K6 := Lib.hid (K5.out.belowS hb6)
 have B6 := Lib.hid (Base.Below.nextA B5.out hb6)
 clear hb6 K5 B5 HV5 HR HR2 HBb
 go_wp2_with fail
 obtain ⟨W7, hW7⟩ : ∃ W7, W7 = w6.alloc (.cells #[.int .i64 b1, .int .i64 b2] 52) := ⟨_, rfl⟩
 have K7 : Hid (Blk W7 w2.heap.size 52 #[.int .i64 a1, .int .i64 a2] ∧ Blk W7 w6.heap.size 52 #[.int .i64 b1, .int .i64 b2]) := Lib.hid (by rw [hW7]; exact ⟨K6.out.alloc _, Blk.new w6 _ _⟩)
 have B7 : Hid (Below w.heap.size w W7) := Lib.hid (by rw [hW7]; exact B6.out.alloc B6.out.size _)
 rw [← hW7]
 clear hW7 B6 K6
 refine (HL.out _).mono ?_
 rintro e w8 ⟨v, rfl, hv, hb8⟩
 have HV := Lib.hid hv.is
 have K8 := Lib.hid (And.intro (K7.out.1.belowS hb8) (K7.out.2.belowS hb8))
 have B8 := Lib.hid (Base.Below.nextA B7.out hb8)
 clear hv hb8 K7 B7
 go_wp2_with fail
 refine (HL2.out _).mono ?_
 rintro e w9 ⟨rfl, hb9⟩
 have HV9 := Lib.hid (HV.out.below hb9)
 have K9 := Lib.hid (And.intro (K8.out.1.belowS hb9) (K8.out.2.belowS hb9))
 have B9 := Lib.hid (Base.Below.nextA B8.out hb9)
 clear hb9 K8 B8 HV
 go_wp2_with fail
 refine (HCc.out _ _ HV9.out).mono ?_
 rintro e wa ⟨rfl, hba⟩
 have Ka := Lib.hid (And.intro (K9.out.1.belowS hba) (K9.out.2.belowS hba))
 have Ba := Lib.hid (Base.Below.nextA B9.out hba)
 clear hba K9 B9 HV9 HL HL2 HCc
 have x0 := Ka.out.1.at 0 (v := .int .i64 a1) rfl
 have x1 := Ka.out.1.at 1 (v := .int .i64 a2) rfl
 have y0 := Ka.out.2.at 0 (v := .int .i64 b1) rfl
 have y1 := Ka.out.2.at 1 (v := .int .i64 b2) rfl
 have l0 := Ka.out.1.lt
 have l1 := Ka.out.2.lt
 have HFIN : Hid (TlRet s w (.returned (.tuple #[.slice (some ⟨wa.heap.size + 1, 0, none⟩) 3 3, .bool true])) ((wa.alloc (.cells #[.int .i64 d1, .int .i64 d2] 52)).alloc (.cells #[.int .i64 a1, .int .i64 a2, .int .i64 b1, .int .i64 b2, .int .i64 d1, .int .i64 d2] 52))) := Lib.hid (by
  refine ⟨_, _, rfl, ?_, (Ba.out.alloc Ba.out.size _).alloc (by have := Ba.out.size; simp; omega) _⟩
  have h := World.ownsRow_lit (e := 52) (size := 2) (base := w.heap.size) (wa.alloc (.cells #[.int .i64 d1, .int .i64 d2] 52)) #[.int .i64 a1, .int .i64 a2, .int .i64 b1, .int .i64 b2, .int .i64 d1, .int .i64 d2] 3 (by have := Ba.out.size; simp; omega) (by simp [maxLen]) rfl
  rw [HF.out]
  simpa [OwnF, ints] using h)
 clear Ka Ba
 go_wp2
 refine bodyPost_ret (v := .tuple #[.slice (some ⟨wa.heap.size + 1, 0, none⟩) 3 3, .bool true]) (by simp [results, Tryz.results19, go_sem]) rfl ?_
 exact HFIN.out
end Go.Proofs.YtcimmgpmkfbpdaaGreatDoor.LpT
namespace Go.Proofs.YtcimmgpmkfbpdaaGreatDoor.LvN
open Go.RowKit Go.Proofs.YtcimmgpmkfbpdaaGreatDoor Go.Proofs.YtcimmgpmkfbpdaaGreatDoor.Base Go.Proofs.YtcimmgpmkfbpdaaGreatDoor.Mem Go.Proofs.YtcimmgpmkfbpdaaGreatDoor.MemF Go.Proofs.YtcimmgpmkfbpdaaGreatDoor.Blk Go.Proofs.YtcimmgpmkfbpdaaGreatDoor.LvK Go.Proofs.YtcimmgpmkfbpdaaGreatDoor.Str Go.Proofs.YtcimmgpmkfbpdaaGreatDoor.Take
set_option linter.unusedVariables false
def okL (K W T m f a s c : Int) : Bool := streamB K W T m f a s && inR c 1 50
def txtL (K W T m f a s c : Int) : ByteArray := ⟨(takeL K W T m f a s c).toArray⟩
def resL (K W T m f a s c : Int) : List Int := if okL K W T m f a s c = true then lvF (txtL K W T m f a s c) else []
def numL (K W T m f a s c : Int) : Nat := if okL K W T m f a s c = true then 3 else 0
def LvRet (K W T m f a s c : Int) (w : World) (e : Ending) (w' : World) : Prop := FsRet (numL K W T m f a s c) (resL K W T m f a s c) (okL K W T m f a s c) w e w'
theorem LvRet.no {K W T m f a s c : Int} {w w' : World} (h : okL K W T m f a s c = false) (hb : Below w.heap.size w w') : LvRet K W T m f a s c w (.returned (.tuple #[.slice none 0 0, .bool false])) w' := by
 unfold LvRet numL resL
 rw [h]
 exact FsRet.no hb
theorem LvRet.yes {K W T m f a s c : Int} {w w' : World} {A : Option Addr} {k : Nat} (h : okL K W T m f a s c = true) (ho : OwnF w' w.heap.size (.slice A 3 k) 3 (lvF (txtL K W T m f a s c))) (hb : Below w.heap.size w w') : LvRet K W T m f a s c w (.returned (.tuple #[.slice A 3 k, .bool true])) w' := by
 unfold LvRet numL resL
 rw [h]
 exact ⟨A, k, rfl, ho, hb⟩
theorem fair_d (n : Int) (w : World) : Calls Tryz.prog 11 #[.int .i64 n] w fun e w' => e = .returned (.bool (inR n 1 50)) ∧ w = w' := by
 go_enter Tryz.func11, Tryz.ntmps11
 go_wp2_with fail
 refine (l00In_any n 1 50 w).mono ?_
 rintro e w' ⟨rfl, rfl⟩
 go_wp2
 go_ret
 exact ⟨rfl, rfl⟩
set_option maxHeartbeats 2000000 in
set_option maxRecDepth 100000 in
theorem specLv_any (K W T m f a s c : Int) (w : World) : Calls Tryz.prog 4 #[.agg #[.int .i64 K, .int .i64 W, .int .i64 T, .int .i64 m, .int .i64 f, .int .i64 a, .int .i64 s], .int .i64 c] w (LvRet K W T m f a s c w) := by
 cases hB : streamB K W T m f a s with
 | false =>
  have HB := Lib.hid hB
  have HN := Lib.hid (fun w' => LvRet.no (w := w) (w' := w') (show okL K W T m f a s c = false by simp [okL, hB]))
  clear hB
  go_enter Tryz.func4, Tryz.ntmps4
  go_wp2_with (go_at_call 10; refine (l11Is_any _ K W T m f a s _ (by simp) (by simp) (by simp) (by simp) (by simp) (by simp) (by simp)).mono ?_; rintro e w1 ⟨rfl, k1, rfl⟩; rw [HB.out])
  refine bodyPost_ret (v := .tuple #[.slice none 0 0, .bool false]) (by simp [results, Tryz.results4, go_sem]) rfl ?_
  exact HN.out _ (below_drewN ((Below.refl w.heap.size w).alloc (Nat.le_refl _) _) k1)
 | true =>
  cases hc : inR c 1 50 with
  | false =>
   have HB := Lib.hid hB
   have HC := Lib.hid hc
   have HN := Lib.hid (fun w' => LvRet.no (w := w) (w' := w') (show okL K W T m f a s c = false by simp [okL, hB, hc]))
   clear hB hc
   go_enter Tryz.func4, Tryz.ntmps4
   go_wp2_with (first | (go_at_call 10; refine (l11Is_any _ K W T m f a s _ (by simp) (by simp) (by simp) (by simp) (by simp) (by simp) (by simp)).mono ?_; rintro e w1 ⟨rfl, k1, rfl⟩; rw [HB.out]) | (go_at_call 11; refine (fair_d _ _).mono ?_; rintro e w' ⟨rfl, rfl⟩; rw [HC.out]))
   refine bodyPost_ret (v := .tuple #[.slice none 0 0, .bool false]) (by simp [results, Tryz.results4, go_sem]) rfl ?_
   exact HN.out _ (below_drewN ((Below.refl w.heap.size w).alloc (Nat.le_refl _) _) k1)
  | true =>
   have HB := Lib.hid hB
   have HC := Lib.hid hc
   have h7 := inR_true hc
   have hc4 : inR c 0 400 = true := by simp [inR]; omega
   have HT := Lib.hid (fun w => specTake_yes hB hc4 w)
   have hsz := Face.takeL_size K W T m f a s c
   have hbt := Face.takeL_bits K W T m f a s c
   have HY := Lib.hid (fun w' A k => LvRet.yes (w := w) (w' := w') (A := A) (k := k) (show okL K W T m f a s c = true by simp [okL, hB, hc]))
   unfold txtL at HY
   unfold TakeR at HT
   generalize takeX K W T m f a s c = x at *
   obtain ⟨t, ht⟩ : ∃ t, (⟨(takeL K W T m f a s c).toArray⟩ : ByteArray) = t := ⟨_, rfl⟩
   rw [ht] at HT HY hsz hbt
   have HL := Lib.hid (fun W => levels_d t (by omega) (by omega) hbt W)
   obtain ⟨W1, hW1⟩ : ∃ W1, W1 = w.alloc (.cells #[.int .i64 K, .int .i64 W, .int .i64 T, .int .i64 m, .int .i64 f, .int .i64 a, .int .i64 s] 34) := ⟨_, rfl⟩
   have K1 : Hid (Blk W1 w.heap.size 34 #[.int .i64 K, .int .i64 W, .int .i64 T, .int .i64 m, .int .i64 f, .int .i64 a, .int .i64 s]) := Lib.hid (by rw [hW1]; exact Blk.new w _ _)
   have B1 : Hid (Below w.heap.size w W1) := Lib.hid (by rw [hW1]; exact (Below.refl _ _).alloc (Nat.le_refl _) _)
   have HW := Lib.hid hW1
   clear hB hc ht hsz hbt h7 hc4 hW1
   go_enter Tryz.func4, Tryz.ntmps4
   go_wp2_with (first | (go_at_call 10; refine (l11Is_any _ K W T m f a s _ (by simp) (by simp) (by simp) (by simp) (by simp) (by simp) (by simp)).mono ?_; rintro e w1 ⟨rfl, k1, rfl⟩; rw [HB.out]) | (go_at_call 11; refine (fair_d _ _).mono ?_; rintro e w' ⟨rfl, rfl⟩; rw [HC.out]) | (go_at_call 12; refine (HT.out _).mono ?_; rintro e w2 ⟨rfl, hb2⟩; rw [← HW.out] at hb2; have B2 := Lib.hid (Base.Below.nextA (below_drewN B1.out k1) hb2); clear hb2) | (go_at_call 13; refine (HL.out _).mono ?_; rintro e w4 ⟨A, k, rfl, ho, hb4⟩; have B4 := Lib.hid (Base.Below.nextA (B2.out.alloc B2.out.size _) hb4); have O4 := Lib.hid (ownsRow_base ho (B2.out.alloc B2.out.size _).size); clear ho hb4))
   refine bodyPost_ret (v := .tuple #[.slice A 3 k, .bool true]) (by simp [results, Tryz.results4, go_sem]) rfl ?_
   exact HY.out _ _ _ O4.out B4.out
end Go.Proofs.YtcimmgpmkfbpdaaGreatDoor.LvN
namespace Go.Proofs.YtcimmgpmkfbpdaaGreatDoor.LpM
open Go.RowKit Go.Proofs.YtcimmgpmkfbpdaaGreatDoor Go.Proofs.YtcimmgpmkfbpdaaGreatDoor.Base Go.Proofs.YtcimmgpmkfbpdaaGreatDoor.Mem Go.Proofs.YtcimmgpmkfbpdaaGreatDoor.MemF Go.Proofs.YtcimmgpmkfbpdaaGreatDoor.Blk Go.Proofs.YtcimmgpmkfbpdaaGreatDoor.LvK Go.Proofs.YtcimmgpmkfbpdaaGreatDoor.LvN Go.Proofs.YtcimmgpmkfbpdaaGreatDoor.LpR Go.Proofs.YtcimmgpmkfbpdaaGreatDoor.LpT Go.Proofs.YtcimmgpmkfbpdaaGreatDoor.Str Go.Proofs.YtcimmgpmkfbpdaaGreatDoor.Take
set_option linter.unusedVariables false
set_option maxHeartbeats 2000000 in
set_option maxRecDepth 100000 in
theorem implLv_any (K W T m f a s c : Int) (w : World) : Calls Tryz.prog 6 #[.agg #[.int .i64 K, .int .i64 W, .int .i64 T, .int .i64 m, .int .i64 f, .int .i64 a, .int .i64 s], .int .i64 c] w (LvRet K W T m f a s c w) := by
 obtain ⟨W1, hW1⟩ : ∃ W1, W1 = w.alloc (.cells #[.int .i64 K, .int .i64 W, .int .i64 T, .int .i64 m, .int .i64 f, .int .i64 a, .int .i64 s] 34) := ⟨_, rfl⟩
 have K1 : Hid (Blk W1 w.heap.size 34 #[.int .i64 K, .int .i64 W, .int .i64 T, .int .i64 m, .int .i64 f, .int .i64 a, .int .i64 s]) := Lib.hid (by rw [hW1]; exact Blk.new w _ _)
 have B1 : Hid (Below w.heap.size w W1) := Lib.hid (by rw [hW1]; exact (Below.refl _ _).alloc (Nat.le_refl _) _)
 have HW := Lib.hid hW1
 have HVS := Lib.hid (fun W' => validStream_any K W T m f a s W')
 clear hW1
 cases hB : streamB K W T m f a s with
 | false =>
  rw [hB] at HVS
  have HN := Lib.hid (fun w' => LvRet.no (w := w) (w' := w') (show okL K W T m f a s c = false by simp [okL, hB]))
  clear hB
  go_enter Tryz.func6, Tryz.ntmps6
  go_wp2_with fail
  rw [← HW.out]
  refine (HVS.out _).mono ?_
  rintro e w1 ⟨rfl, hb1⟩
  have B2 := Lib.hid (Base.Below.nextA B1.out hb1)
  clear hb1
  go_wp2
  refine bodyPost_ret (v := .tuple #[.slice none 0 0, .bool false]) (by simp [results, Tryz.results6, go_sem]) rfl ?_
  exact HN.out _ B2.out
 | true =>
  have HFR := Lib.hid (fun W' => isFair_d c W')
  rw [hB] at HVS
  cases hc : inR c 1 50 with
  | false =>
   rw [hc] at HFR
   have HN := Lib.hid (fun w' => LvRet.no (w := w) (w' := w') (show okL K W T m f a s c = false by simp [okL, hB, hc]))
   clear hB hc
   go_enter Tryz.func6, Tryz.ntmps6
   go_wp2_with fail
   rw [← HW.out]
   refine (HVS.out _).mono ?_
   rintro e w1 ⟨rfl, hb1⟩
   have B2 := Lib.hid (Base.Below.nextA B1.out hb1)
   clear hb1
   go_wp2_with fail
   refine (HFR.out _).mono ?_
   rintro e w' ⟨rfl, rfl⟩
   go_wp2
   refine bodyPost_ret (v := .tuple #[.slice none 0 0, .bool false]) (by simp [results, Tryz.results6, go_sem]) rfl ?_
   exact HN.out _ B2.out
  | true =>
   rw [hc] at HFR
   have h7 := inR_true hc
   have hc4 : inR c 0 400 = true := by simp [inR]; omega
   have HT := Lib.hid (fun w => implTake_yes hB hc4 w)
   have hsz := Face.takeL_size K W T m f a s c
   have hbt := Face.takeL_bits K W T m f a s c
   have HY := Lib.hid (fun w' A k => LvRet.yes (w := w) (w' := w') (A := A) (k := k) (show okL K W T m f a s c = true by simp [okL, hB, hc]))
   unfold txtL at HY
   unfold TakeR at HT
   generalize takeX K W T m f a s c = x at *
   obtain ⟨t, ht⟩ : ∃ t, (⟨(takeL K W T m f a s c).toArray⟩ : ByteArray) = t := ⟨_, rfl⟩
   rw [ht] at HT HY hsz hbt
   have HL := Lib.hid (fun W => levelsI_d t (by omega) (by omega) hbt W)
   clear hB hc ht hsz hbt h7 hc4
   go_enter Tryz.func6, Tryz.ntmps6
   go_wp2_with fail
   rw [← HW.out]
   refine (HVS.out _).mono ?_
   rintro e w1 ⟨rfl, hb1⟩
   have B2 := Lib.hid (Base.Below.nextA B1.out hb1)
   have K2 := Lib.hid (K1.out.belowS hb1)
   clear hb1
   go_wp2_with fail
   refine (HFR.out _).mono ?_
   rintro e w' ⟨rfl, rfl⟩
   have d0 := K2.out.at 0 (v := .int .i64 K) rfl
   have d1 := K2.out.at 1 (v := .int .i64 W) rfl
   have d2 := K2.out.at 2 (v := .int .i64 T) rfl
   have d3 := K2.out.at 3 (v := .int .i64 m) rfl
   have d4 := K2.out.at 4 (v := .int .i64 f) rfl
   have d5 := K2.out.at 5 (v := .int .i64 a) rfl
   have d6 := K2.out.at 6 (v := .int .i64 s) rfl
   go_wp2_with fail
   clear d0 d1 d2 d3 d4 d5 d6
   refine (HT.out _).mono ?_
   rintro e w2 ⟨rfl, hb2⟩
   have B3 := Lib.hid (Base.Below.nextA B2.out hb2)
   clear hb2
   go_wp2_with fail
   refine (HL.out _).mono ?_
   rintro e w4 ⟨A, k, rfl, ho, hb4⟩
   have B4 := Lib.hid (Base.Below.nextA (B3.out.alloc B3.out.size _) hb4)
   have O4 := Lib.hid (ownsRow_base ho (B3.out.alloc B3.out.size _).size)
   clear ho hb4
   go_wp2
   refine bodyPost_ret (v := .tuple #[.slice A 3 k, .bool true]) (by simp [results, Tryz.results6, go_sem]) rfl ?_
   exact HY.out _ _ _ O4.out B4.out
end Go.Proofs.YtcimmgpmkfbpdaaGreatDoor.LpM
set_option linter.unusedVariables false
namespace Go.Proofs.YtcimmgpmkfbpdaaGreatDoor.GaussM
end Go.Proofs.YtcimmgpmkfbpdaaGreatDoor.GaussM
namespace Go.Proofs.YtcimmgpmkfbpdaaGreatDoor.ChM
open Go.RowKit Go.Proofs.YtcimmgpmkfbpdaaGreatDoor Go.Proofs.YtcimmgpmkfbpdaaGreatDoor.Base Go.Proofs.YtcimmgpmkfbpdaaGreatDoor.RatM Go.Proofs.YtcimmgpmkfbpdaaGreatDoor.GaussM Go.Proofs.YtcimmgpmkfbpdaaGreatDoor.ValF
set_option linter.unusedVariables false
end Go.Proofs.YtcimmgpmkfbpdaaGreatDoor.ChM
namespace Go.Proofs.YtcimmgpmkfbpdaaGreatDoor.WalkM
open Go.RowKit Go.Proofs.YtcimmgpmkfbpdaaGreatDoor Go.Proofs.YtcimmgpmkfbpdaaGreatDoor.Base Go.Proofs.YtcimmgpmkfbpdaaGreatDoor.Mem Go.Proofs.YtcimmgpmkfbpdaaGreatDoor.MemF Go.Proofs.YtcimmgpmkfbpdaaGreatDoor.ChM
set_option linter.unusedVariables false
end Go.Proofs.YtcimmgpmkfbpdaaGreatDoor.WalkM
namespace Go.Proofs.YtcimmgpmkfbpdaaGreatDoor.CpyF
open Go.RowKit Go.Proofs.YtcimmgpmkfbpdaaGreatDoor Go.Proofs.YtcimmgpmkfbpdaaGreatDoor.Base Go.Proofs.YtcimmgpmkfbpdaaGreatDoor.Mem Go.Proofs.YtcimmgpmkfbpdaaGreatDoor.Cpy Go.Proofs.YtcimmgpmkfbpdaaGreatDoor.MemF Go.Proofs.YtcimmgpmkfbpdaaGreatDoor.WalkM
set_option linter.unusedVariables false
end Go.Proofs.YtcimmgpmkfbpdaaGreatDoor.CpyF
namespace Go.Proofs.YtcimmgpmkfbpdaaGreatDoor.LvLaw
open Go.RowKit Go.Proofs.YtcimmgpmkfbpdaaGreatDoor Go.Proofs.YtcimmgpmkfbpdaaGreatDoor.Base Go.Proofs.YtcimmgpmkfbpdaaGreatDoor.Mem Go.Proofs.YtcimmgpmkfbpdaaGreatDoor.MemF Go.Proofs.YtcimmgpmkfbpdaaGreatDoor.Str Go.Proofs.YtcimmgpmkfbpdaaGreatDoor.Take Go.Proofs.YtcimmgpmkfbpdaaGreatDoor.Skip Go.Proofs.YtcimmgpmkfbpdaaGreatDoor.LvN
set_option linter.unusedVariables false
theorem numL_le (K W T m f a s c : Int) : numL K W T m f a s c ≤ 3 := by unfold numL; split <;> omega
set_option maxHeartbeats 2000000 in
set_option maxRecDepth 100000 in
theorem exactLv_any (K W T m f a s c : Int) (w : World) :
  Calls Tryz.prog 3 #[.agg #[.int .i64 K, .int .i64 W, .int .i64 T, .int .i64 m, .int .i64 f, .int .i64 a, .int .i64 s], .int .i64 c] w fun e w' => e = .returned (.bool true) ∧ Below w.heap.size w w' := by
 have hN := numL_le K W T m f a s c
 have HT := Lib.hid (fun w => toStream_any K W T m f a s w)
 have HS : Hid (∀ w, Calls Tryz.prog 4 #[.agg #[.int .i64 K, .int .i64 W, .int .i64 T, .int .i64 m, .int .i64 f, .int .i64 a, .int .i64 s], .int .i64 c] w (FsRet (numL K W T m f a s c) (resL K W T m f a s c) (okL K W T m f a s c) w)) := Lib.hid (fun w => specLv_any K W T m f a s c w)
 have HI : Hid (∀ w, Calls Tryz.prog 6 #[.agg #[.int .i64 K, .int .i64 W, .int .i64 T, .int .i64 m, .int .i64 f, .int .i64 a, .int .i64 s], .int .i64 c] w (FsRet (numL K W T m f a s c) (resL K W T m f a s c) (okL K W T m f a s c) w)) := Lib.hid (fun w => LpM.implLv_any K W T m f a s c w)
 generalize numL K W T m f a s c = N at *
 generalize resL K W T m f a s c = R at *
 generalize okL K W T m f a s c = ok at *
 have hok : (ok != ok) = false := by simp
 go_enter Tryz.func3, Tryz.ntmps3
 go_wp2_with fail
 refine (HT.out _).mono ?_; rintro e w1 ⟨rfl, hb1⟩
 go_wp2_with fail
 refine (HS.out _).mono ?_; rintro e w2 ⟨A_s, c_s, rfl, o_s, hb2⟩
 have hb := Base.Below.nextA hb1 hb2
 have B2 := Lib.hid hb
 have R3 := Lib.hid (MemF.OwnF.rd o_s)
 have c0 : w2.cell? ⟨w.heap.size, 0, none⟩ = some (.int .i64 K) := box_cells hb 0
 have c1 : w2.cell? ⟨w.heap.size, 1, none⟩ = some (.int .i64 W) := box_cells hb 1
 have c2 : w2.cell? ⟨w.heap.size, 2, none⟩ = some (.int .i64 T) := box_cells hb 2
 have c3 : w2.cell? ⟨w.heap.size, 3, none⟩ = some (.int .i64 m) := box_cells hb 3
 have c4 : w2.cell? ⟨w.heap.size, 4, none⟩ = some (.int .i64 f) := box_cells hb 4
 have c5 : w2.cell? ⟨w.heap.size, 5, none⟩ = some (.int .i64 a) := box_cells hb 5
 have c6 : w2.cell? ⟨w.heap.size, 6, none⟩ = some (.int .i64 s) := box_cells hb 6
 clear hb1 hb2 hb o_s
 go_wp2_with fail
 clear c0 c1 c2 c3 c4 c5 c6
 refine (HT.out _).mono ?_; rintro e w3 ⟨rfl, hb3⟩
 have hs3 := hb3.size
 go_wp2_with fail
 refine (HI.out _).mono ?_; rintro e w4 ⟨A_g, c_g, rfl, o_g, hb4⟩
 have hs4 := hb4.size
 have Y4 := Lib.hid (Base.Below.nextA hb3 hb4)
 have B4 := Lib.hid (Base.Below.nextA B2.out Y4.out)
 have G4 := Lib.hid o_g
 clear hb3 hb4 o_g
 go_wp2_with fail
 refine (MemF.eqF_yes A_g A_s c_g c_s _ _ N R w4 (MemF.OwnF.rd G4.out) (R3.out.below Y4.out (Nat.le_refl _)) (by omega) (by omega) (by omega)).mono ?_
 rintro e w5 ⟨rfl, x5⟩
 have Y5 := Lib.hid (Base.Below.nextA Y4.out x5)
 have B5 := Lib.hid (Base.Below.nextA B4.out x5)
 have G5 := Lib.hid (G4.out.below x5)
 have hs5 := x5.size
 clear x5
 go_wp2_with fail
 refine (MemF.markF_any A_g c_g w3.heap.size 1 N R w5 G5.out (by omega)).mono ?_
 rintro e w6 ⟨rfl, o_m, g6⟩
 have b6 : Below w3.heap.size w5 w6 := grown_below g6 (fun q hq => (ownsRow_block o_m hq).choose_spec.2.1) (by omega)
 have OM := Lib.hid o_m
 have hB2 := B2.out.size
 have B6 := Lib.hid (B5.out.trans (b6.mono (by omega)))
 have Y6 := Lib.hid (Y5.out.trans (b6.mono (by omega)))
 have hs6 := b6.size
 clear o_m b6 g6
 have hkR : 1 + 2 * N ≤ 1099511627776 := by omega
 go_wp2_with fail
 refine (MemF.heldF_yes A_g c_g _ 1 N w6 (MemF.OwnF.rd OM.out) (by omega)).mono ?_
 rintro e w' ⟨rfl, rfl⟩
 have hb := B6.out
 have c0 : w6.cell? ⟨w.heap.size, 0, none⟩ = some (.int .i64 K) := box_cells hb 0
 have c1 : w6.cell? ⟨w.heap.size, 1, none⟩ = some (.int .i64 W) := box_cells hb 1
 have c2 : w6.cell? ⟨w.heap.size, 2, none⟩ = some (.int .i64 T) := box_cells hb 2
 have c3 : w6.cell? ⟨w.heap.size, 3, none⟩ = some (.int .i64 m) := box_cells hb 3
 have c4 : w6.cell? ⟨w.heap.size, 4, none⟩ = some (.int .i64 f) := box_cells hb 4
 have c5 : w6.cell? ⟨w.heap.size, 5, none⟩ = some (.int .i64 a) := box_cells hb 5
 have c6 : w6.cell? ⟨w.heap.size, 6, none⟩ = some (.int .i64 s) := box_cells hb 6
 clear hb
 go_wp2_with fail
 clear c0 c1 c2 c3 c4 c5 c6
 refine (HT.out _).mono ?_; rintro e w7 ⟨rfl, hb7⟩
 go_wp2_with fail
 refine (HI.out _).mono ?_; rintro e w8 ⟨A_h, c_h, rfl, o_h, hb8⟩
 have Z8 := Lib.hid (Base.Below.nextA hb7 hb8)
 have B8 := Lib.hid (Base.Below.nextA B6.out Z8.out)
 have H8 := Lib.hid o_h
 have hs7 := hb7.size
 have hs8 := hb8.size
 clear hb7 hb8 o_h
 go_wp2_with fail
 refine (MemF.eqF_yes A_h A_s c_h c_s _ _ N R w8 (MemF.OwnF.rd H8.out) (R3.out.below (Base.Below.nextA Y6.out Z8.out) (Nat.le_refl _)) (by omega) (by omega) (by omega)).mono ?_
 rintro e w9 ⟨rfl, x9⟩
 have Z9 := Lib.hid (Base.Below.nextA Z8.out x9)
 have B9 := Lib.hid (Base.Below.nextA B8.out x9)
 clear x9
 go_wp2_with fail
 refine (MemF.heldF_yes A_g c_g _ 1 N w9 (MemF.OwnF.rd (MemF.OwnF.below OM.out Z9.out)) (by omega)).mono ?_
 rintro e w' ⟨rfl, rfl⟩
 have BE := Lib.hid (Base.Below.boxed B9.out)
 go_wp2
 go_ret
 exact ⟨rfl, BE.out⟩
theorem exactLv_v {v : Value} (h : Open.IsStream v) (c : Int) (w : World) : Calls Tryz.prog 3 #[v, .int .i64 c] w fun e w' => e = .returned (.bool true) ∧ Below w.heap.size w w' := by
 obtain ⟨K, W, T, m, f, a, s, rfl⟩ := h.ex
 exact exactLv_any K W T m f a s c w
end Go.Proofs.YtcimmgpmkfbpdaaGreatDoor.LvLaw

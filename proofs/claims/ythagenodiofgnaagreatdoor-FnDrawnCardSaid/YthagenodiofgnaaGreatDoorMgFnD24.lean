/- The program's IsBits and RollDice at a text of bits. -/
import Derived.Test.YthagenodiofgnaaGreatDoorMgFnD16
import Derived.Shelf.Lay
import Derived.Shelf.Strings.SlTrimAscii
namespace Go.Proofs
open Go.Shelf
def YthagenodiofgnaaGreatDoor.lays160_ren : Go.Shelf.Ren := ⟨fun | 160 => 54 | 232 => 82 | 231 => 81 | 227 => 83 | 234 => 85 | 233 => 84 | 236 => 87 | 235 => 86 | 228 => 101 | 271 => 104 | 151 => 103 | 197 => 102 | 120 => 124 | 152 => 123 | 260 => 122 | 137 => 132 | 119 => 133 | 224 => 134 | 225 => 135 | 217 => 137 | 266 => 138 | n => n, fun | 9 => 9 | 4 => 4 | 3 => 3 | 5 => 5 | 117 => 117 | 116 => 116 | 0 => 0 | 124 => 120 | 21 => 21 | 105 => 131 | 46 => 74 | 119 => 157 | 139 => 160 | 138 => 159 | n => n, fun | 3 => 0 | 4 => 1 | n => n⟩
theorem YthagenodiofgnaaGreatDoor.lays160 : Go.Proofs.Lays.n160 Tryz.prog YthagenodiofgnaaGreatDoor.lays160_ren := {
 mixed := by kernel_rfl
 f119 := Tryz.func133.trans (congrArg some (by kernel_rfl))
 f120 := Tryz.func124.trans (congrArg some (by kernel_rfl))
 f137 := Tryz.func132.trans (congrArg some (by kernel_rfl))
 f151 := Tryz.func103.trans (congrArg some (by kernel_rfl))
 f152 := Tryz.func123.trans (congrArg some (by kernel_rfl))
 f160 := Tryz.func54.trans (congrArg some (by kernel_rfl))
 f197 := Tryz.func102.trans (congrArg some (by kernel_rfl))
 f217 := Tryz.func137.trans (congrArg some (by kernel_rfl))
 f224 := Tryz.func134.trans (congrArg some (by kernel_rfl))
 f225 := Tryz.func135.trans (congrArg some (by kernel_rfl))
 f227 := Tryz.func83.trans (congrArg some (by kernel_rfl))
 f228 := Tryz.func101.trans (congrArg some (by kernel_rfl))
 f231 := Tryz.func81.trans (congrArg some (by kernel_rfl))
 f232 := Tryz.func82.trans (congrArg some (by kernel_rfl))
 f233 := Tryz.func84.trans (congrArg some (by kernel_rfl))
 f234 := Tryz.func85.trans (congrArg some (by kernel_rfl))
 f235 := Tryz.func86.trans (congrArg some (by kernel_rfl))
 f236 := Tryz.func87.trans (congrArg some (by kernel_rfl))
 f260 := Tryz.func122.trans (congrArg some (by kernel_rfl))
 f266 := Tryz.func138.trans (congrArg some (by kernel_rfl))
 f271 := Tryz.func104.trans (congrArg some (by kernel_rfl))
 t0 := Tryz.underlying0
 a0 := Tryz.isAgg0
 z0 := Tryz.sizeOf0
 v0 := Tryz.zeroValue0
 t3 := Tryz.underlying3
 a3 := Tryz.isAgg3
 z3 := Tryz.sizeOf3
 v3 := Tryz.zeroValue3
 t4 := Tryz.underlying4
 a4 := Tryz.isAgg4
 z4 := Tryz.sizeOf4
 v4 := Tryz.zeroValue4
 t5 := Tryz.underlying5
 a5 := Tryz.isAgg5
 z5 := Tryz.sizeOf5
 v5 := Tryz.zeroValue5
 t9 := Tryz.underlying9
 a9 := Tryz.isAgg9
 z9 := Tryz.sizeOf9
 v9 := Tryz.zeroValue9
 t21 := Tryz.underlying21
 a21 := Tryz.isAgg21
 z21 := Tryz.sizeOf21
 v21 := Tryz.zeroValue21
 t46 := Tryz.underlying74
 a46 := Tryz.isAgg74
 z46 := Tryz.sizeOf74
 v46 := Tryz.zeroValue74
 t105 := Tryz.underlying131
 a105 := Tryz.isAgg131
 z105 := Tryz.sizeOf131
 v105 := Tryz.zeroValue131
 t116 := Tryz.underlying116
 a116 := Tryz.isAgg116
 z116 := Tryz.sizeOf116
 t117 := Tryz.underlying117
 a117 := Tryz.isAgg117
 z117 := Tryz.sizeOf117
 v117 := Tryz.zeroValue117
 t119 := Tryz.underlying157
 a119 := Tryz.isAgg157
 z119 := Tryz.sizeOf157
 t124 := Tryz.underlying120
 a124 := Tryz.isAgg120
 z124 := Tryz.sizeOf120
 v124 := Tryz.zeroValue120
 t138 := Tryz.underlying159
 a138 := Tryz.isAgg159
 z138 := Tryz.sizeOf159
 v138 := Tryz.zeroValue159
 t139 := Tryz.underlying160
 a139 := Tryz.isAgg160
 z139 := Tryz.sizeOf160
 v139 := Tryz.zeroValue160
 g3 := by kernel_rfl
 g4 := by kernel_rfl }
end Go.Proofs
namespace Go.Proofs.YthagenodiofgnaaGreatDoor.Dice
open Go.RowKit Go.Proofs.YthagenodiofgnaaGreatDoor Go.Proofs.YthagenodiofgnaaGreatDoor.Base Go.Proofs.YthagenodiofgnaaGreatDoor.Mem
set_option linter.unusedVariables false
theorem drop_all : ∀ (l cs : List UInt8), (∀ b ∈ l, cs.contains b = true) → l.dropWhile (cs.contains ·) = []
 | [], _, _ => rfl
 | b :: l, cs, h => by
  have h1 := h b List.mem_cons_self
  rw [List.dropWhile_cons, if_pos h1]
  exact drop_all l cs fun b hb => h b (List.mem_cons_of_mem _ hb)
theorem trim_bits {s : ByteArray} (h : BitsS s) : Lib.trimS s.data.toList #[48, 49].toList = [] := by
 have h1 : ∀ b ∈ s.data.toList, #[48, 49].toList.contains b = true := by
  intro b hb
  obtain ⟨i, hi, rfl⟩ := List.getElem_of_mem hb
  have hi' : i < s.size := by simpa using hi
  have h2 := h i hi'
  have e : s.data.toList[i] = s[i] := rfl
  rw [e]
  rcases h2 with h2 | h2
  ·have : s[i] = 48 := UInt8.toNat_inj.1 h2
   rw [this]; rfl
  ·have : s[i] = 49 := UInt8.toNat_inj.1 h2
   rw [this]; rfl
 unfold Lib.trimS Lib.trimRightS Lib.trimLeftS
 rw [drop_all s.data.toList.reverse _ fun b hb => h1 b (List.mem_reverse.1 hb)]
 rfl
theorem isBits_yes (s : ByteArray) (hs : s.size ≤ 400) (hB : BitsS s) (w : World) : Calls Tryz.prog 26 #[.string s] w fun e w' => e = .returned (.bool true) ∧ Below w.heap.size w w' := by
 have HT := Lib.hid (Any.strings_Trim_laid YthagenodiofgnaaGreatDoor.lays160 (by kernel_rfl) s ⟨#[48, 49]⟩ w (by omega) (by decide) (ascii_of_all (by decide)))
 rw [show (⟨#[48, 49]⟩ : ByteArray).data = #[48, 49] from rfl, trim_bits hB] at HT
 have hs2 : (s.size : Int) ≤ 400 := by omega
 go_enter Tryz.func26, Tryz.ntmps26
 go_wp2_with fail
 refine HT.out.mono ?_
 rintro e w' ⟨rfl, hb⟩
 have HB := Lib.hid hb
 clear hb
 go_wp2
 go_ret
 exact ⟨rfl, HB.out⟩
theorem isDrawn_yes (n : Int) (h : 1 ≤ n ∧ n ≤ 1000000) (w : World) : Calls Tryz.prog 25 #[.int .i64 n] w fun e w' => e = .returned (.bool true) ∧ w = w' := by
 have HR := Lib.hid (fun w => inRange_any n 1 1000000 w)
 rw [inR_yes h] at HR
 go_enter Tryz.func25, Tryz.ntmps25
 go_wp2_with fail
 refine (HR.out _).mono ?_
 rintro e w' ⟨rfl, rfl⟩
 go_wp2
 go_ret
 exact ⟨rfl, rfl⟩
theorem implDice_some {n : Nat} (hn : 0 < n) (hn2 : n ≤ 1000000) {s : ByteArray} (hs : s.size ≤ 400) (hB : BitsS s) {c u : Nat} (hd : diceR n hn s 1 0 0 = some (c, u)) (w : World) :
  Calls Tryz.prog 10 #[.int .i64 (n : Int), .string s] w fun e w' => e = .returned (.tuple #[.int .i64 (c : Int), .int .i64 (u : Int), .bool true]) ∧ Below w.heap.size w w' := by
 have HD := Lib.hid (fun w => isDrawn_yes (n : Int) (by omega) w)
 have HI := Lib.hid (fun w => isBits_yes s hs hB w)
 have HR := Lib.hid (fun w => rollDice_any n hn hn2 s hs hB w)
 rw [hd] at HR
 clear hB hd
 go_enter Tryz.func10, Tryz.ntmps10
 go_wp2_with fail
 refine (HD.out _).mono ?_
 rintro e w' ⟨rfl, rfl⟩
 go_wp2_with fail
 refine (HI.out _).mono ?_
 rintro e w1 ⟨rfl, hb⟩
 have HB1 := Lib.hid hb
 clear hb
 go_wp2_with fail
 refine (HR.out _).mono ?_
 intro e w2 hr
 obtain rfl := hr.1 c u rfl
 have HB2 := Lib.hid (Base.Below.nextA HB1.out (Drawn.below (B := w1.heap.size) hr.2.2))
 clear hr
 go_wp2
 go_ret3
 exact ⟨rfl, HB2.out⟩
end Go.Proofs.YthagenodiofgnaaGreatDoor.Dice

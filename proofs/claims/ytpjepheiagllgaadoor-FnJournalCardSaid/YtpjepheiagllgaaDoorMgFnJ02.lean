/- The program's decimal text: strconv.FormatInt at base 10, off the kit's shelf. -/
import Derived.Test.YtpjepheiagllgaaDoorMgFnJ01
import Derived.Shelf.Lay
import Derived.Shelf.Strconv.Itoa4
import Derived.Test.YtpjepheiagllgaaDoorMgFnJ00
import Derived.Lib.Builder
import Derived.Lib.UnsafeStr
import Derived.Lib.Strings
import Derived.Lib.Walk
import Derived.Laws.Externs
import Derived.Shelf.RegionOpenPlain
import Derived.Laws.BitsAllLaws
import Derived.Laws.BitsLemmas
import Derived.Deep.OwnRows
namespace Go.Proofs
open Go.Shelf
def YtpjepheiagllgaaDoor.lays173_ren : Go.Shelf.Ren := ⟨fun | 173 => 16 | 246 => 30 | 283 => 39 | 284 => 40 | 285 => 41 | 286 => 42 | 129 => 46 | 317 => 45 | 318 => 47 | 319 => 48 | 320 => 49 | 337 => 54 | 338 => 55 | n => n, fun | 2 => 2 | 3 => 3 | 9 => 9 | 4 => 4 | 171 => 84 | 0 => 0 | 53 => 56 | 37 => 22 | 5 => 5 | 173 => 87 | 212 => 92 | 51 => 93 | 20 => 20 | 213 => 94 | 46 => 74 | 232 => 101 | 233 => 102 | n => n, fun | 17 => 0 | 18 => 2 | 19 => 3 | n => n⟩
theorem YtpjepheiagllgaaDoor.lays173 : Go.Proofs.LaysM.n173 Tryd.prog YtpjepheiagllgaaDoor.lays173_ren := {
 mixed := by kernel_rfl
 f129 := Tryd.func46.trans (congrArg some (by kernel_rfl))
 f173 := Tryd.func16.trans (congrArg some (by kernel_rfl))
 f246 := Tryd.func30.trans (congrArg some (by kernel_rfl))
 f283 := Tryd.func39.trans (congrArg some (by kernel_rfl))
 f284 := Tryd.func40.trans (congrArg some (by kernel_rfl))
 f285 := Tryd.func41.trans (congrArg some (by kernel_rfl))
 f286 := Tryd.func42.trans (congrArg some (by kernel_rfl))
 f317 := Tryd.func45.trans (congrArg some (by kernel_rfl))
 f318 := Tryd.func47.trans (congrArg some (by kernel_rfl))
 f319 := Tryd.func48.trans (congrArg some (by kernel_rfl))
 f320 := Tryd.func49.trans (congrArg some (by kernel_rfl))
 f337 := Tryd.func54.trans (congrArg some (by kernel_rfl))
 f338 := Tryd.func55.trans (congrArg some (by kernel_rfl))
 t0 := Tryd.underlying0
 a0 := Tryd.isAgg0
 z0 := Tryd.sizeOf0
 v0 := Tryd.zeroValue0
 t2 := Tryd.underlying2
 a2 := Tryd.isAgg2
 z2 := Tryd.sizeOf2
 v2 := Tryd.zeroValue2
 t3 := Tryd.underlying3
 a3 := Tryd.isAgg3
 z3 := Tryd.sizeOf3
 v3 := Tryd.zeroValue3
 t4 := Tryd.underlying4
 a4 := Tryd.isAgg4
 z4 := Tryd.sizeOf4
 v4 := Tryd.zeroValue4
 t5 := Tryd.underlying5
 a5 := Tryd.isAgg5
 z5 := Tryd.sizeOf5
 v5 := Tryd.zeroValue5
 t9 := Tryd.underlying9
 a9 := Tryd.isAgg9
 z9 := Tryd.sizeOf9
 v9 := Tryd.zeroValue9
 t20 := Tryd.underlying20
 a20 := Tryd.isAgg20
 z20 := Tryd.sizeOf20
 v20 := Tryd.zeroValue20
 t37 := Tryd.underlying22
 a37 := Tryd.isAgg22
 z37 := Tryd.sizeOf22
 v37 := Tryd.zeroValue22
 t46 := Tryd.underlying74
 a46 := Tryd.isAgg74
 z46 := Tryd.sizeOf74
 v46 := Tryd.zeroValue74
 t51 := Tryd.underlying93
 a51 := Tryd.isAgg93
 z51 := Tryd.sizeOf93
 v51 := Tryd.zeroValue93
 t53 := Tryd.underlying56
 a53 := Tryd.isAgg56
 z53 := Tryd.sizeOf56
 v53 := Tryd.zeroValue56
 t171 := Tryd.underlying84
 a171 := Tryd.isAgg84
 z171 := Tryd.sizeOf84
 v171 := Tryd.zeroValue84
 t173 := Tryd.underlying87
 a173 := Tryd.isAgg87
 z173 := Tryd.sizeOf87
 v173 := Tryd.zeroValue87
 t212 := Tryd.underlying92
 a212 := Tryd.isAgg92
 z212 := Tryd.sizeOf92
 v212 := Tryd.zeroValue92
 t213 := Tryd.underlying94
 a213 := Tryd.isAgg94
 z213 := Tryd.sizeOf94
 t232 := Tryd.underlying101
 a232 := Tryd.isAgg101
 z232 := Tryd.sizeOf101
 v232 := Tryd.zeroValue101
 t233 := Tryd.underlying102
 a233 := Tryd.isAgg102
 z233 := Tryd.sizeOf102
 v233 := Tryd.zeroValue102
 g17 := by kernel_rfl
 g18 := by kernel_rfl
 g19 := by kernel_rfl
 i0 := by kernel_rfl
 i2 := by kernel_rfl
 i3 := by kernel_rfl
 i4 := by kernel_rfl
 i5 := by kernel_rfl
 i9 := by kernel_rfl
 i20 := by kernel_rfl
 i37 := by kernel_rfl
 i46 := by kernel_rfl
 i51 := by kernel_rfl
 i53 := by kernel_rfl
 i171 := by kernel_rfl
 i173 := by kernel_rfl
 i212 := by kernel_rfl
 i232 := by kernel_rfl
 i233 := by kernel_rfl
 m17 := by kernel_rfl
 m18 := by kernel_rfl
 m19 := by kernel_rfl }
end Go.Proofs
namespace Go.Proofs.YtpjepheiagllgaaDoor.Dec
open Go.RowKit Go.Proofs.YtpjepheiagllgaaDoor Go.Proofs.YtpjepheiagllgaaDoor.Base Go.Proofs.YtpjepheiagllgaaDoor.Mem
set_option linter.unusedVariables false
def Pow (B : Nat) (w : World) : Prop := Lib.TabBelow Tryd.prog B w "internal/strconv.uint64pow10" .u64 Lib.pow10Tab
theorem Pow.on {B : Nat} {w w' : World} (h : Pow B w) (hb : Below B w w') : Pow B w' := Lib.TabBelow.on h hb
theorem below_grow (B : Nat) (w : World) (k : Nat) (os : Array Obj) (hB : B ≤ w.heap.size) : Below B w (Sort.grow (w.drewN k) os) :=
 ⟨rfl, rfl, rfl, by show w.heap.size ≤ (w.heap ++ os).size; rw [Array.size_append]; omega, fun j hj => by
  show (w.heap ++ os)[j]? = w.heap[j]?
  rw [Array.getElem?_append_left (by omega)]⟩
theorem formatInt_any (u : Nat) (hu : u ≤ 9223372036854775807) (B : Nat) (w : World) (hp : Pow B w) (hB : B ≤ w.heap.size) : Calls Tryd.prog 16 #[.int .i64 (u : Int), .int .i64 10] w fun e w' => e = .returned (.string (tx (Lib.decDigits u))) ∧ Below w.heap.size w w' := by
 refine (Any.strconv_FormatInt_10 YtpjepheiagllgaaDoor.lays173 (u : Int) (by omega) (by omega) w (Lib.TabBelow.here hp)).mono ?_
 rintro e w' ⟨rfl, k, os, rfl⟩
 refine ⟨?_, below_grow _ w k os (Nat.le_refl _)⟩
 rw [Lib.itoa, if_neg (by omega), Int.toNat_natCast]
theorem decimal_any (u : Nat) (hu : u ≤ 9223372036854775807) (B : Nat) (w : World) (hp : Pow B w) (hB : B ≤ w.heap.size) : Calls Tryd.prog 21 #[.int .i64 (u : Int)] w fun e w' => e = .returned (.string (tx (Lib.decDigits u))) ∧ Below w.heap.size w w' := by
 have HC := Lib.hid (formatInt_any u hu B w hp hB)
 clear hp
 go_enter Tryd.func21, Tryd.ntmps21
 go_wp2_with fail
 refine HC.out.mono ?_
 rintro e w' ⟨rfl, hb⟩
 go_wp2
 go_ret
 exact ⟨rfl, hb⟩
end Go.Proofs.YtpjepheiagllgaaDoor.Dec
namespace Go.Proofs.YtpjepheiagllgaaDoor.Bld
open Go.RowKit Go.Proofs.YtpjepheiagllgaaDoor Go.Proofs.YtpjepheiagllgaaDoor.Base Go.Proofs.YtpjepheiagllgaaDoor.Mem
set_option linter.unusedVariables false
theorem sizeBuilder : (Tryd.prog.info? 43).map (·.size) = some 2 := by kernel_rfl
theorem liesBuilder : liesAt Tryd.prog Tryd.prog.depth 43 (2 / Tryd.prog.cellsOf 43) 0 43 1 = true := by kernel_rfl
theorem infoByte : (Tryd.prog.info? 5).map (fun i => (i.zero, i.size, i.bytes)) = some (some (.int .u8 0), 1, 1) := by kernel_rfl
theorem cellsByte : Tryd.prog.cellsOf 5 = 1 := by kernel_rfl
set_option maxHeartbeats 1000000 in
set_option maxRecDepth 100000 in
theorem copyCheck_used (b : Nat) (w : World) (h0 : w.cell? ⟨b, 0, none⟩ = some (.pointer (some ⟨b, 0, none⟩))) :
  Calls Tryd.prog 29 #[.pointer (some ⟨b, 0, none⟩)] w fun e w' => e = .returned (.tuple #[]) ∧ w' = w := by
 obtain ⟨j, hj, _⟩ := Option.map_eq_some_iff.1 sizeBuilder
 go_enter Tryd.func29, Tryd.ntmps29
 go_wp2
 rw [Lib.run_neq_ptr_same w _ Tryd.underlying41 hj]
 go_wp2
 go_end0
 exact ⟨rfl, rfl⟩
set_option maxHeartbeats 1000000 in
set_option maxRecDepth 100000 in
theorem copyCheck_fresh (b : Nat) (w : World) (h0 : w.cell? ⟨b, 0, none⟩ = some (.pointer none)) (hsh : w.shape? b = some (43, 2)) (hfz : w.frozen? ⟨b, 0, none⟩ = false) :
  Calls Tryd.prog 29 #[.pointer (some ⟨b, 0, none⟩)] w fun e w' => e = .returned (.tuple #[]) ∧ w' = w.setCell ⟨b, 0, none⟩ (.pointer (some ⟨b, 0, none⟩)) := by
 obtain ⟨j, hj, hjs⟩ := Option.map_eq_some_iff.1 sizeBuilder
 go_enter Tryd.func29, Tryd.ntmps29
 go_wp2
 rw [Lib.run_to_unsafe w ⟨b, 0, none⟩ Tryd.underlying41 Tryd.underlying81 hj (by rw [hjs]; decide) hsh (Nat.zero_lt_succ 1)]
 simp only [Result.andThen]
 rw [Oper.upon_value]
 go_wp2
 rw [run_callFunc_extern Tryd.func38 (by kernel_rfl) (by kernel_rfl) (by kernel_rfl) (e := Extern.AbiNoEscape.same) (by kernel_rfl)]
 rw [Lib.run_noEscape]
 simp only [Result.andThen]
 rw [Oper.upon_value]
 go_wp2
 rw [Lib.run_from_unsafe w ⟨b, 0, none⟩ Tryd.underlying81 Tryd.underlying41 hj hsh liesBuilder]
 simp only [Result.andThen]
 rw [Oper.upon_value]
 go_wp2
 go_end0
 exact ⟨rfl, rfl⟩
def IsB (B b : Nat) (bs : List Value) (w : World) : Prop := Lib.IsBuilder 43 5 B b bs w
theorem copyCheck_any (B b : Nat) (bs : List Value) (w : World) (h : IsB B b bs w) :
  Calls Tryd.prog 29 #[.pointer (some ⟨b, 0, none⟩)] w fun e w' => e = .returned (.tuple #[]) ∧ (Lib.BuilderAt 43 5 B b (.pointer (some ⟨b, 0, none⟩)) bs w' ∧ Below B w w') := by
 rcases h with h | h
 ·refine (copyCheck_fresh b w h.cell0 h.shape h.frozen0).mono ?_
  rintro e w' ⟨rfl, rfl⟩
  exact ⟨rfl, h.used _, (Below.refl B w).setCell (p := ⟨b, 0, none⟩) h.1 _⟩
 ·refine (copyCheck_used b w h.cell0).mono ?_
  rintro e w' ⟨rfl, rfl⟩
  exact ⟨rfl, h, Below.refl B _⟩
end Go.Proofs.YtpjepheiagllgaaDoor.Bld
namespace Go.Proofs.YtpjepheiagllgaaDoor.PopM
set_option linter.unusedVariables false
def T (B : Nat) : Nat → Nat → Nat
 | 0, _ => 0
 | k + 1, x => x % B + T B k (x / B)
def S1 (x : Nat) : Nat := (x / 2 &&& 6148914691236517205) + (x &&& 6148914691236517205)
def S2 (x : Nat) : Nat := (x / 4 &&& 3689348814741910323) + (x &&& 3689348814741910323)
def S3 (x : Nat) : Nat := (x / 16 + x) &&& 1085102592571150095
end Go.Proofs.YtpjepheiagllgaaDoor.PopM
namespace Go.Proofs.YtpjepheiagllgaaDoor.Bits
open Go.RowKit Go.Proofs.YtpjepheiagllgaaDoor Go.Proofs.YtpjepheiagllgaaDoor.Base
set_option linter.unusedVariables false
theorem ofInt_i64 (a : Nat) (ha : a < 9223372036854775808) : (BitVec.ofInt 64 (a : Int)).toNat = a := by
 rw [BitVec.ofInt_natCast, BitVec.toNat_ofNat]; exact Nat.mod_eq_of_lt (by omega)
theorem i64_and_nat (a b : Nat) (ha : a < 9223372036854775808) (hb : b < 9223372036854775808) : bits .and .i64 (a : Int) (b : Int) = ((a &&& b : Nat) : Int) := by
 have hx : a &&& b < 2 ^ 63 := Nat.and_lt_two_pow _ (by omega)
 show IntKind.i64.wrap ((BitVec.ofInt 64 (a : Int) &&& BitVec.ofInt 64 (b : Int)).toNat : Int) = _
 rw [BitVec.toNat_and, ofInt_i64 a ha, ofInt_i64 b hb, IntKind.wrap_i64]
 omega
theorem i64_or_nat (a b : Nat) (ha : a < 9223372036854775808) (hb : b < 9223372036854775808) : bits .or .i64 (a : Int) (b : Int) = ((a ||| b : Nat) : Int) := by
 have hx : a ||| b < 2 ^ 63 := Nat.or_lt_two_pow (by omega) (by omega)
 show IntKind.i64.wrap ((BitVec.ofInt 64 (a : Int) ||| BitVec.ofInt 64 (b : Int)).toNat : Int) = _
 rw [BitVec.toNat_or, ofInt_i64 a ha, ofInt_i64 b hb, IntKind.wrap_i64]
 omega
theorem w1 (n : Nat) (hn : n < 18446744073709551616) (h : PopM.S1 n < 18446744073709551616) : IntKind.u64.wrap (bits .and .u64 ((n : Int) / 2) 6148914691236517205 + bits .and .u64 (n : Int) 6148914691236517205) = ((PopM.S1 n : Nat) : Int) := by
 have a := u64_and_nat (n / 2) 6148914691236517205 (by omega) (by omega)
 have b := u64_and_nat n 6148914691236517205 hn (by omega)
 rw [show ((n : Int) / 2) = ((n / 2 : Nat) : Int) by omega]
 rw [show (6148914691236517205 : Int) = ((6148914691236517205 : Nat) : Int) from rfl, a, b, IntKind.wrap_u64]
 unfold PopM.S1 at *
 omega
theorem w2 (n : Nat) (hn : n < 18446744073709551616) (h : PopM.S2 n < 7378697629483820647) : IntKind.u64.wrap (bits .and .u64 ((n : Int) / 4) 3689348814741910323 + bits .and .u64 (n : Int) 3689348814741910323) = ((PopM.S2 n : Nat) : Int) := by
 have a := u64_and_nat (n / 4) 3689348814741910323 (by omega) (by omega)
 have b := u64_and_nat n 3689348814741910323 hn (by omega)
 rw [show ((n : Int) / 4) = ((n / 4 : Nat) : Int) by omega]
 rw [show (3689348814741910323 : Int) = ((3689348814741910323 : Nat) : Int) from rfl, a, b, IntKind.wrap_u64]
 unfold PopM.S2 at *
 omega
theorem w3 (n : Nat) (hn : n < 7378697629483820647) : bits .and .u64 (IntKind.u64.wrap ((n : Int) / 16 + (n : Int))) 1085102592571150095 = ((PopM.S3 n : Nat) : Int) := by
 have a := u64_and_nat (n / 16 + n) 1085102592571150095 (by omega) (by omega)
 have e : IntKind.u64.wrap ((n : Int) / 16 + (n : Int)) = ((n / 16 + n : Nat) : Int) := by rw [IntKind.wrap_u64]; omega
 rw [e, show (1085102592571150095 : Int) = ((1085102592571150095 : Nat) : Int) from rfl, a]
 rfl
theorem w4 (n : Nat) (hn : n < 1157442765409226769) : bits .and .i64 (wrap64 (IntKind.u64.wrap (IntKind.u64.wrap (IntKind.u64.wrap ((n : Int) + (n : Int) / 256) + IntKind.u64.wrap ((n : Int) + (n : Int) / 256) / 65536) + IntKind.u64.wrap (IntKind.u64.wrap ((n : Int) + (n : Int) / 256) + IntKind.u64.wrap ((n : Int) + (n : Int) / 256) / 65536) / 4294967296))) 127 =
  (((n + n / 256 + (n + n / 256) / 65536 + (n + n / 256 + (n + n / 256) / 65536) / 4294967296) % 128 : Nat) : Int) := by
 have e1 : IntKind.u64.wrap ((n : Int) + (n : Int) / 256) = ((n + n / 256 : Nat) : Int) := by rw [IntKind.wrap_u64]; omega
 rw [e1]
 have hx : n + n / 256 < 1161964026368821562 := by omega
 generalize n + n / 256 = x at *
 have e2 : IntKind.u64.wrap ((x : Int) + (x : Int) / 65536) = ((x + x / 65536 : Nat) : Int) := by rw [IntKind.wrap_u64]; omega
 rw [e2]
 have hy : x + x / 65536 < 1161981756664180000 := by omega
 generalize x + x / 65536 = y at *
 have e3 : IntKind.u64.wrap ((y : Int) + (y : Int) / 4294967296) = ((y + y / 4294967296 : Nat) : Int) := by rw [IntKind.wrap_u64]; omega
 have hz : y + y / 4294967296 < 1161981757000000000 := by omega
 rw [e3]
 generalize y + y / 4294967296 = z at *
 have e4 : wrap64 (z : Int) = (z : Int) := by simp only [wrap64]; omega
 rw [e4, show (127 : Int) = ((127 : Nat) : Int) from rfl, i64_and_nat z 127 (by omega) (by omega), nat_mask7]
end Go.Proofs.YtpjepheiagllgaaDoor.Bits
set_option linter.unusedVariables false
namespace Go.Proofs.YtpjepheiagllgaaDoor.CycM
end Go.Proofs.YtpjepheiagllgaaDoor.CycM
namespace Go.Proofs.YtpjepheiagllgaaDoor.Cong
open Go.RowKit Go.Proofs.YtpjepheiagllgaaDoor Go.Proofs.YtpjepheiagllgaaDoor.Base
set_option linter.unusedVariables false
def congB (m f a : Int) : Bool := inR m 2 100000 && (inR f 0 (m - 1) && inR a 0 (m - 1))
theorem congB_true {m f a : Int} (h : congB m f a = true) : 2 ≤ m ∧ m ≤ 100000 ∧ 0 ≤ f ∧ f < m ∧ 0 ≤ a ∧ a < m := by
 simp only [congB, Bool.and_eq_true] at h
 have h1 := inR_true h.1
 have h2 := inR_true h.2.1
 have h3 := inR_true h.2.2
 omega
end Go.Proofs.YtpjepheiagllgaaDoor.Cong
namespace Go.Proofs.YtpjepheiagllgaaDoor.Reg
open Go.RowKit Go.Proofs.YtpjepheiagllgaaDoor Go.Proofs.YtpjepheiagllgaaDoor.Base Go.Proofs.YtpjepheiagllgaaDoor.Bits
set_option linter.unusedVariables false
def stB (W : Nat) (x : Int) : Bool := inR x 0 ((2 : Int) ^ W - 1)
def regB (W T : Int) : Bool := inR W 0 16 && stB W.toNat T
theorem regB_true {W T : Int} (h : regB W T = true) : 0 ≤ W ∧ W ≤ 16 ∧ 0 ≤ T ∧ T < (2 : Int) ^ W.toNat := by
 simp only [regB, Bool.and_eq_true, stB] at h
 have h1 := inR_true h.1
 have h2 := inR_true h.2
 omega
def bothR (W T x : Int) : Bool := regB W T && stB W.toNat x
theorem bothR_true {W T x : Int} (h : bothR W T x = true) : 0 ≤ W ∧ W ≤ 16 ∧ 0 ≤ T ∧ T < (2 : Int) ^ W.toNat ∧ 0 ≤ x ∧ x < (2 : Int) ^ W.toNat := by
 simp only [bothR, Bool.and_eq_true, stB] at h
 have h1 := regB_true h.1
 have h2 := inR_true h.2
 omega
end Go.Proofs.YtpjepheiagllgaaDoor.Reg
namespace Go.Proofs.YtpjepheiagllgaaDoor.Reg
open Go.RowKit Go.Proofs.YtpjepheiagllgaaDoor Go.Proofs.YtpjepheiagllgaaDoor.Base Go.Proofs.YtpjepheiagllgaaDoor.Bits
set_option linter.unusedVariables false
end Go.Proofs.YtpjepheiagllgaaDoor.Reg
namespace Go.Proofs.YtpjepheiagllgaaDoor.Poly
open Go.Proofs.YtpjepheiagllgaaDoor
set_option linter.unusedVariables false
end Go.Proofs.YtpjepheiagllgaaDoor.Poly
namespace Go.Proofs.YtpjepheiagllgaaDoor.Jump
open Go.RowKit Go.Proofs.YtpjepheiagllgaaDoor Go.Proofs.YtpjepheiagllgaaDoor.Base Go.Proofs.YtpjepheiagllgaaDoor.Poly
set_option linter.unusedVariables false
end Go.Proofs.YtpjepheiagllgaaDoor.Jump
namespace Go.Proofs.YtpjepheiagllgaaDoor.Jump
open Go.RowKit Go.Proofs.YtpjepheiagllgaaDoor Go.Proofs.YtpjepheiagllgaaDoor.Base Go.Proofs.YtpjepheiagllgaaDoor.Poly Go.Proofs.YtpjepheiagllgaaDoor.Bits
set_option linter.unusedVariables false
end Go.Proofs.YtpjepheiagllgaaDoor.Jump
namespace Go.Proofs.YtpjepheiagllgaaDoor.Jump
open Go.RowKit Go.Proofs.YtpjepheiagllgaaDoor Go.Proofs.YtpjepheiagllgaaDoor.Base Go.Proofs.YtpjepheiagllgaaDoor.Poly Go.Proofs.YtpjepheiagllgaaDoor.Bits
set_option linter.unusedVariables false
theorem bothR_yes {W T x : Nat} (hW : W ≤ 16) (hT : T < 2 ^ W) (hx : x < 2 ^ W) : Reg.bothR W T x = true := by
 have e : ((2 ^ W : Nat) : Int) = (2 : Int) ^ W := by simp
 have h1 := inR_yes (n := (W : Int)) (lo := 0) (hi := 16) (by omega)
 have h2 := inR_yes (n := (T : Int)) (lo := 0) (hi := (2 : Int) ^ W - 1) (by omega)
 have h3 := inR_yes (n := (x : Int)) (lo := 0) (hi := (2 : Int) ^ W - 1) (by omega)
 simp [Reg.bothR, Reg.regB, Reg.stB, h1, h2, h3]
end Go.Proofs.YtpjepheiagllgaaDoor.Jump

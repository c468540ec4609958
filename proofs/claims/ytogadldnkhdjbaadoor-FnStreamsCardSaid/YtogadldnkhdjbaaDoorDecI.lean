/- The program's decimal text: strconv.FormatInt at base 10, off the kit's shelf. -/
import Derived.Test.YtogadldnkhdjbaaDoorDec
import Derived.Shelf.Lay
import Derived.Shelf.Strconv.Itoa4
import Derived.Ground.NamesProg
namespace Go.Proofs
open Go.Shelf
shelf_lay LaysM.n173 Nm 173 at Tryd as YtogadldnkhdjbaaDoor.lays173
end Go.Proofs
namespace Go.Proofs.YtogadldnkhdjbaaDoor.Dec
open Go.RowKit Go.Proofs.YtogadldnkhdjbaaDoor Go.Proofs.YtogadldnkhdjbaaDoor.Base Go.Proofs.YtogadldnkhdjbaaDoor.Mem
set_option linter.unusedVariables false
/-- the library's table of powers of 10, whatever is done from block B on -/
def Pow (B : Nat) (w : World) : Prop := Lib.TabBelow Tryd.prog B w "internal/strconv.uint64pow10" .u64 Lib.pow10Tab
theorem Pow.on {B : Nat} {w w' : World} (h : Pow B w) (hb : Below B w w') : Pow B w' := Lib.TabBelow.on h hb
theorem below_grow (B : Nat) (w : World) (k : Nat) (os : Array Obj) (hB : B ≤ w.heap.size) : Below B w (Sort.grow (w.drewN k) os) :=
  ⟨rfl, rfl, rfl, by show w.heap.size ≤ (w.heap ++ os).size; rw [Array.size_append]; omega, fun j hj => by
    show (w.heap ++ os)[j]? = w.heap[j]?
    rw [Array.getElem?_append_left (by omega)]⟩
theorem formatInt_any (u : Nat) (hu : u ≤ 9223372036854775807) (B : Nat) (w : World) (hp : Pow B w) (hB : B ≤ w.heap.size) : Calls Tryd.prog 27 #[.int .i64 (u : Int), .int .i64 10] w fun e w' => e = .returned (.string (tx (Lib.decDigits u))) ∧ Below w.heap.size w w' := by
  refine (Any.strconv_FormatInt_10 YtogadldnkhdjbaaDoor.lays173 (u : Int) (by omega) (by omega) w (Lib.TabBelow.here hp)).mono ?_
  rintro e w' ⟨rfl, k, os, rfl⟩
  refine ⟨?_, below_grow _ w k os (Nat.le_refl _)⟩
  rw [Lib.itoa, if_neg (by omega), Int.toNat_natCast]
theorem decimal_any (u : Nat) (hu : u ≤ 9223372036854775807) (B : Nat) (w : World) (hp : Pow B w) (hB : B ≤ w.heap.size) : Calls Tryd.prog 32 #[.int .i64 (u : Int)] w fun e w' => e = .returned (.string (tx (Lib.decDigits u))) ∧ Below w.heap.size w w' := by
  have HC := Lib.hid (formatInt_any u hu B w hp hB)
  clear hp
  go_enter Tryd.func32, Tryd.ntmps32
  go_wp2_with fail
  refine HC.out.mono ?_
  rintro e w' ⟨rfl, hb⟩
  go_wp2
  go_ret
  exact ⟨rfl, hb⟩
end Go.Proofs.YtogadldnkhdjbaaDoor.Dec

/- 'FnLab' returns true for every input (its card: the library's tables as the program's text lays them): the law's contract is brought into the row's form. No condition. -/
import Derived.Shelf.Strings.SplitShaped
import Derived.Test.YtgipnbeipfhekaaGreatDoorCards
import Derived.Test.YtgipnbeipfhekaaGreatDoorTie
import Derived.Test.YtgipnbeipfhekaaGreatDoorMgFnL23
import Derived.Test.YtgipnbeipfhekaaGreatDoorMgFnL10
import Derived.Test.YtgipnbeipfhekaaGreatDoorMgFnL09
import Derived.ProofKit
import Derived.OpenShut
import Derived.WalkKit
import Derived.Deep.DeepHandedRow
import Derived.Lib.LaidTab
import Derived.Stop.LaidErr
namespace Go.Proofs
open Go.Shelf
def YtgipnbeipfhekaaGreatDoor.fnLabM146_ren : Go.Shelf.Ren := ⟨fun | 146 => 44 | 221 => 85 | 268 => 136 | 138 => 52 | 143 => 103 | 195 => 101 | 197 => 183 | 218 => 102 | 219 => 163 | 260 => 218 | 217 => 207 | 225 => 208 | 224 => 209 | 267 => 210 | 266 => 234 | 314 => 235 | n => n, fun | 9 => 9 | 31 => 50 | 3 => 3 | 4 => 4 | 0 => 0 | 105 => 224 | 21 => 21 | 5 => 5 | 46 => 118 | 119 => 262 | 139 => 265 | 138 => 264 | 146 => 257 | 51 => 221 | n => n, fun | 1 => 0 | 3 => 6 | 4 => 7 | n => n⟩
theorem YtgipnbeipfhekaaGreatDoor.fnLabM146 : Go.Proofs.LaysM.n146 Tryz.prog YtgipnbeipfhekaaGreatDoor.fnLabM146_ren := {
 mixed := by kernel_rfl
 f138 := Tryz.func52.trans (congrArg some (by kernel_rfl))
 f143 := Tryz.func103.trans (congrArg some (by kernel_rfl))
 f146 := Tryz.func44.trans (congrArg some (by kernel_rfl))
 f195 := Tryz.func101.trans (congrArg some (by kernel_rfl))
 f197 := Tryz.func183.trans (congrArg some (by kernel_rfl))
 f217 := Tryz.func207.trans (congrArg some (by kernel_rfl))
 f218 := Tryz.func102.trans (congrArg some (by kernel_rfl))
 f219 := Tryz.func163.trans (congrArg some (by kernel_rfl))
 f221 := Tryz.func85.trans (congrArg some (by kernel_rfl))
 f224 := Tryz.func209.trans (congrArg some (by kernel_rfl))
 f225 := Tryz.func208.trans (congrArg some (by kernel_rfl))
 f260 := Tryz.func218.trans (congrArg some (by kernel_rfl))
 f266 := Tryz.func234.trans (congrArg some (by kernel_rfl))
 f267 := Tryz.func210.trans (congrArg some (by kernel_rfl))
 f268 := Tryz.func136.trans (congrArg some (by kernel_rfl))
 f314 := Tryz.func235.trans (congrArg some (by kernel_rfl))
 t0 := Tryz.underlying0
 a0 := Tryz.isAgg0
 z0 := Tryz.sizeOf0
 v0 := Tryz.zeroValue0
 t3 := Tryz.underlying3
 a3 := Tryz.isAgg3
 z3 := Tryz.sizeOf3
 v3 := Tryz.zeroValue3
 t4 := Tryz.underlying4
 a4 := Tryz.isAgg4
 z4 := Tryz.sizeOf4
 v4 := Tryz.zeroValue4
 t5 := Tryz.underlying5
 a5 := Tryz.isAgg5
 z5 := Tryz.sizeOf5
 v5 := Tryz.zeroValue5
 t9 := Tryz.underlying9
 a9 := Tryz.isAgg9
 z9 := Tryz.sizeOf9
 v9 := Tryz.zeroValue9
 t21 := Tryz.underlying21
 a21 := Tryz.isAgg21
 z21 := Tryz.sizeOf21
 v21 := Tryz.zeroValue21
 t31 := Tryz.underlying50
 a31 := Tryz.isAgg50
 z31 := Tryz.sizeOf50
 v31 := Tryz.zeroValue50
 t46 := Tryz.underlying118
 a46 := Tryz.isAgg118
 z46 := Tryz.sizeOf118
 v46 := Tryz.zeroValue118
 t51 := Tryz.underlying221
 a51 := Tryz.isAgg221
 z51 := Tryz.sizeOf221
 v51 := Tryz.zeroValue221
 t105 := Tryz.underlying224
 a105 := Tryz.isAgg224
 z105 := Tryz.sizeOf224
 v105 := Tryz.zeroValue224
 t119 := Tryz.underlying262
 a119 := Tryz.isAgg262
 z119 := Tryz.sizeOf262
 t138 := Tryz.underlying264
 a138 := Tryz.isAgg264
 z138 := Tryz.sizeOf264
 v138 := Tryz.zeroValue264
 t139 := Tryz.underlying265
 a139 := Tryz.isAgg265
 z139 := Tryz.sizeOf265
 v139 := Tryz.zeroValue265
 t146 := Tryz.underlying257
 a146 := Tryz.isAgg257
 z146 := Tryz.sizeOf257
 v146 := Tryz.zeroValue257
 g1 := by kernel_rfl
 g3 := by kernel_rfl
 g4 := by kernel_rfl
 i0 := by kernel_rfl
 i3 := by kernel_rfl
 i4 := by kernel_rfl
 i5 := by kernel_rfl
 i9 := by kernel_rfl
 i21 := by kernel_rfl
 i31 := by kernel_rfl
 i46 := by kernel_rfl
 i51 := by kernel_rfl
 i105 := by kernel_rfl
 i138 := by kernel_rfl
 i139 := by kernel_rfl
 i146 := by kernel_rfl
 m1 := by kernel_rfl
 s1_3 := fun w h => Go.Proofs.cell_of_shapedOpen_int (zero := #[.int .i64 0]) (t := 3) h (of_decide_eq_true (by kernel_rfl)) (by kernel_rfl) rfl (by kernel_rfl) (by kernel_rfl) Tryz.underlying3
 m3 := by kernel_rfl
 m4 := by kernel_rfl }
end Go.Proofs
namespace Go.Proofs.YtgipnbeipfhekaaGreatDoor.fnLab
open Go.ChangeShapes Go.WideShapes Go.ChangeAt Go.RowKit Go.Joins Go.Proofs.YtgipnbeipfhekaaGreatDoor
set_option linter.unusedVariables false
theorem gPow : Tryz.prog.globalNamed "internal/strconv.uint64pow10" = some 1 := by kernel_rfl
theorem gPowType : (Tryz.prog.globals[1]?).map (·.type) = some 220 := by kernel_rfl
theorem cells20 : Tryz.prog.cellsOf 220 = 20 := by kernel_rfl
theorem cells1 : Tryz.prog.cellsOf 114 = 1 := by kernel_rfl
theorem tabPow : (Rows.laid_internal_strconv_uint64pow10 : DataW Unit) = Lib.tabData .u64 Lib.pow10Tab := by rfl
theorem table {W : World} (h : laidMetH Tryz.prog Rows.fnLabRow.laid W) : Lib.TabIs Tryz.prog W "internal/strconv.uint64pow10" .u64 Lib.pow10Tab := by
 have h0 : laidMet Tryz.prog [("math/bits.deBruijn32tab", Rows.laid_math_bits_deBruijn32tab), ("math/bits.deBruijn64tab", Rows.laid_math_bits_deBruijn64tab), ("internal/strconv.uint64pow10", Rows.laid_internal_strconv_uint64pow10), ("unicode/utf8.acceptRanges", Rows.laid_unicode_utf8_acceptRanges), ("strconv.ErrRange", Rows.laid_strconv_ErrRange), ("strconv.ErrSyntax", Rows.laid_strconv_ErrSyntax), ("unicode/utf8.first", Rows.laid_unicode_utf8_first)] W := h
 have h1 := Go.laidMet.tail h0
 have h2 := Go.laidMet.tail h1
 rw [tabPow] at h2
 exact Lib.tabIs_of_head gPow gPowType Tryz.underlying220 Tryz.underlying114 cells1 cells20 h2
theorem cellsE : Tryz.prog.cellsOf 287 = 1 := by kernel_rfl
theorem cellsS : Tryz.prog.cellsOf 9 = 1 := by kernel_rfl
theorem star : "*" ++ "errors.errorString" = "*errors.errorString" := by decide
theorem rowE (u : TypeId) (h : Tryz.prog.typeName? 3 u = some "*errors.errorString") : u = 285 :=
 typeName_ptr_named (nm := "errors.errorString") (by rw [star]; kernel_rfl) (by kernel_rfl) (by decide) u (by rw [star]; exact h)
theorem gErrRange : Tryz.prog.globalNamed "strconv.ErrRange" = some 9 := by kernel_rfl
theorem gErrRangeType : (Tryz.prog.globals[9]?).map (·.type) = some 97 := by kernel_rfl
theorem isErrRange {W : World} (h : laidMetH Tryz.prog Rows.fnLabRow.laid W) : ∃ v, W.cell? ⟨9, 0, none⟩ = some v ∧ ∃ te pe, v = .iface te pe := by
 have h0 : laidMet Tryz.prog [("math/bits.deBruijn32tab", Rows.laid_math_bits_deBruijn32tab), ("math/bits.deBruijn64tab", Rows.laid_math_bits_deBruijn64tab), ("internal/strconv.uint64pow10", Rows.laid_internal_strconv_uint64pow10), ("unicode/utf8.acceptRanges", Rows.laid_unicode_utf8_acceptRanges), ("strconv.ErrRange", Rows.laid_strconv_ErrRange), ("strconv.ErrSyntax", Rows.laid_strconv_ErrSyntax), ("unicode/utf8.first", Rows.laid_unicode_utf8_first)] W := h
 have h1 := Go.laidMet.tail h0
 have h2 := Go.laidMet.tail h1
 have h3 := Go.laidMet.tail h2
 have h4 := Go.laidMet.tail h3
 obtain ⟨a, s, hv, _, _, _⟩ := laid_sentinel h4 gErrRange gErrRangeType Tryz.underlying97 rowE Tryz.underlying285 Tryz.underlying287 rfl rfl Tryz.underlying9 cellsE cellsS
 exact ⟨_, by simpa using World.var?_cell gErrRange hv 0, _, _, rfl⟩
theorem gErrSyntax : Tryz.prog.globalNamed "strconv.ErrSyntax" = some 8 := by kernel_rfl
theorem gErrSyntaxType : (Tryz.prog.globals[8]?).map (·.type) = some 97 := by kernel_rfl
theorem isErrSyntax {W : World} (h : laidMetH Tryz.prog Rows.fnLabRow.laid W) : ∃ v, W.cell? ⟨8, 0, none⟩ = some v ∧ ∃ te pe, v = .iface te pe := by
 have h0 : laidMet Tryz.prog [("math/bits.deBruijn32tab", Rows.laid_math_bits_deBruijn32tab), ("math/bits.deBruijn64tab", Rows.laid_math_bits_deBruijn64tab), ("internal/strconv.uint64pow10", Rows.laid_internal_strconv_uint64pow10), ("unicode/utf8.acceptRanges", Rows.laid_unicode_utf8_acceptRanges), ("strconv.ErrRange", Rows.laid_strconv_ErrRange), ("strconv.ErrSyntax", Rows.laid_strconv_ErrSyntax), ("unicode/utf8.first", Rows.laid_unicode_utf8_first)] W := h
 have h1 := Go.laidMet.tail h0
 have h2 := Go.laidMet.tail h1
 have h3 := Go.laidMet.tail h2
 have h4 := Go.laidMet.tail h3
 have h5 := Go.laidMet.tail h4
 obtain ⟨a, s, hv, _, _, _⟩ := laid_sentinel h5 gErrSyntax gErrSyntaxType Tryz.underlying97 rowE Tryz.underlying285 Tryz.underlying287 rfl rfl Tryz.underlying9 cellsE cellsS
 exact ⟨_, by simpa using World.var?_cell gErrSyntax hv 0, _, _, rfl⟩
set_option maxRecDepth 100000 in
theorem contract (H : Type) (enc : TypeId × Value → H) (W : World) (base : Nat) (args : Array Value) (ds gs : List (DataW H)) (before : List MemPlace)
  (hval : ∀ (j : Nat) t v, Tryz.f4.params[j]? = some t → args[j]? = some v → Value.okWide Tryz.prog W .any base t v)
  (hW : DataW.Whole enc Tryz.prog Tryz.f4.params.toList Rows.fnLabSpec.vars false W args.toList ds gs before) (hL : laidMetH Tryz.prog Rows.fnLabRow.laid W) (hS : W.ShapedOpen Tryz.prog) :
  Calls Tryz.prog 4 args W fun e W' => ∃ v, e = .returned v ∧ Rows.fnLabSpec.post enc Tryz.prog Tryz.f4 false true false false W args v W' := by
 have hW' := hW
 obtain ⟨p, q, hA0, hV, rfl, hfz, hnd⟩ := hW
 have hA : DataW.TrodAll enc Tryz.prog W 0 (fun _ => true) true Tryz.f4.params.toList args.toList ds p := hA0
 obtain ⟨rfl, rfl⟩ := trodVars_none hV
 simp only [List.append_nil] at hW'
 have hpost : ∀ W' : World, (Rows.fnLabSpec.fn H (ds ++ [])).args = ds → (Rows.fnLabSpec.fn H (ds ++ [])).vars = [] → (Rows.fnLabSpec.fn H (ds ++ [])).results = [.lit (.bool true)] → Below W.heap.size W W' → Rows.fnLabSpec.post enc Tryz.prog Tryz.f4 false true false false W args (.bool true) W' :=
  fun W' ha hv hr hb => Frame.post_below rfl Frame.laidOut (by kernel_rfl) hW' hA ha hv (fun _ _ _ => by rw [hr]; exact trodAll_cons_mk (shut_bool Tryz.underlying4 _) trodAll_mk0) hb
 rw [Tryz.params4] at hA hval
 obtain ⟨v0, vs0, d0, ds0, p0, q0, hargs, rfl, rfl, h0, r0⟩ := trodAll_cons hA
 obtain ⟨v1, vs1, d1, ds1, p1, q1, rfl, rfl, rfl, h1, r1⟩ := trodAll_cons r0
 obtain ⟨rfl, rfl, rfl⟩ := trodAll_nil r1
 obtain rfl : args = #[v0, v1] := by cases args; simp_all
 replace hpost := fun W' => hpost W' rfl rfl rfl
 have w0 := Open.bytes (hval 0 _ v0 rfl rfl) h0
 have w1 := Open.bytes (hval 1 _ v1 rfl rfl) h1
 have hp : Dec.Pow W.heap.size W := Lib.tabBelow_of_tabIs (table hL)
 obtain ⟨e1, c1, i1⟩ := isErrSyntax hL
 obtain ⟨e2, c2, i2⟩ := isErrRange hL
 have he : Val.Errs W.heap.size W := ⟨e1, e2, Lib.lt_of_cell c1, Lib.lt_of_cell c2, c1, c2, .inr i1, .inr i2⟩
 obtain ⟨m, hm0⟩ := (YtgipnbeipfhekaaGreatDoor.fnLabM146).s1_3 W hS
 have hm : Rd.MaxL W.heap.size W := ⟨m, Lib.lt_of_cell hm0, hm0⟩
 clear hA0 hval hL hS
 refine ((fun h h2 hp he hm _ => LcS.lab_v h h2 hp he hm) w0 w1 hp he hm W).mono fun e W' ⟨he2, hg⟩ => ?_
 subst he2
 exact ⟨_, rfl, hpost W' hg⟩
def put (cs : Array Value) : Obj → Obj
 | .cells _ t frozen => .cells cs t frozen
 | o => o
abbrev synS : ByteArray := { data := #[105, 110, 118, 97, 108, 105, 100, 32, 115, 121, 110, 116, 97, 120] }
abbrev rngS : ByteArray := { data := #[118, 97, 108, 117, 101, 32, 111, 117, 116, 32, 111, 102, 32, 114, 97, 110, 103, 101] }
noncomputable def low : Nat := (World.holding Tryz.prog default ⟨#[], #[], []⟩).heap.size
noncomputable def tab0 : Array Value := #[.int .u8 0, .int .u8 1, .int .u8 28, .int .u8 2, .int .u8 29, .int .u8 14, .int .u8 24, .int .u8 3, .int .u8 30, .int .u8 22, .int .u8 20, .int .u8 15, .int .u8 25, .int .u8 17, .int .u8 4, .int .u8 8, .int .u8 31, .int .u8 27, .int .u8 13, .int .u8 23, .int .u8 21, .int .u8 19, .int .u8 16, .int .u8 7, .int .u8 26, .int .u8 12, .int .u8 18, .int .u8 6, .int .u8 11, .int .u8 5, .int .u8 10, .int .u8 9]
noncomputable def tab1 : Array Value := #[.int .u8 0, .int .u8 1, .int .u8 56, .int .u8 2, .int .u8 57, .int .u8 49, .int .u8 28, .int .u8 3, .int .u8 61, .int .u8 58, .int .u8 42, .int .u8 50, .int .u8 38, .int .u8 29, .int .u8 17, .int .u8 4, .int .u8 62, .int .u8 47, .int .u8 59, .int .u8 36, .int .u8 45, .int .u8 43, .int .u8 51, .int .u8 22, .int .u8 53, .int .u8 39, .int .u8 33, .int .u8 30, .int .u8 24, .int .u8 18, .int .u8 12, .int .u8 5, .int .u8 63, .int .u8 55, .int .u8 48, .int .u8 27, .int .u8 60, .int .u8 41, .int .u8 37, .int .u8 16, .int .u8 46, .int .u8 35, .int .u8 44, .int .u8 21, .int .u8 52, .int .u8 32, .int .u8 23, .int .u8 11, .int .u8 54, .int .u8 26, .int .u8 40, .int .u8 15, .int .u8 34, .int .u8 20, .int .u8 31, .int .u8 10, .int .u8 25, .int .u8 14, .int .u8 19, .int .u8 9, .int .u8 13, .int .u8 8, .int .u8 7, .int .u8 6]
noncomputable def tab2 : Array Value := #[.int .u64 1, .int .u64 10, .int .u64 100, .int .u64 1000, .int .u64 10000, .int .u64 100000, .int .u64 1000000, .int .u64 10000000, .int .u64 100000000, .int .u64 1000000000, .int .u64 10000000000, .int .u64 100000000000, .int .u64 1000000000000, .int .u64 10000000000000, .int .u64 100000000000000, .int .u64 1000000000000000, .int .u64 10000000000000000, .int .u64 100000000000000000, .int .u64 1000000000000000000, .int .u64 10000000000000000000]
noncomputable def tab3 : Array Value := #[.int .u8 128, .int .u8 191, .int .u8 160, .int .u8 191, .int .u8 128, .int .u8 159, .int .u8 144, .int .u8 191, .int .u8 128, .int .u8 143, .int .u8 0, .int .u8 0, .int .u8 0, .int .u8 0, .int .u8 0, .int .u8 0, .int .u8 0, .int .u8 0, .int .u8 0, .int .u8 0, .int .u8 0, .int .u8 0, .int .u8 0, .int .u8 0, .int .u8 0, .int .u8 0, .int .u8 0, .int .u8 0, .int .u8 0, .int .u8 0, .int .u8 0, .int .u8 0]
noncomputable def tab4 : Array Value := #[.iface 285 (.pointer (some ⟨low + 1, 0, none⟩))]
noncomputable def tab5 : Array Value := #[.iface 285 (.pointer (some ⟨low, 0, none⟩))]
noncomputable def tab6 : Array Value := (Go.Pinned.utf8FirstZ.map fun (n : Nat) => Value.int .u8 (n : Int)).toArray
noncomputable def laidWorld (os : Os) : World := { World.holding Tryz.prog os ⟨#[.cells #[.string synS] 287, .cells #[.string rngS] 287], #[], []⟩ with heap := ((((((((World.holding Tryz.prog os ⟨#[.cells #[.string synS] 287, .cells #[.string rngS] 287], #[], []⟩).heap.modify 4 (put tab0)).modify 5 (put tab1)).modify 1 (put tab2)).modify 7 (put tab3)).modify 9 (put tab4)).modify 8 (put tab5)).modify 6 (put tab6)) }
theorem laid_met (os : Os) : laidMet Tryz.prog Rows.fnLabRow.laid ((laidWorld os).forCall (fun _ _ => 0) ⟨#[], #[.slice none 0 0, .slice none 0 0], []⟩).memory :=
 laidMet_of_run' 8 (by kernel_rfl) (by kernel_rfl)
theorem reads (os : Os) {H : Type} (enc : TypeId × Value → H) : ∃ places, DataW.whole enc Tryz.prog ((laidWorld os).forCall (fun _ _ => 0) ⟨#[], #[.slice none 0 0, .slice none 0 0], []⟩).memory Tryz.f4.params.toList Rows.fnLabSpec.vars false (#[.slice none 0 0, .slice none 0 0] : Array Value).toList 8 = some ([.nil, .nil], [], places) :=
 ⟨[], by kernel_rfl⟩
set_option maxRecDepth 100000 in
theorem lifted (os : Os) (started : os.Started) (H : Type) (enc : TypeId × Value → H) (F : Stop.Interp) :
  ReturnsInHanded {} Tryz.checked os 4 .any ((OpenSpec.ofChange Rows.fnLabSpec).preRow enc Tryz.prog Tryz.f4 Rows.fnLabRow.domain false Rows.fnLabRow.laid) (((OpenSpec.ofChange Rows.fnLabSpec).at F).post enc Tryz.prog Tryz.f4 false true false false) := by
 obtain ⟨places, hx⟩ := reads os enc
 refine returnsInHanded_of_row (C := Tryz.checked) (s := OpenSpec.ofChange Rows.fnLabSpec) Frame.own started (by kernel_rfl) Tryz.func4
  (witness_row_at (enc := enc) (C := Tryz.checked) false (laidWorld os) #[.slice none 0 0, .slice none 0 0] rfl (by kernel_rfl) (by kernel_rfl) (by kernel_rfl)
   (OpenSpec.preRow_of_cond 8 hx (by kernel_rfl) (fun k hk => by cases hk) (by kernel_rfl) (laid_met os))) ?_
 intro W base args ds gs before hval hW _ _ _ hL hS _
 exact contract H enc W base args ds gs before hval hW hL hS
set_option maxRecDepth 100000 in
theorem said : Rows.FnLabSaid :=
 OpenClaim.holds_of_cond 4 Tryz.f4 rfl rfl rfl rfl rfl rfl rfl ⟨rfl, rfl, rfl, rfl, rfl⟩ rfl rfl rfl rfl rfl (by kernel_rfl) Tryz.func4 (by kernel_rfl)
  (of_decide_eq_true (by kernel_rfl)) (by unfold Func.isWrapper; first | (rw [if_pos (by decide +kernel)]; kernel_rfl) | (rw [if_neg (by decide +kernel)]; exact ⟨rfl, rfl⟩))
  (fun os started H enc _ F => by rw [OpenClaim.pre_eq_preRow]; exact lifted os started H enc F)
theorem plain (f : FuncId) (fn : Func) (hf : Tryz.pinned.checked.prog.funcNamed "loop.example/g01121/laws.FnLab" = some f) (hfn : Tryz.pinned.checked.prog.funcs[f]? = some fn) :
  true = Tryz.pinned.checked.prog.looks [] ∧ ∀ (j : Nat) t, fn.params[j]? = some t → Tryz.pinned.checked.prog.wantsStandIn t = false := by
 obtain rfl : f = 4 := Option.some.inj ((show Tryz.prog.funcNamed "loop.example/g01121/laws.FnLab" = some 4 by kernel_rfl).symm.trans hf) |>.symm
 obtain rfl : fn = Tryz.f4 := (Option.some.inj (Tryz.func4.symm.trans hfn)).symm
 refine ⟨by kernel_rfl, fun j t ht => ?_⟩
 rw [Tryz.params4] at ht
 obtain rfl : t = 22 := by simpa using Array.mem_of_getElem? ht
 exact (show Tryz.prog.wantsStandIn 22 = false by kernel_rfl)
theorem proved : Rows.FnLabCardSaid :=
 Claim7.holds_tied_plain_at .later [] _ _ _ _ said (fun _ h => by cases h) (by kernel_rfl) (fun _ h => by cases h) fnLab_row_tie rfl ⟨rfl, rfl⟩ (by kernel_rfl) rfl plain (by kernel_rfl)
#print axioms proved
end Go.Proofs.YtgipnbeipfhekaaGreatDoor.fnLab

/- The parts of a text between marks: the reference, and strings.Split off the kit's shelf. -/
import Derived.Test.YtgipnbeipfhekaaGreatDoorMgFnL04
import Derived.Shelf.Strings.Split
import Derived.Shelf.Strconv.ParseIntPublic10
import Derived.Test.YtgipnbeipfhekaaGreatDoorMgFnL02
import Derived.Test.YtgipnbeipfhekaaGreatDoorMgFnL03
import Derived.Test.YtgipnbeipfhekaaGreatDoorMgFnL01
import Derived.Test.YtgipnbeipfhekaaGreatDoorMgFnL00
import Derived.Deep.QuietTactic
import Derived.BigQuiet
set_option linter.unusedVariables false
set_option linter.unusedSimpArgs false
set_option maxRecDepth 100000
set_option maxHeartbeats 2000000
namespace Go.Proofs
open Go.Shelf
def YtgipnbeipfhekaaGreatDoor.lays146_ren : Go.Shelf.Ren := ⟨fun | 146 => 44 | 221 => 85 | 268 => 136 | 138 => 52 | 143 => 103 | 195 => 101 | 197 => 183 | 218 => 102 | 219 => 163 | 260 => 218 | 217 => 207 | 225 => 208 | 224 => 209 | 267 => 210 | 266 => 234 | 314 => 235 | n => n, fun | 9 => 9 | 31 => 50 | 3 => 3 | 4 => 4 | 0 => 0 | 105 => 224 | 21 => 21 | 5 => 5 | 46 => 118 | 119 => 262 | 139 => 265 | 138 => 264 | 146 => 257 | 51 => 221 | n => n, fun | 1 => 0 | 3 => 6 | 4 => 7 | n => n⟩
theorem YtgipnbeipfhekaaGreatDoor.lays146 : Go.Proofs.Lays.n146 Tryz.prog YtgipnbeipfhekaaGreatDoor.lays146_ren := {
 mixed := by kernel_rfl
 f138 := Tryz.func52.trans (congrArg some (by kernel_rfl))
 f143 := Tryz.func103.trans (congrArg some (by kernel_rfl))
 f146 := Tryz.func44.trans (congrArg some (by kernel_rfl))
 f195 := Tryz.func101.trans (congrArg some (by kernel_rfl))
 f197 := Tryz.func183.trans (congrArg some (by kernel_rfl))
 f217 := Tryz.func207.trans (congrArg some (by kernel_rfl))
 f218 := Tryz.func102.trans (congrArg some (by kernel_rfl))
 f219 := Tryz.func163.trans (congrArg some (by kernel_rfl))
 f221 := Tryz.func85.trans (congrArg some (by kernel_rfl))
 f224 := Tryz.func209.trans (congrArg some (by kernel_rfl))
 f225 := Tryz.func208.trans (congrArg some (by kernel_rfl))
 f260 := Tryz.func218.trans (congrArg some (by kernel_rfl))
 f266 := Tryz.func234.trans (congrArg some (by kernel_rfl))
 f267 := Tryz.func210.trans (congrArg some (by kernel_rfl))
 f268 := Tryz.func136.trans (congrArg some (by kernel_rfl))
 f314 := Tryz.func235.trans (congrArg some (by kernel_rfl))
 t0 := Tryz.underlying0
 a0 := Tryz.isAgg0
 z0 := Tryz.sizeOf0
 v0 := Tryz.zeroValue0
 t3 := Tryz.underlying3
 a3 := Tryz.isAgg3
 z3 := Tryz.sizeOf3
 v3 := Tryz.zeroValue3
 t4 := Tryz.underlying4
 a4 := Tryz.isAgg4
 z4 := Tryz.sizeOf4
 v4 := Tryz.zeroValue4
 t5 := Tryz.underlying5
 a5 := Tryz.isAgg5
 z5 := Tryz.sizeOf5
 v5 := Tryz.zeroValue5
 t9 := Tryz.underlying9
 a9 := Tryz.isAgg9
 z9 := Tryz.sizeOf9
 v9 := Tryz.zeroValue9
 t21 := Tryz.underlying21
 a21 := Tryz.isAgg21
 z21 := Tryz.sizeOf21
 v21 := Tryz.zeroValue21
 t31 := Tryz.underlying50
 a31 := Tryz.isAgg50
 z31 := Tryz.sizeOf50
 v31 := Tryz.zeroValue50
 t46 := Tryz.underlying118
 a46 := Tryz.isAgg118
 z46 := Tryz.sizeOf118
 v46 := Tryz.zeroValue118
 t51 := Tryz.underlying221
 a51 := Tryz.isAgg221
 z51 := Tryz.sizeOf221
 v51 := Tryz.zeroValue221
 t105 := Tryz.underlying224
 a105 := Tryz.isAgg224
 z105 := Tryz.sizeOf224
 v105 := Tryz.zeroValue224
 t119 := Tryz.underlying262
 a119 := Tryz.isAgg262
 z119 := Tryz.sizeOf262
 t138 := Tryz.underlying264
 a138 := Tryz.isAgg264
 z138 := Tryz.sizeOf264
 v138 := Tryz.zeroValue264
 t139 := Tryz.underlying265
 a139 := Tryz.isAgg265
 z139 := Tryz.sizeOf265
 v139 := Tryz.zeroValue265
 t146 := Tryz.underlying257
 a146 := Tryz.isAgg257
 z146 := Tryz.sizeOf257
 v146 := Tryz.zeroValue257
 g1 := by kernel_rfl
 g3 := by kernel_rfl
 g4 := by kernel_rfl }
end Go.Proofs
namespace Go.Proofs.YtgipnbeipfhekaaGreatDoor
namespace CutP
open Go.RowKit Base Mem Dec LabM RecJ
noncomputable def cutR (c : UInt8) (l : List UInt8) : List (List UInt8) := match h : posOf l c with
 | none => [l]
 | some o => l.take o :: cutR c (l.drop (o + 1))
termination_by l.length
decreasing_by
 have := pos_at l c
 rw [h] at this
 cases this with
 | yes e hlt => rw [List.length_drop]; omega
theorem cutR_no {c : UInt8} {l : List UInt8} (h : At l c none) : cutR c l = [l] := by
 rw [cutR]
 split
 ·rfl
 ·rename_i o ho
  rw [h.pos] at ho; cases ho
theorem cutR_yes {c : UInt8} {l : List UInt8} {o : Nat} (h : At l c (some o)) : cutR c l = l.take o :: cutR c (l.drop (o + 1)) := by
 rw [cutR]
 split
 ·rename_i ho
  rw [h.pos] at ho; cases ho
 ·rename_i p hp
  rw [h.pos] at hp; cases hp; rfl
theorem cutR_len (c : UInt8) : ∀ (n : Nat) (l : List UInt8), l.length ≤ n → 1 ≤ (cutR c l).length ∧ (cutR c l).length ≤ l.length + 1 ∧ ∀ e, e ∈ cutR c l → e.length ≤ l.length
 | n, l, h => by
  rcases at_any l c with h1 | ⟨o, h1⟩
  ·rw [cutR_no h1]; simp
  ·rw [cutR_yes h1]
   cases h1 with
   | yes e hlt =>
    cases n with
    | zero => omega
    | succ n =>
     obtain ⟨i0, i1, i2⟩ := cutR_len c n (l.drop (o + 1)) (by rw [List.length_drop]; omega)
     rw [List.length_drop] at i1
     refine ⟨by simp, by rw [List.length_cons]; omega, fun x hx => ?_⟩
     rcases List.mem_cons.1 hx with rfl | hx
     ·rw [List.length_take]; omega
     ·have := i2 x hx; rw [List.length_drop] at this; omega
def CutRet (l : List UInt8) (c : UInt8) (w : World) (e : Ending) (w' : World) : Prop := ∃ (A : Option Addr) (cp : Nat), e = .returned (.slice A (cutR c l).length cp) ∧ RdT w' w'.heap.size A (txs (cutR c l)) ∧ Below w.heap.size w w'
theorem splitK_cut (c : UInt8) : ∀ (n : Nat) (l : List UInt8), l.length ≤ n → Lib.splitK [c] 0 (Lib.count l [c]) l = cutR c l
 | n, l, h => by
  rcases at_any l c with h1 | ⟨o, h1⟩
  ·have hi : Lib.index l [c] = -1 := by rw [Lib.index_one]; cases h1 with | no e => exact e
   rw [Lib.count_miss hi, cutR_no h1]; rfl
  ·have hi : Lib.index l [c] = (o : Int) := by rw [Lib.index_one]; cases h1 with | yes e _ => exact e
   have hlt : o < l.length := by cases h1 with | yes _ e => exact e
   cases n with
   | zero => omega
   | succ n =>
    have ih := splitK_cut c n (l.drop (o + 1)) (by rw [List.length_drop]; omega)
    have hc := Lib.count_hit (s := l) (sub := [c]) (by simp) hi
    rw [show ([c] : List UInt8).length = 1 from rfl] at hc
    rw [cutR_yes h1, ← ih, hc, Nat.add_comm 1, Lib.splitK, if_neg (by rw [hi]; simp), hi]
    rfl
theorem splitB_cut (c : UInt8) (s : ByteArray) : Lib.splitB ⟨#[c]⟩ 0 (Lib.countB s ⟨#[c]⟩) s = txs (cutR c s.data.toList) := by
 have h := Lib.splitB_data ⟨#[c]⟩ 0 (Lib.countB s ⟨#[c]⟩) s
 have e : Lib.countB s ⟨#[c]⟩ = Lib.count s.data.toList [c] := rfl
 rw [e] at h ⊢
 rw [show (⟨#[c]⟩ : ByteArray).data.toList = [c] from rfl, splitK_cut c _ _ (Nat.le_refl _)] at h
 rw [← h, txs, List.map_map]
 have : (tx ∘ fun x : ByteArray => x.data.toList) = id := funext fun a => tx_list a
 rw [this, List.map_id]
theorem cutSplit_any (s : ByteArray) (c : UInt8) (hs : s.size ≤ 1048576) (m : Int) (w : World) (hm : w.cell? ⟨YtgipnbeipfhekaaGreatDoor.lays146_ren.g 1, 0, none⟩ = some (.int .i64 m)) : Calls Tryz.prog 44 #[.string s, .string ⟨#[c]⟩] w (CutRet s.data.toList c w) := by
 have et : YtgipnbeipfhekaaGreatDoor.lays146_ren.t 9 = 9 := by kernel_rfl
 refine (Any.strings_Split YtgipnbeipfhekaaGreatDoor.lays146 (by rw [et]; exact infoT) s ⟨#[c]⟩ m w (by omega) hm (Nat.le_refl 1)).mono ?_
 rintro e w' ⟨rfl, rfl⟩
 rw [et, splitB_cut]
 have hl := Lib.splitB_all ⟨#[c]⟩ (Nat.le_refl 1) 0 (Lib.countB s ⟨#[c]⟩) s rfl
 rw [splitB_cut, txs_len] at hl
 refine ⟨some ⟨w.heap.size, 0, none⟩, Lib.countB s ⟨#[c]⟩ + 1, by rw [hl], fun _ => ⟨w.heap.size, 0, rfl, by simp, fun i hi => ?_⟩, (Below.refl _ _).alloc (Nat.le_refl _) _⟩
 have hcell : (w.alloc (.cells ((txs (cutR c s.data.toList)).map Value.string).toArray 9)).heap[w.heap.size]? = some (.cells ((txs (cutR c s.data.toList)).map Value.string).toArray 9 (0, 0)) := by
  show (w.heap.push _)[w.heap.size]? = _
  simp
 rw [Lib.cell_of_heap hcell]
 simp [List.getD, hi]
end CutP
end Go.Proofs.YtgipnbeipfhekaaGreatDoor
namespace Go.Proofs
open Go.Shelf
def YtgipnbeipfhekaaGreatDoor.lays174_ren : Go.Shelf.Ren := ⟨fun | 174 => 189 | 247 => 225 | 245 => 226 | 287 => 240 | 279 => 241 | 280 => 242 | 281 => 243 | 282 => 244 | 321 => 255 | 322 => 256 | 316 => 257 | 171 => 259 | 205 => 258 | 243 => 261 | 246 => 81 | 283 => 132 | 284 => 133 | 285 => 134 | 286 => 135 | 129 => 179 | 317 => 178 | 318 => 180 | 319 => 181 | 320 => 182 | 337 => 216 | 338 => 217 | n => n, fun | 9 => 9 | 3 => 3 | 2 => 2 | 75 => 97 | 85 => 231 | 4 => 4 | 167 => 266 | 5 => 5 | 53 => 114 | 175 => 267 | 46 => 118 | 168 => 269 | 37 => 22 | 0 => 0 | 210 => 283 | 21 => 21 | 127 => 141 | 145 => 287 | 143 => 285 | 171 => 177 | 173 => 180 | 212 => 220 | 51 => 221 | 20 => 20 | 213 => 222 | 232 => 260 | 233 => 261 | 80 => 101 | n => n, fun | 15 => 8 | 16 => 9 | 17 => 1 | 18 => 4 | 19 => 5 | n => n⟩
theorem YtgipnbeipfhekaaGreatDoor.lays174 : Go.Proofs.LaysC.n174 Tryz.prog YtgipnbeipfhekaaGreatDoor.lays174_ren := {
 mixed := by kernel_rfl
 f129 := Tryz.func179.trans (congrArg some (by kernel_rfl))
 f171 := Tryz.func259.trans (congrArg some (by kernel_rfl))
 f174 := Tryz.func189.trans (congrArg some (by kernel_rfl))
 f205 := Tryz.func258.trans (congrArg some (by kernel_rfl))
 f243 := Tryz.func261.trans (congrArg some (by kernel_rfl))
 f245 := Tryz.func226.trans (congrArg some (by kernel_rfl))
 f246 := Tryz.func81.trans (congrArg some (by kernel_rfl))
 f247 := Tryz.func225.trans (congrArg some (by kernel_rfl))
 f279 := Tryz.func241.trans (congrArg some (by kernel_rfl))
 f280 := Tryz.func242.trans (congrArg some (by kernel_rfl))
 f281 := Tryz.func243.trans (congrArg some (by kernel_rfl))
 f282 := Tryz.func244.trans (congrArg some (by kernel_rfl))
 f283 := Tryz.func132.trans (congrArg some (by kernel_rfl))
 f284 := Tryz.func133.trans (congrArg some (by kernel_rfl))
 f285 := Tryz.func134.trans (congrArg some (by kernel_rfl))
 f286 := Tryz.func135.trans (congrArg some (by kernel_rfl))
 f287 := Tryz.func240.trans (congrArg some (by kernel_rfl))
 f316 := Tryz.func257.trans (congrArg some (by kernel_rfl))
 f317 := Tryz.func178.trans (congrArg some (by kernel_rfl))
 f318 := Tryz.func180.trans (congrArg some (by kernel_rfl))
 f319 := Tryz.func181.trans (congrArg some (by kernel_rfl))
 f320 := Tryz.func182.trans (congrArg some (by kernel_rfl))
 f321 := Tryz.func255.trans (congrArg some (by kernel_rfl))
 f322 := Tryz.func256.trans (congrArg some (by kernel_rfl))
 f337 := Tryz.func216.trans (congrArg some (by kernel_rfl))
 f338 := Tryz.func217.trans (congrArg some (by kernel_rfl))
 t0 := Tryz.underlying0
 a0 := Tryz.isAgg0
 z0 := Tryz.sizeOf0
 v0 := Tryz.zeroValue0
 t2 := Tryz.underlying2
 a2 := Tryz.isAgg2
 z2 := Tryz.sizeOf2
 v2 := Tryz.zeroValue2
 t3 := Tryz.underlying3
 a3 := Tryz.isAgg3
 z3 := Tryz.sizeOf3
 v3 := Tryz.zeroValue3
 t4 := Tryz.underlying4
 a4 := Tryz.isAgg4
 z4 := Tryz.sizeOf4
 v4 := Tryz.zeroValue4
 t5 := Tryz.underlying5
 a5 := Tryz.isAgg5
 z5 := Tryz.sizeOf5
 v5 := Tryz.zeroValue5
 t9 := Tryz.underlying9
 a9 := Tryz.isAgg9
 z9 := Tryz.sizeOf9
 v9 := Tryz.zeroValue9
 t20 := Tryz.underlying20
 a20 := Tryz.isAgg20
 z20 := Tryz.sizeOf20
 v20 := Tryz.zeroValue20
 t21 := Tryz.underlying21
 a21 := Tryz.isAgg21
 z21 := Tryz.sizeOf21
 v21 := Tryz.zeroValue21
 t37 := Tryz.underlying22
 a37 := Tryz.isAgg22
 z37 := Tryz.sizeOf22
 v37 := Tryz.zeroValue22
 t46 := Tryz.underlying118
 a46 := Tryz.isAgg118
 z46 := Tryz.sizeOf118
 v46 := Tryz.zeroValue118
 t51 := Tryz.underlying221
 a51 := Tryz.isAgg221
 z51 := Tryz.sizeOf221
 v51 := Tryz.zeroValue221
 t53 := Tryz.underlying114
 a53 := Tryz.isAgg114
 z53 := Tryz.sizeOf114
 v53 := Tryz.zeroValue114
 t75 := Tryz.underlying97
 a75 := Tryz.isAgg97
 z75 := Tryz.sizeOf97
 v75 := Tryz.zeroValue97
 t85 := Tryz.underlying231
 a85 := Tryz.isAgg231
 z85 := Tryz.sizeOf231
 v85 := Tryz.zeroValue231
 t127 := Tryz.underlying141
 a127 := Tryz.isAgg141
 z127 := Tryz.sizeOf141
 v127 := Tryz.zeroValue141
 t143 := Tryz.underlying285
 a143 := Tryz.isAgg285
 z143 := Tryz.sizeOf285
 v143 := Tryz.zeroValue285
 t145 := Tryz.underlying287
 a145 := Tryz.isAgg287
 z145 := Tryz.sizeOf287
 v145 := Tryz.zeroValue287
 t167 := Tryz.underlying266
 a167 := Tryz.isAgg266
 z167 := Tryz.sizeOf266
 v167 := Tryz.zeroValue266
 t168 := Tryz.underlying269
 a168 := Tryz.isAgg269
 z168 := Tryz.sizeOf269
 v168 := Tryz.zeroValue269
 t171 := Tryz.underlying177
 a171 := Tryz.isAgg177
 z171 := Tryz.sizeOf177
 v171 := Tryz.zeroValue177
 t173 := Tryz.underlying180
 a173 := Tryz.isAgg180
 z173 := Tryz.sizeOf180
 v173 := Tryz.zeroValue180
 t175 := Tryz.underlying267
 a175 := Tryz.isAgg267
 z175 := Tryz.sizeOf267
 v175 := Tryz.zeroValue267
 t210 := Tryz.underlying283
 a210 := Tryz.isAgg283
 z210 := Tryz.sizeOf283
 v210 := Tryz.zeroValue283
 t212 := Tryz.underlying220
 a212 := Tryz.isAgg220
 z212 := Tryz.sizeOf220
 v212 := Tryz.zeroValue220
 t213 := Tryz.underlying222
 a213 := Tryz.isAgg222
 z213 := Tryz.sizeOf222
 t232 := Tryz.underlying260
 a232 := Tryz.isAgg260
 z232 := Tryz.sizeOf260
 v232 := Tryz.zeroValue260
 t233 := Tryz.underlying261
 a233 := Tryz.isAgg261
 z233 := Tryz.sizeOf261
 v233 := Tryz.zeroValue261
 g15 := by kernel_rfl
 g16 := by kernel_rfl
 g17 := by kernel_rfl
 g18 := by kernel_rfl
 g19 := by kernel_rfl
 t80 := Tryz.underlying101
 a80 := Tryz.isAgg101
 z80 := Tryz.sizeOf101
 v80 := Tryz.zeroValue101
 i0 := by kernel_rfl
 i2 := by kernel_rfl
 i3 := by kernel_rfl
 i4 := by kernel_rfl
 i5 := by kernel_rfl
 i9 := by kernel_rfl
 i20 := by kernel_rfl
 i21 := by kernel_rfl
 i37 := by kernel_rfl
 i46 := by kernel_rfl
 i51 := by kernel_rfl
 i53 := by kernel_rfl
 i75 := by kernel_rfl
 i80 := by kernel_rfl
 i85 := by kernel_rfl
 i127 := by kernel_rfl
 i143 := by kernel_rfl
 i145 := by kernel_rfl
 i167 := by kernel_rfl
 i168 := by kernel_rfl
 i171 := by kernel_rfl
 i173 := by kernel_rfl
 i175 := by kernel_rfl
 i210 := by kernel_rfl
 i212 := by kernel_rfl
 i232 := by kernel_rfl
 i233 := by kernel_rfl
 m15 := by kernel_rfl
 m16 := by kernel_rfl
 m17 := by kernel_rfl
 m18 := by kernel_rfl
 m19 := by kernel_rfl
 c0 := by kernel_rfl
 c2 := by kernel_rfl
 c3 := by kernel_rfl
 c4 := by kernel_rfl
 c5 := by kernel_rfl
 c9 := by kernel_rfl
 c20 := by kernel_rfl
 c21 := by kernel_rfl
 c37 := by kernel_rfl
 c46 := by kernel_rfl
 c51 := by kernel_rfl
 c53 := by kernel_rfl
 c75 := by kernel_rfl
 c80 := by kernel_rfl
 c85 := by kernel_rfl
 c127 := by kernel_rfl
 c143 := by kernel_rfl
 c145 := by kernel_rfl
 c167 := by kernel_rfl
 c168 := by kernel_rfl
 c171 := by kernel_rfl
 c173 := by kernel_rfl
 c175 := by kernel_rfl
 c210 := by kernel_rfl
 c212 := by kernel_rfl
 c213 := by kernel_rfl
 c232 := by kernel_rfl
 c233 := by kernel_rfl }
end Go.Proofs
namespace Go.Proofs.YtgipnbeipfhekaaGreatDoor
namespace Val
open Go.RowKit Base Mem Dec
def foldD (a : Nat) (l : List UInt8) : Nat := l.foldl (fun a c => a * 10 + (c.toNat - 48)) a
def digs (l : List UInt8) : Prop := ∀ c ∈ l, 48 ≤ c.toNat ∧ c.toNat ≤ 57
theorem foldD_ge : ∀ (l : List UInt8) (a : Nat), a ≤ foldD a l
 | [], a => Nat.le_refl _
 | c :: r, a => by
  have := foldD_ge r (a * 10 + (c.toNat - 48))
  show a ≤ foldD (a * 10 + (c.toNat - 48)) r
  omega
theorem foldD_app (a : Nat) (l m : List UInt8) : foldD a (l ++ m) = foldD (foldD a l) m := by simp [foldD, List.foldl_append]
theorem digs_dec : ∀ (u : Nat), digs (Lib.decDigits u) ∧ foldD 0 (Lib.decDigits u) = u := by
 intro u
 induction u using Nat.strongRecOn with
 | _ u ih =>
  rw [Lib.decDigits]
  by_cases h10 : u < 10
  ·rw [dif_pos h10]
   refine ⟨fun c hc => ?_, ?_⟩
   ·obtain rfl := List.mem_singleton.1 hc
    rw [byte_small (by omega)]; omega
   ·show 0 * 10 + ((UInt8.ofNat (48 + u)).toNat - 48) = u
    rw [byte_small (by omega)]; omega
  ·rw [dif_neg h10]
   obtain ⟨i1, i2⟩ := ih (u / 10) (by omega)
   refine ⟨fun c hc => ?_, ?_⟩
   ·rcases List.mem_append.1 hc with h | h
    ·exact i1 c h
    ·obtain rfl := List.mem_singleton.1 h
     rw [byte_small (by omega)]; omega
   ·rw [foldD_app, i2]
    show u / 10 * 10 + ((UInt8.ofNat (48 + u % 10)).toNat - 48) = u
    rw [byte_small (by omega)]; omega
theorem dec_ne (u : Nat) : 1 ≤ (Lib.decDigits u).length := by
 rw [Lib.decDigits_length]; exact Lib.nDigits_pos u
theorem parseM_digs : ∀ (l : List UInt8) (a : Nat), digs l → foldD a l ≤ 1000000000000000000 → Lib.parseUintM (2 ^ 64 - 1) a l = .ok (foldD a l)
 | [], a, _, _ => rfl
 | c :: r, a, hd, hb => by
  have h1 := hd c List.mem_cons_self
  have h2 := foldD_ge r (a * 10 + (c.toNat - 48))
  have h3 : foldD a (c :: r) = foldD (a * 10 + (c.toNat - 48)) r := rfl
  rw [h3] at hb ⊢
  rw [Lib.parseUintM, if_pos h1, if_neg (by omega), if_neg (by omega)]
  exact parseM_digs r _ (fun x hx => hd x (List.mem_cons_of_mem _ hx)) hb
def isVal (e : List UInt8) (v : Int) : Prop := Lib.itoa v = e ∧ -1000000000000000 ≤ v ∧ v ≤ 1000000000000000
theorem parse_val {e : List UInt8} {v : Int} (h : isVal e v) : Lib.parseIntB 64 e = .ok v := by
 obtain ⟨rfl, h1, h2⟩ := h
 by_cases hn : v < 0
 ·obtain ⟨u, rfl⟩ : ∃ u : Nat, v = -(u : Int) := ⟨(-v).toNat, by omega⟩
  obtain ⟨d1, d2⟩ := digs_dec u
  have hne : Lib.decDigits u ≠ [] := fun h => by have := dec_ne u; rw [h] at this; simp at this
  rw [Lib.itoa_neg u (by omega), Lib.parseIntB_minus, Lib.parseUintB, if_neg hne, parseM_digs _ _ d1 (by rw [d2]; omega), d2, Lib.signedC, if_neg (by omega)]
 ·obtain ⟨u, rfl⟩ := Int.eq_ofNat_of_zero_le (show 0 ≤ v by omega)
  obtain ⟨d1, d2⟩ := digs_dec u
  have hl := dec_ne u
  rw [show Lib.itoa ((u : Nat) : Int) = Lib.decDigits u from Lib.itoa_nonneg u]
  have hp := parseM_digs (Lib.decDigits u) 0 d1 (by rw [d2]; omega)
  rw [d2] at hp
  generalize Lib.decDigits u = l at *
  cases l with
  | nil => simp at hl
  | cons c r =>
   have hc := d1 c List.mem_cons_self
   rw [Lib.parseIntB_plain 64 c r (by omega) (by omega), Lib.parseUintB, if_neg (by simp), hp, Lib.signlessC, if_neg (by omega)]
def ValRet (e : List UInt8) (w : World) (en : Ending) (w' : World) : Prop := ∃ (v : Int) (b : Bool), en = .returned (.tuple #[.int .i64 v, .bool b]) ∧ (b = true → isVal e v) ∧ (b = false → v = 0 ∧ ∀ v', ¬ isVal e v') ∧ Below w.heap.size w w'
noncomputable def valO (e : List UInt8) : Option Int := match Lib.parseIntB 64 e with
 | .ok v => if Lib.itoa v = e ∧ -1000000000000000 ≤ v ∧ v ≤ 1000000000000000 then some v else none
 | _ => none
theorem valO_yes {e : List UInt8} {v : Int} (h : isVal e v) : valO e = some v := by
 have hp := parse_val h
 rw [valO, hp]
 exact if_pos h
theorem valO_no {e : List UInt8} (h : ∀ v, ¬ isVal e v) : valO e = none := by
 unfold valO
 split
 ·rename_i v _
  exact if_neg (h v)
 ·rfl
def Errs (B : Nat) (w : World) : Prop := ∃ e1 e2 : Value, YtgipnbeipfhekaaGreatDoor.lays174_ren.g 15 < B ∧ YtgipnbeipfhekaaGreatDoor.lays174_ren.g 16 < B ∧ w.cell? ⟨YtgipnbeipfhekaaGreatDoor.lays174_ren.g 15, 0, none⟩ = some e1 ∧ w.cell? ⟨YtgipnbeipfhekaaGreatDoor.lays174_ren.g 16, 0, none⟩ = some e2 ∧ (e1 = .nilIface ∨ ∃ te pe, e1 = .iface te pe) ∧ (e2 = .nilIface ∨ ∃ te pe, e2 = .iface te pe)
theorem Errs.on {B : Nat} {w w' : World} (h : Errs B w) (hb : Below B w w') : Errs B w' := by
 obtain ⟨e1, e2, h1, h2, h3, h4, h5, h6⟩ := h
 exact ⟨e1, e2, h1, h2, (hb.cell (p := ⟨_, 0, none⟩) h1).trans h3, (hb.cell (p := ⟨_, 0, none⟩) h2).trans h4, h5, h6⟩
theorem readDec_any (s : ByteArray) (hs : s.size ≤ 1048576) (B : Nat) (w : World) (hp : Pow B w) (he : Errs B w) (hB : B ≤ w.heap.size) : Calls Tryz.prog 141 #[.string s] w (ValRet s.data.toList w) := by
 obtain ⟨e1, e2, h1, h2, h3, h4, h5, h6⟩ := he
 rcases hP : Lib.parseIntB 64 s.data.toList with v | _ | _
 ·skip
  have HC := J (Any.strconv_ParseInt_10_at64_ok YtgipnbeipfhekaaGreatDoor.lays174 s (by omega) v hP w)
  have hbd := Lib.parseIntB_bounds hP
  have HR := J (fun w => inRange_any v (-1000000000000000) 1000000000000000 w)
  have HPw := J hp
  have HPP := J hP
  clear hP hp h1 h2 h3 h4 h5 h6
  by_cases hin : -1000000000000000 ≤ v ∧ v ≤ 1000000000000000
  ·rw [inR_yes hin] at HR
   have HD := J (fun (w1 : World) (hb : Below w.heap.size w w1) => decimalZ_any v (by omega) (by omega) B w1 (HPw.out.on (hb.mono hB)) (Nat.le_trans hB hb.size))
   go_enter Tryz.func141, Tryz.ntmps141
   go_wp2_with fail
   refine HC.out.mono ?_
   rintro e w1 ⟨rfl, hw⟩
   have hb1 : Below w.heap.size w w1 := by
    rcases hw with rfl | ⟨t, rfl⟩
    ·exact Below.refl _ _
    ·exact Lib.bytesWorld_below _ _ _
   have HB1 := J hb1
   clear hw hb1
   go_wp2_with fail
   refine (HR.out _).mono ?_
   rintro e w' ⟨rfl, rfl⟩
   go_wp2_with fail
   refine (HD.out _ HB1.out).mono ?_
   rintro e w2 ⟨rfl, hb2⟩
   have HB2 := J (Base.Below.nextA HB1.out hb2)
   clear hb2
   by_cases hq : Lib.itoa v = s.data.toList
   ·have e1 : tx (Lib.itoa v) = s := by rw [hq]
    rw [e1]
    have HY : Hid (isVal s.data.toList v) := J ⟨hq, hin⟩
    have hbe : (s.toList == s.toList) = true := by simp
    clear hq e1
    go_wp2
    go_ret2
    exact ⟨v, true, rfl, fun _ => HY.out, fun h => (by cases h), HB2.out⟩
   ·have e1 : ((tx (Lib.itoa v)).toList == s.toList) = false := beq_eq_false_iff_ne.2 (fun h => hq (by rw [ByteArray.toList_eq, ByteArray.toList_eq, list_tx] at h; exact h))
    have HN : Hid (∀ v', ¬ isVal s.data.toList v') := J fun v' h => by
     have := parse_val h
     rw [HPP.out] at this
     injection this with this
     subst this
     exact hq h.1
    clear hq
    generalize tx (Lib.itoa v) = d at *
    go_wp2
    go_ret2
    exact ⟨0, false, rfl, fun h => (by cases h), fun _ => ⟨rfl, HN.out⟩, HB2.out⟩
  ·have hno : inR v (-1000000000000000) 1000000000000000 = false := by
    cases h : inR v (-1000000000000000) 1000000000000000 with
    | false => rfl
    | true => exact absurd (inR_true h) hin
   rw [hno] at HR
   have HN : Hid (∀ v', ¬ isVal s.data.toList v') := J fun v' h => by
    have := parse_val h
    rw [HPP.out] at this
    injection this with this
    subst this
    exact hin h.2
   clear hno
   go_enter Tryz.func141, Tryz.ntmps141
   go_wp2_with fail
   refine HC.out.mono ?_
   rintro e w1 ⟨rfl, hw⟩
   have hb1 : Below w.heap.size w w1 := by
    rcases hw with rfl | ⟨t, rfl⟩
    ·exact Below.refl _ _
    ·exact Lib.bytesWorld_below _ _ _
   have HB1 := J hb1
   clear hw hb1
   go_wp2_with fail
   refine (HR.out _).mono ?_
   rintro e w' ⟨rfl, rfl⟩
   go_wp2
   go_ret2
   exact ⟨0, false, rfl, fun h => (by cases h), fun _ => ⟨rfl, HN.out⟩, HB1.out⟩
 ·skip
  have HC := J (Any.strconv_ParseInt_10_at64_syntax YtgipnbeipfhekaaGreatDoor.lays174 s (by omega) hP e1 w h3 h5)
  have HN : Hid (∀ v', ¬ isVal s.data.toList v') := J fun v' h => by have := parse_val h; rw [hP] at this; cases this
  clear hP hp h1 h2 h3 h4
  go_enter Tryz.func141, Tryz.ntmps141
  go_wp2_with fail
  refine HC.out.mono ?_
  rintro e w' ⟨N, rfl, hN, _, hb⟩
  go_wp2
  go_ret2
  exact ⟨0, false, rfl, fun h => (by cases h), fun _ => ⟨rfl, HN.out⟩, hb⟩
 ·skip
  have HC := J (Any.strconv_ParseInt_10_at64_range YtgipnbeipfhekaaGreatDoor.lays174 s (by omega) hP e2 w h4 h6)
  have HN : Hid (∀ v', ¬ isVal s.data.toList v') := J fun v' h => by have := parse_val h; rw [hP] at this; cases this
  clear hP hp h1 h2 h3 h4
  go_enter Tryz.func141, Tryz.ntmps141
  go_wp2_with fail
  refine HC.out.mono ?_
  rintro e w' ⟨N, rfl, hN, _, hb⟩
  go_wp2
  go_ret2
  exact ⟨0, false, rfl, fun h => (by cases h), fun _ => ⟨rfl, HN.out⟩, hb⟩
end Val
namespace Val
open Go.RowKit Base Mem Dec
end Val
namespace Rd
open Go.RowKit Base Mem Dec LabM RecJ CutP Val Str Take
theorem below7 {B b : Nat} {w0 w : World} (h : Below B w0 w) (hB : B ≤ b) (hs : B ≤ w.heap.size) (K W T m f a s : Int) : Below B w0 (set7 w b K W T m f a s) :=
 h.trans (grown_below (grown_set7 w b K W T m f a s) (fun g e => by cases e; exact hB) hs)
theorem ownNotStr {w : World} {B b n : Nat} {v : Value} {xs : List Value} {K W T m f a s : Int} (h : w.ownsRow B 2 1 v n xs) (hb : SBox w b K W T m f a s) : v.ownBlock ≠ some b := fun he => by
 obtain ⟨cur, h1, _⟩ := ownsRow_block h he
 unfold SBox at hb
 rw [hb] at h1
 injection h1 with h1
 injection h1 with _ h2
 cases h2
noncomputable def nsOf (ws : List (List UInt8)) : List Int := ws.map fun e => (valO e).getD 0
def okW (ws : List (List UInt8)) : Prop := ∀ e ∈ ws, ∃ v, valO e = some v
theorem nsOf_len (ws : List (List UInt8)) : (nsOf ws).length = ws.length := by simp [nsOf]
theorem nsOf_snoc (ws : List (List UInt8)) (e : List UInt8) {v : Int} (h : valO e = some v) : nsOf (ws ++ [e]) = nsOf ws ++ [v] := by simp [nsOf, h]
abbrev S7 := Int × Int × Int × Int × Int × Int × Int
def stO (w0 : List UInt8) (ns : List Int) : Option S7 :=
 if w0 = [114] ∧ ns.length = 3 then some (0, ns.getD 0 0, ns.getD 1 0, 0, 0, 0, ns.getD 2 0)
 else if w0 = [99] ∧ ns.length = 4 then some (1, 0, 0, ns.getD 0 0, ns.getD 1 0, ns.getD 2 0, ns.getD 3 0) else none
def validS (t : S7) : Bool := streamB t.1 t.2.1 t.2.2.1 t.2.2.2.1 t.2.2.2.2.1 t.2.2.2.2.2.1 t.2.2.2.2.2.2
open Classical in
noncomputable def rdO (l : List UInt8) : Option S7 :=
 if okW ((cutR 58 l).drop 1) then (match stO ((cutR 58 l).getD 0 []) (nsOf ((cutR 58 l).drop 1)) with
  | some t => if validS t = true then some t else none
  | none => none) else none
theorem rdO_bad {l : List UInt8} (h : ¬ okW ((cutR 58 l).drop 1)) : rdO l = none := by unfold rdO; rw [if_neg h]
theorem rdO_none {l : List UInt8} (h : okW ((cutR 58 l).drop 1)) (h2 : stO ((cutR 58 l).getD 0 []) (nsOf ((cutR 58 l).drop 1)) = none) : rdO l = none := by unfold rdO; rw [if_pos h, h2]
theorem rdO_some {l : List UInt8} {t : S7} (h : okW ((cutR 58 l).drop 1)) (h2 : stO ((cutR 58 l).getD 0 []) (nsOf ((cutR 58 l).drop 1)) = some t) : rdO l = if validS t = true then some t else none := by unfold rdO; rw [if_pos h, h2]
def RdRet (R : Option S7) (w : World) (e : Ending) (w' : World) : Prop :=
 (∀ K W T m f a s, R = some (K, W, T, m, f, a, s) → streamB K W T m f a s = true ∧ e = .returned (.tuple #[.agg #[.int .i64 K, .int .i64 W, .int .i64 T, .int .i64 m, .int .i64 f, .int .i64 a, .int .i64 s], .bool true])) ∧ (R = none → e = .returned (.tuple #[.agg #[.int .i64 0, .int .i64 0, .int .i64 0, .int .i64 0, .int .i64 0, .int .i64 0, .int .i64 0], .bool false])) ∧ Below w.heap.size w w'
theorem RdRet.no {R : Option S7} {w w' : World} {e : Ending} (h : R = none) (he : e = .returned (.tuple #[.agg #[.int .i64 0, .int .i64 0, .int .i64 0, .int .i64 0, .int .i64 0, .int .i64 0, .int .i64 0], .bool false])) (hb : Below w.heap.size w w') : RdRet R w e w' :=
 ⟨fun _ _ _ _ _ _ _ h1 => (by rw [h] at h1; cases h1), fun _ => he, hb⟩
theorem RdRet.yes {R : Option S7} {K W T m f a s : Int} {w w' : World} {e : Ending} (h : R = some (K, W, T, m, f, a, s)) (hv : streamB K W T m f a s = true) (he : e = .returned (.tuple #[.agg #[.int .i64 K, .int .i64 W, .int .i64 T, .int .i64 m, .int .i64 f, .int .i64 a, .int .i64 s], .bool true])) (hb : Below w.heap.size w w') : RdRet R w e w' :=
 ⟨fun _ _ _ _ _ _ _ h1 => (by rw [h] at h1; injection h1 with h1; injection h1 with e1 h1; injection h1 with e2 h1; injection h1 with e3 h1; injection h1 with e4 h1; injection h1 with e5 h1; injection h1 with e6 e7; subst e1 e2 e3 e4 e5 e6 e7; exact ⟨hv, he⟩), fun h1 => (by rw [h] at h1; cases h1), hb⟩
theorem cell_set7 {w : World} {b q i : Nat} {v : Value} (h : w.cell? ⟨b, i, none⟩ = some v) (hne : q ≠ b) (K W T m f a s : Int) : (set7 w q K W T m f a s).cell? ⟨b, i, none⟩ = some v := by
 have hn : ∀ j, (⟨q, j, none⟩ : Addr) ≠ ⟨b, i, none⟩ := fun j e => hne (congrArg Addr.block e)
 unfold Take.set7
 rw [World.cell?_setCell_other _ _ _ _ (hn 6), World.cell?_setCell_other _ _ _ _ (hn 5), World.cell?_setCell_other _ _ _ _ (hn 4), World.cell?_setCell_other _ _ _ _ (hn 3), World.cell?_setCell_other _ _ _ _ (hn 2), World.cell?_setCell_other _ _ _ _ (hn 1), World.cell?_setCell_other _ _ _ _ (hn 0)]
 exact h
def RlTo (ws : List (List UInt8)) (B bz : Nat) (w : World) (v : Value) (k : Nat) (wr : World) : Prop :=
 1 ≤ k ∧ k ≤ ws.length ∧ B ≤ wr.heap.size ∧ Hid (okW ((ws.drop 1).take (k - 1))) ∧ Hid (OwnI wr B v (nsOf ((ws.drop 1).take (k - 1)))) ∧ Hid (SBox wr bz 0 0 0 0 0 0 0) ∧ Hid (Below w.heap.size w wr)
theorem RlTo.next {ws : List (List UInt8)} {B bz k : Nat} {w wr w2 w3 : World} {v v' : Value} {n : Int} {o : Obj} (h : RlTo ws B bz w v k wr) (hk : k < ws.length) (hwB : w.heap.size ≤ B) (hv : valO (ws.getD k []) = some n) (hb : Below wr.heap.size wr w2)
  (h1 : w3.ownsRow B 2 1 v' ((nsOf ((ws.drop 1).take (k - 1))).length + 1) (ints (nsOf ((ws.drop 1).take (k - 1))) ++ [.int .i64 n])) (h2 : (w2.alloc o).grownBy w3 v.ownBlock) : RlTo ws B bz w v' (k + 1) w3 := by
 obtain ⟨a1, a2, a3, a4, a5, a6, a7⟩ := h
 have hO2 := (a5.out.below hb).below ((Below.refl w2.heap.size w2).alloc (Nat.le_refl _) o)
 have hS2 := (a6.out.below hb a6.out.lt).below ((Below.refl w2.heap.size w2).alloc (Nat.le_refl _) o) (Nat.lt_of_lt_of_le a6.out.lt hb.size)
 have e : (ws.drop 1).take k = (ws.drop 1).take (k - 1) ++ [ws.getD k []] := by
  have hl : k - 1 < (ws.drop 1).length := by rw [List.length_drop]; omega
  have := List.take_add_one (l := ws.drop 1) (i := k - 1)
  rw [show k - 1 + 1 = k by omega] at this
  rw [this, List.getElem?_drop, show 1 + (k - 1) = k by omega, List.getElem?_eq_getElem hk, List.getD_eq_getElem?_getD, List.getElem?_eq_getElem hk]; rfl
 refine ⟨by omega, hk, Nat.le_trans (Nat.le_trans a3 hb.size) (Nat.le_trans (by simp) h2.size), J ?_, J ?_, J (hS2.kept h2 (ownNotStr hO2 hS2)), J ?_⟩
 ·rw [Nat.add_sub_cancel, e]
  intro x hx
  rcases List.mem_append.1 hx with hx | hx
  ·exact a4.out x hx
  ·obtain rfl := List.mem_singleton.1 hx
   exact ⟨n, hv⟩
 ·rw [Nat.add_sub_cancel, e, nsOf_snoc _ _ hv]
  unfold OwnI
  rw [List.length_append]
  have : ints (nsOf ((ws.drop 1).take (k - 1)) ++ [n]) = ints (nsOf ((ws.drop 1).take (k - 1))) ++ [.int .i64 n] := by simp [ints]
  rw [this]; exact h1
 ·have hb2 : Below wr.heap.size wr (w2.alloc o) := hb.alloc hb.size o
  refine (a7.out.trans (hb2.mono a7.out.size)).trans (grown_below h2 (fun g e => ?_) (Nat.le_trans a7.out.size hb2.size))
  obtain ⟨_, _, q, _⟩ := ownsRow_block hO2 e
  exact Nat.le_trans hwB q
end Rd
namespace Skip
open Go.RowKit Base Mem Reg Str Take Blk YtgipnbeipfhekaaGreatDoor.Pow
def okS (K W T m f a s c : Int) : Bool := streamB K W T m f a s && inR c 0 1000000000000000000
def SSRet (K W T m f a s c : Int) (w : World) (e : Ending) (w' : World) : Prop :=
 (okS K W T m f a s c = true → e = .returned (.tuple #[.agg #[.int .i64 K, .int .i64 W, .int .i64 T, .int .i64 m, .int .i64 f, .int .i64 a, .int .i64 (takeX K W T m f a s c)], .bool true])) ∧
 (okS K W T m f a s c = false → e = .returned (.tuple #[.agg #[.int .i64 0, .int .i64 0, .int .i64 0, .int .i64 0, .int .i64 0, .int .i64 0, .int .i64 0], .bool false])) ∧ Below w.heap.size w w'
theorem SSRet.no {K W T m f a s c : Int} {w w' : World} {e : Ending} (h : okS K W T m f a s c = false) (he : e = .returned (.tuple #[.agg #[.int .i64 0, .int .i64 0, .int .i64 0, .int .i64 0, .int .i64 0, .int .i64 0, .int .i64 0], .bool false])) (hb : Below w.heap.size w w') : SSRet K W T m f a s c w e w' :=
 ⟨fun h2 => (by rw [h] at h2; cases h2), fun _ => he, hb⟩
theorem SSRet.yes {K W T m f a s c : Int} {w w' : World} {e : Ending} (h : okS K W T m f a s c = true) (he : e = .returned (.tuple #[.agg #[.int .i64 K, .int .i64 W, .int .i64 T, .int .i64 m, .int .i64 f, .int .i64 a, .int .i64 (takeX K W T m f a s c)], .bool true])) (hb : Below w.heap.size w w') : SSRet K W T m f a s c w e w' :=
 ⟨fun _ => he, fun h2 => (by rw [h] at h2; cases h2), hb⟩
theorem implSS_any (K W T m f a s c : Int) (w : World) : Calls Tryz.prog 10 #[.agg #[.int .i64 K, .int .i64 W, .int .i64 T, .int .i64 m, .int .i64 f, .int .i64 a, .int .i64 s], .int .i64 c] w (SSRet K W T m f a s c w) := by
 obtain ⟨W1, hW1, S, R, B⟩ := two w K W T m f a s
 have HW := J hW1
 have HS := J S
 have HR := J R
 have HB1 := J B
 clear hW1
 cases hB : streamB K W T m f a s with
 | false =>
  have HN := J (fun e w' => SSRet.no (w := w) (w' := w') (e := e) (show okS K W T m f a s c = false by simp [okS, hB]))
  have HI := J (validStream_any K W T m f a s W1)
  rw [hB] at HI
  clear hB S R B
  go_enter Tryz.func10, Tryz.ntmps10
  go_wp2_with fail
  rw [← HW.out]
  refine HI.out.mono ?_
  rintro e w1 ⟨rfl, B1⟩
  have r0 := HR.out.below B1 HR.out.lt
  have d0 := (r0).c0; have d1 := (r0).c1; have d2 := (r0).c2; have d3 := (r0).c3; have d4 := (r0).c4; have d5 := (r0).c5; have d6 := (r0).c6
  have g0 := (r0).frz 0; have g1 := (r0).frz 1; have g2 := (r0).frz 2; have g3 := (r0).frz 3; have g4 := (r0).frz 4; have g5 := (r0).frz 5; have g6 := (r0).frz 6
  have S8 := r0.set7 0 0 0 0 0 0 0
  have p0 := (S8).c0; have p1 := (S8).c1; have p2 := (S8).c2; have p3 := (S8).c3; have p4 := (S8).c4; have p5 := (S8).c5; have p6 := (S8).c6
  simp only [set7] at p0 p1 p2 p3 p4 p5 p6
  have HB2 := J (below_set7 (b := w.heap.size + 1) (HB1.out.trans (B1.mono HB1.out.size)) (Nat.le_succ _) (Nat.le_trans HB1.out.size B1.size) 0 0 0 0 0 0 0)
  clear S8 r0 B1
  go_wp2
  exact bodyPost_ret (v := .tuple #[.agg #[.int .i64 0, .int .i64 0, .int .i64 0, .int .i64 0, .int .i64 0, .int .i64 0, .int .i64 0], .bool false]) (by simp [results, Tryz.results10, go_sem, p0, p1, p2, p3, p4, p5, p6]) rfl (HN.out _ _ rfl HB2.out)
 | true =>
  have HI := J (validStream_any K W T m f a s W1)
  rw [hB] at HI
  clear S R B
  cases hc : inR c 0 1000000000000000000 with
  | false =>
   have HN := J (fun e w' => SSRet.no (w := w) (w' := w') (e := e) (show okS K W T m f a s c = false by simp [okS, hB, hc]))
   have HC := J (fun w => inRange_any c 0 1000000000000000000 w)
   rw [hc] at HC
   clear hB hc
   go_enter Tryz.func10, Tryz.ntmps10
   go_wp2_with fail
   rw [← HW.out]
   refine HI.out.mono ?_
   rintro e w1 ⟨rfl, B1⟩
   have r0 := HR.out.below B1 HR.out.lt
   have d0 := (r0).c0; have d1 := (r0).c1; have d2 := (r0).c2; have d3 := (r0).c3; have d4 := (r0).c4; have d5 := (r0).c5; have d6 := (r0).c6
   have g0 := (r0).frz 0; have g1 := (r0).frz 1; have g2 := (r0).frz 2; have g3 := (r0).frz 3; have g4 := (r0).frz 4; have g5 := (r0).frz 5; have g6 := (r0).frz 6
   have S8 := r0.set7 0 0 0 0 0 0 0
   have p0 := (S8).c0; have p1 := (S8).c1; have p2 := (S8).c2; have p3 := (S8).c3; have p4 := (S8).c4; have p5 := (S8).c5; have p6 := (S8).c6
   simp only [set7] at p0 p1 p2 p3 p4 p5 p6
   have HB2 := J (below_set7 (b := w.heap.size + 1) (HB1.out.trans (B1.mono HB1.out.size)) (Nat.le_succ _) (Nat.le_trans HB1.out.size B1.size) 0 0 0 0 0 0 0)
   clear S8 r0 B1
   go_wp2_with fail
   refine (HC.out _).mono ?_
   rintro e w' ⟨rfl, rfl⟩
   go_wp2
   exact bodyPost_ret (v := .tuple #[.agg #[.int .i64 0, .int .i64 0, .int .i64 0, .int .i64 0, .int .i64 0, .int .i64 0, .int .i64 0], .bool false]) (by simp [results, Tryz.results10, go_sem, p0, p1, p2, p3, p4, p5, p6]) rfl (HN.out _ _ rfl HB2.out)
  | true =>
   have HY := J (fun e w' => SSRet.yes (w := w) (w' := w') (e := e) (show okS K W T m f a s c = true by simp [okS, hB, hc]))
   have HC := J (fun w => inRange_any c 0 1000000000000000000 w)
   rw [hc] at HC
   have HT := J (fun w => implSkip_yes hB (by simpa using inR_true hc) w)
   clear hB hc
   unfold SkipR at HT
   generalize takeX K W T m f a s c = x at *
   go_enter Tryz.func10, Tryz.ntmps10
   go_wp2_with fail
   rw [← HW.out]
   refine HI.out.mono ?_
   rintro e w1 ⟨rfl, B1⟩
   have t0 := HS.out.below B1 HS.out.lt
   have c0 := (t0).c0; have c1 := (t0).c1; have c2 := (t0).c2; have c3 := (t0).c3; have c4 := (t0).c4; have c5 := (t0).c5; have c6 := (t0).c6
   have HR1 := J (HR.out.below B1 HR.out.lt)
   have HB2 := J (HB1.out.trans (B1.mono HB1.out.size))
   clear t0 B1
   go_wp2_with fail
   refine (HC.out _).mono ?_
   rintro e w' ⟨rfl, rfl⟩
   go_wp2_with fail
   refine (HT.out _).mono ?_
   rintro e w2 ⟨rfl, hb2⟩
   have r0 := HR1.out.below hb2 HR1.out.lt
   have d0 := (r0).c0; have d1 := (r0).c1; have d2 := (r0).c2; have d3 := (r0).c3; have d4 := (r0).c4; have d5 := (r0).c5; have d6 := (r0).c6
   have g0 := (r0).frz 0; have g1 := (r0).frz 1; have g2 := (r0).frz 2; have g3 := (r0).frz 3; have g4 := (r0).frz 4; have g5 := (r0).frz 5; have g6 := (r0).frz 6
   have S8 := r0.set7 K W T m f a x
   have p0 := (S8).c0; have p1 := (S8).c1; have p2 := (S8).c2; have p3 := (S8).c3; have p4 := (S8).c4; have p5 := (S8).c5; have p6 := (S8).c6
   simp only [set7] at p0 p1 p2 p3 p4 p5 p6
   have HB3 := J (below_set7 (b := w.heap.size + 1) (HB2.out.trans (hb2.mono HB2.out.size)) (Nat.le_succ _) (Nat.le_trans HB2.out.size hb2.size) K W T m f a x)
   clear S8 r0 hb2 c0 c1 c2 c3 c4 c5 c6
   go_wp2
   exact bodyPost_ret (v := .tuple #[.agg #[.int .i64 K, .int .i64 W, .int .i64 T, .int .i64 m, .int .i64 f, .int .i64 a, .int .i64 x], .bool true]) (by simp [results, Tryz.results10, go_sem, p0, p1, p2, p3, p4, p5, p6]) rfl (HY.out _ _ rfl HB3.out)
end Skip
namespace Dice
open Go.RowKit Base Mem Bits
def bitAt (s : ByteArray) (u : Nat) : Nat := if h : u < s.size then s[u].toNat - 48 else 0
def diceR (n : Nat) (hn : 0 < n) (s : ByteArray) (v c u : Nat) : Option (Nat × Nat) :=
 if v < n then (if u < s.size then diceR n hn s (2 * v) (2 * c + bitAt s u) (u + 1) else none)
 else if c < n then some (c, u) else diceR n hn s (v - n) (c - n) u
termination_by (s.size - u, v)
def BitsS (s : ByteArray) : Prop := ∀ (u : Nat) (h : u < s.size), s[u].toNat = 48 ∨ s[u].toNat = 49
theorem diceR_step {n : Nat} {hn : 0 < n} {s : ByteArray} {v c u : Nat} (h1 : v < n) (h2 : u < s.size) : diceR n hn s v c u = diceR n hn s (2 * v) (2 * c + bitAt s u) (u + 1) := by
 rw [diceR]; simp [h1, h2]
theorem diceR_none {n : Nat} {hn : 0 < n} {s : ByteArray} {v c u : Nat} (h1 : v < n) (h2 : ¬ u < s.size) : diceR n hn s v c u = none := by
 rw [diceR]; simp [h1, h2]
theorem diceR_some {n : Nat} {hn : 0 < n} {s : ByteArray} {v c u : Nat} (h1 : ¬ v < n) (h2 : c < n) : diceR n hn s v c u = some (c, u) := by
 rw [diceR]; simp [h1, h2]
theorem diceR_less {n : Nat} {hn : 0 < n} {s : ByteArray} {v c u : Nat} (h1 : ¬ v < n) (h2 : ¬ c < n) : diceR n hn s v c u = diceR n hn s (v - n) (c - n) u := by
 conv => lhs; rw [diceR]
 simp [h1, h2]
def msr (L u v : Nat) : Nat := (L - u) * 4000000 + v
theorem msr_step {L u v n : Nat} (h1 : v < n) (hn : n ≤ 1000000) (h2 : u < L) : msr L (u + 1) (2 * v) < msr L u v := by
 unfold msr
 have : L - u = (L - (u + 1)) + 1 := by omega
 rw [this, Nat.add_mul]
 omega
theorem msr_less {L u v n : Nat} (h1 : ¬ v < n) (hn : 0 < n) : msr L u (v - n) < msr L u v := by
 unfold msr
 omega
theorem diceR_bd {n : Nat} {hn : 0 < n} {s : ByteArray} {a b : Nat} (hn2 : n ≤ 1000000) : ∀ (M v c u : Nat), msr s.size u v ≤ M → u ≤ s.size → diceR n hn s v c u = some (a, b) → a < n ∧ b ≤ s.size := by
 intro M
 induction M using Nat.strongRecOn with
 | _ M ih =>
  intro v c u hM hu h
  by_cases h1 : v < n
  ·by_cases h2 : u < s.size
   ·rw [diceR_step h1 h2] at h
    have hs := msr_step (L := s.size) h1 hn2 h2
    exact ih (msr s.size (u + 1) (2 * v)) (by omega) (2 * v) (2 * c + bitAt s u) (u + 1) (Nat.le_refl _) h2 h
   ·rw [diceR_none h1 h2] at h; cases h
  ·by_cases h2 : c < n
   ·rw [diceR_some h1 h2] at h
    injection h with h
    injection h with h3 h4
    subst h3 h4
    exact ⟨h2, hu⟩
   ·rw [diceR_less h1 h2] at h
    have hs := msr_less (L := s.size) (u := u) h1 hn
    exact ih (msr s.size u (v - n)) (by omega) (v - n) (c - n) u (Nat.le_refl _) hu h
def DiceRet (R : Option (Nat × Nat)) (w : World) (e : Ending) (w' : World) : Prop :=
 (∀ c u : Nat, R = some (c, u) → e = .returned (.tuple #[.int .i64 (c : Int), .int .i64 (u : Int), .bool true])) ∧ (R = none → e = .returned (.tuple #[.int .i64 0, .int .i64 0, .bool false])) ∧ Drawn w w'
theorem DiceRet.yes {R : Option (Nat × Nat)} {w w' : World} {e : Ending} {c u : Nat} (h : R = some (c, u)) (he : e = .returned (.tuple #[.int .i64 (c : Int), .int .i64 (u : Int), .bool true])) (hd : Drawn w w') : DiceRet R w e w' :=
 ⟨fun c' u' h2 => (by rw [h] at h2; injection h2 with h2; injection h2 with h3 h4; subst h3 h4; exact he), fun h2 => (by rw [h] at h2; cases h2), hd⟩
theorem DiceRet.no {R : Option (Nat × Nat)} {w w' : World} {e : Ending} (h : R = none) (he : e = .returned (.tuple #[.int .i64 0, .int .i64 0, .bool false])) (hd : Drawn w w') : DiceRet R w e w' :=
 ⟨fun c' u' h2 => (by rw [h] at h2; cases h2), fun _ => he, hd⟩
theorem rollDice_any (n : Nat) (hn : 0 < n) (hn2 : n ≤ 1000000) (s : ByteArray) (hs : s.size ≤ 400) (hB : BitsS s) (w : World) :
  Calls Tryz.prog 75 #[.int .i64 (n : Int), .string s] w (DiceRet (diceR n hn s 1 0 0) w) := by
 have HB := J hB
 clear hB
 generalize hR : diceR n hn s 1 0 0 = R
 have HR := J hR
 clear hR
 go_enter Tryz.func75, Tryz.ntmps75
 go_wp2
 go_loopw [7, 8, 9] (fun vv cc uu wr => ∃ v c u : Nat, vv = .int .i64 (v : Int) ∧ cc = .int .i64 (c : Int) ∧ uu = .int .i64 (u : Int) ∧ u ≤ s.size ∧ c < v ∧ v ≤ 2 * n ∧ Hid (diceR n hn s v c u = R) ∧ Drawn w wr) (fun vv _ uu _ => msr s.size (intOf uu).toNat (intOf vv).toNat)
 case atStart => exact ⟨1, 0, 0, rfl, rfl, rfl, Nat.zero_le _, by omega, by omega, HR, Drawn.refl _⟩
 case round =>
  obtain ⟨v0, c0, u0, rfl, rfl, rfl, hu0, hc0, hv0, hR0, hD0⟩ := hrel
  clear HR
  generalize hM : msr s.size u0 v0 = M
  have HM := J hM
  go_wp2
  go_loopw [7, 8, 9] (fun vv cc uu wr => ∃ v c u : Nat, vv = .int .i64 (v : Int) ∧ cc = .int .i64 (c : Int) ∧ uu = .int .i64 (u : Int) ∧ u ≤ s.size ∧ c < v ∧ v ≤ 2 * n ∧ msr s.size u v ≤ M ∧ Hid (diceR n hn s v c u = R) ∧ Drawn w wr) (fun vv _ uu _ => msr s.size (intOf uu).toNat (intOf vv).toNat)
  case atStart => exact ⟨v0, c0, u0, rfl, rfl, rfl, hu0, hc0, hv0, Nat.le_of_eq hM, hR0, hD0⟩
  case round =>
   obtain ⟨v, c, u, rfl, rfl, rfl, hu, hc, hv, hMv, hR1, hD⟩ := hrel
   by_cases h1 : v < n
   ·by_cases h2 : u < s.size
    ·have hne : ((u : Int) == (s.size : Int)) = false := beq_eq_false_iff_ne.2 (by omega)
     have hbs := HB.out u h2
     have hR2 := J ((diceR_step (hn := hn) (c := c) h1 h2).symm.trans hR1.out)
     have i0 : (0 : Int) ≤ (u : Int) := Int.natCast_nonneg _
     have i1 : (u : Int) < (s.size : Int) := by omega
     have i2 : ((u : Int)).toNat = u := by omega
     rcases hbs with hb | hb
     ·have hba : bitAt s u = 0 := by unfold bitAt; rw [dif_pos h2, hb]
      rw [hba] at hR2
      have HD := J hD
      clear hR1 hba hD
      have w1 : IntKind.i64.wrap (2 * (v : Int)) = 2 * (v : Int) := by rw [IntKind.wrap_i64]; omega
      have w2 : IntKind.i64.wrap (2 * (c : Int)) = 2 * (c : Int) := by rw [IntKind.wrap_i64]; omega
      have hms := msr_step (L := s.size) h1 hn2 h2
      go_wp2
      go_quiet (fail)
      go_wp2
      go_roundw
      case rel => exact ⟨2 * v, 2 * c, u + 1, by go_num, by go_num, by go_num, by omega, by omega, by omega, by omega, hR2, HD.out.next _⟩
      case measure =>
       have e1 : ((u : Int) + 1).toNat = u + 1 := by omega
       have e2 : (2 * (v : Int)).toNat = 2 * v := by omega
       simpa [intOf, e1, e2] using hms
     ·have hba : bitAt s u = 1 := by unfold bitAt; rw [dif_pos h2, hb]
      rw [hba] at hR2
      have HD := J hD
      clear hR1 hba hD
      have w1 : IntKind.i64.wrap (2 * (v : Int)) = 2 * (v : Int) := by rw [IntKind.wrap_i64]; omega
      have w2 : IntKind.i64.wrap (2 * (c : Int)) = 2 * (c : Int) := by rw [IntKind.wrap_i64]; omega
      have w3 : IntKind.i64.wrap (2 * (c : Int) + 1) = 2 * (c : Int) + 1 := by rw [IntKind.wrap_i64]; omega
      have hms := msr_step (L := s.size) h1 hn2 h2
      go_wp2
      go_quiet (fail)
      go_wp2
      go_roundw
      case rel => exact ⟨2 * v, 2 * c + 1, u + 1, by go_num, by go_num, by go_num, by omega, by omega, by omega, by omega, hR2, HD.out.next _⟩
      case measure =>
       have e1 : ((u : Int) + 1).toNat = u + 1 := by omega
       have e2 : (2 * (v : Int)).toNat = 2 * v := by omega
       simpa [intOf, e1, e2] using hms
    ·obtain rfl : u = s.size := by omega
     have hRn := J ((diceR_none (hn := hn) (s := s) (c := c) h1 h2).symm.trans hR1.out)
     have HD := J hD
     clear hR1 hD
     go_wp2
     exact bodyPost_ret (v := .tuple #[.int .i64 0, .int .i64 0, .bool false]) (by simp [results, Tryz.results75, go_sem]) rfl (DiceRet.no hRn.out.symm rfl HD.out)
   ·by_cases h3 : c < n
    ·have hRs := J ((diceR_some (hn := hn) (s := s) (u := u) h1 h3).symm.trans hR1.out)
     have HD := J hD
     clear hR1 hD
     go_wp2
     exact bodyPost_ret (v := .tuple #[.int .i64 (c : Int), .int .i64 (u : Int), .bool true]) (by simp [results, Tryz.results75, go_sem]) rfl (DiceRet.yes hRs.out.symm rfl HD.out)
    ·have hR2 := J ((diceR_less (hn := hn) (s := s) (u := u) h1 h3).symm.trans hR1.out)
     have HD := J hD
     have hms := msr_less (L := s.size) (u := u) h1 hn
     clear hR1 hD
     go_wp2
     go_roundw
     case rel => exact ⟨v - n, c - n, u, by rw [show ((v - n : Nat) : Int) = (v : Int) - n by omega], by rw [show ((c - n : Nat) : Int) = (c : Int) - n by omega], rfl, hu, by omega, by omega, hR2, HD.out⟩
     case measure =>
      have e2 : ((v : Int) - (n : Int)).toNat = v - n := by omega
      have hM2 := HM.out
      simp only [intOf, e2, Int.toNat_natCast]
      omega
end Dice
namespace Face
open Go.RowKit Base Mem Reg Str Take Skip Dice
theorem streamB_takeX {K W T m f a s c : Int} (h : streamB K W T m f a s = true) : streamB K W T m f a (takeX K W T m f a s c) = true := by
 unfold streamB at *
 by_cases h0 : K = 0
 ·subst h0
  rw [if_pos rfl, Bool.and_eq_true] at *
  refine ⟨h.1, ?_⟩
  obtain ⟨h1, h2, h3, h4, h5, h6⟩ := Reg.bothR_true h.2
  have ep : ((2 ^ W.toNat : Nat) : Int) = (2 : Int) ^ W.toNat := by simp
  have hlt := CycM.iter_lt (T := nextR W.toNat T.toNat) (M := 2 ^ W.toNat) (fun y hy => nextR_lt hy) (x := s.toNat) (by omega) c.toNat
  have hb := h.2
  unfold Reg.bothR at hb ⊢
  rw [Bool.and_eq_true] at hb ⊢
  refine ⟨hb.1, ?_⟩
  unfold stB
  refine inR_yes ?_
  simp only [takeX, if_pos]
  omega
 ·rw [if_neg h0] at *
  by_cases h1 : K = 1
  ·subst h1
   rw [if_pos rfl, Bool.and_eq_true] at *
   refine ⟨h.1, ?_⟩
   obtain ⟨h1, h2, h3, h4, h5, h6, h7, h8⟩ := Cong.bothB_true h.2
   have hlt := CycM.iter_lt (T := Cong.stepN m.toNat f.toNat a.toNat) (M := m.toNat) (fun y hy => Cong.stepN_lt (by omega) y) (x := s.toNat) (by omega) c.toNat
   have hb := h.2
   unfold Cong.bothB at hb ⊢
   rw [Bool.and_eq_true] at hb ⊢
   refine ⟨hb.1, inR_yes ?_⟩
   simp only [takeX, h0, if_false]
   omega
  ·rw [if_neg h1] at h; cases h
theorem outS_bits (nx bt : Nat → Nat) (hbt : ∀ y, bt y < 2) (x : Nat) : ∀ n, ∀ b ∈ outS nx bt x n, b.toNat = 48 ∨ b.toNat = 49
 | 0, b, h => by simp [outS] at h
 | n + 1, b, h => by
  rw [outS, List.mem_append] at h
  rcases h with h | h
  ·exact outS_bits nx bt hbt x n b h
  ·simp only [List.mem_singleton] at h
   subst h
   have := hbt (CycM.iter nx x n)
   rcases Nat.lt_or_ge (bt (CycM.iter nx x n)) 1 with h1 | h1
   ·rw [show bt (CycM.iter nx x n) = 0 by omega]; left; rfl
   ·rw [show bt (CycM.iter nx x n) = 1 by omega]; right; rfl
theorem takeL_bits (K W T m f a s c : Int) : BitsS ⟨(takeL K W T m f a s c).toArray⟩ := by
 have h : ∀ b ∈ takeL K W T m f a s c, b.toNat = 48 ∨ b.toNat = 49 := by
  unfold takeL
  split
  ·exact outS_bits _ _ (fun y => Nat.mod_lt _ (by decide)) _ _
  ·exact outS_bits _ _ (fun y => cbit_lt _ _ _ _) _ _
 intro u hu
 refine h _ ?_
 have hu' : u < (takeL K W T m f a s c).length := by simpa [ByteArray.size] using hu
 have e : (⟨(takeL K W T m f a s c).toArray⟩ : ByteArray)[u] = (takeL K W T m f a s c)[u] := rfl
 rw [e]
 exact List.getElem_mem hu'
theorem takeL_size (K W T m f a s c : Int) : (⟨(takeL K W T m f a s c).toArray⟩ : ByteArray).size = c.toNat := by
 show (takeL K W T m f a s c).toArray.size = _
 unfold takeL
 split <;> simp [outS_len]
def faceR (K W T m f a s : Int) (n : Nat) (hn : 0 < n) : Option (Nat × Nat) := diceR n hn ⟨(takeL K W T m f a s 400).toArray⟩ 1 0 0
def FaceRet (K W T m f a s : Int) (R : Option (Nat × Nat)) (w : World) (e : Ending) (w' : World) : Prop :=
 (∀ c u : Nat, R = some (c, u) → e = .returned (.tuple #[.int .i64 (c : Int), .agg #[.int .i64 K, .int .i64 W, .int .i64 T, .int .i64 m, .int .i64 f, .int .i64 a, .int .i64 (takeX K W T m f a s (u : Int))], .bool true])) ∧ (R = none → e = .returned (.tuple #[.int .i64 0, .agg #[.int .i64 0, .int .i64 0, .int .i64 0, .int .i64 0, .int .i64 0, .int .i64 0, .int .i64 0], .bool false])) ∧ Below w.heap.size w w'
theorem FaceRet.yes {K W T m f a s : Int} {R : Option (Nat × Nat)} {w w' : World} {e : Ending} {c u : Nat} (h : R = some (c, u)) (he : e = .returned (.tuple #[.int .i64 (c : Int), .agg #[.int .i64 K, .int .i64 W, .int .i64 T, .int .i64 m, .int .i64 f, .int .i64 a, .int .i64 (takeX K W T m f a s (u : Int))], .bool true])) (hd : Below w.heap.size w w') : FaceRet K W T m f a s R w e w' :=
 ⟨fun c' u' h2 => (by rw [h] at h2; injection h2 with h2; injection h2 with h3 h4; subst h3 h4; exact he), fun h2 => (by rw [h] at h2; cases h2), hd⟩
theorem FaceRet.no {K W T m f a s : Int} {R : Option (Nat × Nat)} {w w' : World} {e : Ending} (h : R = none) (he : e = .returned (.tuple #[.int .i64 0, .agg #[.int .i64 0, .int .i64 0, .int .i64 0, .int .i64 0, .int .i64 0, .int .i64 0, .int .i64 0], .bool false])) (hd : Below w.heap.size w w') : FaceRet K W T m f a s R w e w' :=
 ⟨fun c' u' h2 => (by rw [h] at h2; cases h2), fun _ => he, hd⟩
theorem faceR_bd {K W T m f a s : Int} {n : Nat} {hn : 0 < n} (hn2 : n ≤ 1000000) {c u : Nat} (h : faceR K W T m f a s n hn = some (c, u)) : c < n ∧ u ≤ 400 := by
 have := diceR_bd hn2 _ 1 0 0 (Nat.le_refl _) (Nat.zero_le _) h
 rw [takeL_size] at this
 exact this
theorem roll_any {K W T m f a s : Int} (hB : streamB K W T m f a s = true) (n : Nat) (hn : 0 < n) (hn2 : n ≤ 1000000) (w : World) :
  Calls Tryz.prog 36 #[.agg #[.int .i64 K, .int .i64 W, .int .i64 T, .int .i64 m, .int .i64 f, .int .i64 a, .int .i64 s], .int .i64 (n : Int)] w (FaceRet K W T m f a s (faceR K W T m f a s n hn) w) := by
 obtain ⟨W1, hW1, S, R, B⟩ := two w K W T m f a s
 have HT := J (implTake_yes hB (c := 400) (inR_yes (by omega)) W1)
 have HDc := J (fun w => rollDice_any n hn hn2 ⟨(takeL K W T m f a s 400).toArray⟩ (by rw [takeL_size]; decide) (takeL_bits _ _ _ _ _ _ _ _) w)
 have HSk := J (fun (u : Nat) (hu : u ≤ 400) w => implTake_yes hB (c := (u : Int)) (inR_yes (by omega)) w)
 have hbd : ∀ c u, faceR K W T m f a s n hn = some (c, u) → c < n ∧ u ≤ 400 := fun c u h => faceR_bd hn2 h
 unfold faceR at hbd
 unfold faceR
 unfold TakeR at HT
 generalize takeX K W T m f a s 400 = x4 at *
 generalize (⟨(takeL K W T m f a s 400).toArray⟩ : ByteArray) = bs at *
 have HW := J hW1
 have HS := J S
 have HR := J R
 have HB1 := J B
 have hB0 := J hB
 clear hW1 S R B hB
 cases hR : diceR n hn bs 1 0 0 with
 | none =>
  rw [hR] at HDc
  have HDn := J (fun w => (HDc.out w).mono fun e w' h => (show e = .returned (.tuple #[.int .i64 0, .int .i64 0, .bool false]) ∧ Drawn w w' from ⟨h.2.1 rfl, h.2.2⟩))
  clear HDc hR hbd
  go_enter Tryz.func36, Tryz.ntmps36
  go_wp2_with fail
  rw [← HW.out]
  refine HT.out.mono ?_
  rintro e w1 ⟨rfl, b1⟩
  have HBb := J b1
  clear b1
  go_wp2_with fail
  refine (HDn.out _).mono ?_
  rintro e w2 ⟨rfl, dd⟩
  have b2 : Below W1.heap.size W1 w2 := Base.Below.nextA HBb.out (((Below.refl _ _).alloc (Nat.le_refl _) _).trans ((dd.below (B := (w1.alloc (.cells #[.int .i64 K, .int .i64 W, .int .i64 T, .int .i64 m, .int .i64 f, .int .i64 a, .int .i64 x4] 29)).heap.size)).mono (by simp)))
  have r0 := HR.out.below b2 HR.out.lt
  have d0 := (r0).c0; have d1 := (r0).c1; have d2 := (r0).c2; have d3 := (r0).c3; have d4 := (r0).c4; have d5 := (r0).c5; have d6 := (r0).c6
  have g0 := (r0).frz 0; have g1 := (r0).frz 1; have g2 := (r0).frz 2; have g3 := (r0).frz 3; have g4 := (r0).frz 4; have g5 := (r0).frz 5; have g6 := (r0).frz 6
  have S8 := r0.set7 0 0 0 0 0 0 0
  have p0 := (S8).c0; have p1 := (S8).c1; have p2 := (S8).c2; have p3 := (S8).c3; have p4 := (S8).c4; have p5 := (S8).c5; have p6 := (S8).c6
  simp only [set7] at p0 p1 p2 p3 p4 p5 p6
  have HB2 := J (below_set7 (b := w.heap.size + 1) (HB1.out.trans (b2.mono HB1.out.size)) (Nat.le_succ _) (Nat.le_trans HB1.out.size b2.size) 0 0 0 0 0 0 0)
  clear S8 r0 b2 dd
  go_wp2
  exact bodyPost_ret (v := .tuple #[.int .i64 0, .agg #[.int .i64 0, .int .i64 0, .int .i64 0, .int .i64 0, .int .i64 0, .int .i64 0, .int .i64 0], .bool false]) (by simp [results, Tryz.results36, go_sem, p0, p1, p2, p3, p4, p5, p6]) rfl (FaceRet.no rfl rfl HB2.out)
 | some p =>
  obtain ⟨c, u⟩ := p
  obtain ⟨hc, hu⟩ := hbd c u hR
  rw [hR] at HDc
  have HDn := J (fun w => (HDc.out w).mono fun e w' h => (show e = .returned (.tuple #[.int .i64 (c : Int), .int .i64 (u : Int), .bool true]) ∧ Drawn w w' from ⟨h.1 c u rfl, h.2.2⟩))
  have HSu := J (fun w => HSk.out u hu w)
  unfold TakeR at HSu
  generalize (⟨(takeL K W T m f a s (u : Int)).toArray⟩ : ByteArray) = bu at HSu
  obtain ⟨x, hx⟩ : ∃ x, takeX K W T m f a s (u : Int) = x := ⟨_, rfl⟩
  rw [hx] at HSu
  have HXX := J hx
  clear HDc hR hbd HSk hx
  go_enter Tryz.func36, Tryz.ntmps36
  go_wp2_with fail
  rw [← HW.out]
  refine HT.out.mono ?_
  rintro e w1 ⟨rfl, b1⟩
  have HBb := J b1
  clear b1
  go_wp2_with fail
  refine (HDn.out _).mono ?_
  rintro e w2 ⟨rfl, dd⟩
  have b2 : Below W1.heap.size W1 w2 := Base.Below.nextA HBb.out (((Below.refl _ _).alloc (Nat.le_refl _) _).trans ((dd.below (B := (w1.alloc (.cells #[.int .i64 K, .int .i64 W, .int .i64 T, .int .i64 m, .int .i64 f, .int .i64 a, .int .i64 x4] 29)).heap.size)).mono (by simp)))
  have t0 := HS.out.below b2 HS.out.lt
  have c0 := (t0).c0; have c1 := (t0).c1; have c2 := (t0).c2; have c3 := (t0).c3; have c4 := (t0).c4; have c5 := (t0).c5; have c6 := (t0).c6
  have HBw := J b2
  clear dd b2 t0
  go_wp2_with fail
  refine (HSu.out _).mono ?_
  rintro e w3 ⟨rfl, b3⟩
  have b4 := Base.Below.nextA HBw.out b3
  have r0 := HR.out.below b4 HR.out.lt
  obtain ⟨w4, hw4⟩ : ∃ w4, w4 = w3.alloc (.cells #[.int .i64 K, .int .i64 W, .int .i64 T, .int .i64 m, .int .i64 f, .int .i64 a, .int .i64 x] 29) := ⟨_, rfl⟩
  have b5 : Below w3.heap.size w3 w4 := by rw [hw4]; exact (Below.refl _ _).alloc (Nat.le_refl _) _
  have u0 : SBox w4 w3.heap.size K W T m f a x := by rw [hw4]; exact SBox.new _ _ _ _ _ _ _ _
  have u1 := r0.below b5 r0.lt
  have HW4 := J hw4
  have HB4 := J (HB1.out.trans ((Base.Below.nextA b4 b5).mono HB1.out.size))
  have hlt := r0.lt
  have x0 := (u0).c0; have x1 := (u0).c1; have x2 := (u0).c2; have x3 := (u0).c3; have x4 := (u0).c4; have x5 := (u0).c5; have x6 := (u0).c6
  have h0 := (u1).c0; have h1 := (u1).c1; have h2 := (u1).c2; have h3 := (u1).c3; have h4 := (u1).c4; have h5 := (u1).c5; have h6 := (u1).c6
  have g0 := (u1).frz 0; have g1 := (u1).frz 1; have g2 := (u1).frz 2; have g3 := (u1).frz 3; have g4 := (u1).frz 4; have g5 := (u1).frz 5; have g6 := (u1).frz 6
  have S8 := u1.set7 K W T m f a x
  have p0 := (S8).c0; have p1 := (S8).c1; have p2 := (S8).c2; have p3 := (S8).c3; have p4 := (S8).c4; have p5 := (S8).c5; have p6 := (S8).c6
  simp only [set7] at p0 p1 p2 p3 p4 p5 p6
  have B7 := J (HB4.out.trans (grown_below (grown_set7 w4 (w.heap.size + 1) K W T m f a x) (fun g e => by cases e; exact Nat.le_succ _) HB4.out.size))
  have mixed : Tryz.prog.follows .mixedOrders = true := by kernel_rfl
  clear r0 hw4 u0 u1 S8 b3 b4 b5 c0 c1 c2 c3 c4 c5 c6
  go_wp2_with fail
  rw [← HW4.out]
  go_region_o
  all_goals
   go_wp2
   exact bodyPost_ret (v := .tuple #[.int .i64 (c : Int), .agg #[.int .i64 K, .int .i64 W, .int .i64 T, .int .i64 m, .int .i64 f, .int .i64 a, .int .i64 x], .bool true]) (by simp [results, Tryz.results36, go_sem, p0, p1, p2, p3, p4, p5, p6]) rfl (FaceRet.yes rfl (by rw [HXX.out]) (Below.drew B7.out))
end Face
namespace Face
open Go.RowKit Base Mem Reg Str Take Skip Dice
def facesA (K W T m f a : Int) (n : Nat) (hn : 0 < n) : Nat → Int → List Int → Option (List Int × Int)
 | 0, s, L => some (L, s)
 | k + 1, s, L => match faceR K W T m f a s n hn with
  | none => none
  | some (c, u) => facesA K W T m f a n hn k (takeX K W T m f a s (u : Int)) (L ++ [(c : Int)])
theorem facesA_none {K W T m f a s : Int} {n k : Nat} {hn : 0 < n} {L : List Int} (h : faceR K W T m f a s n hn = none) : facesA K W T m f a n hn (k + 1) s L = none := by
 unfold facesA; rw [h]
theorem facesA_some {K W T m f a s : Int} {n k c u : Nat} {hn : 0 < n} {L : List Int} (h : faceR K W T m f a s n hn = some (c, u)) : facesA K W T m f a n hn (k + 1) s L = facesA K W T m f a n hn k (takeX K W T m f a s (u : Int)) (L ++ [(c : Int)]) := by
 conv => lhs; unfold facesA
 rw [h]
theorem own_not_str {w : World} {B b n : Nat} {v : Value} {xs : List Value} {K W T m f a s : Int} (h : w.ownsRow B 2 1 v n xs) (hb : SBox w b K W T m f a s) : v.ownBlock ≠ some b := fun he => by
 obtain ⟨cur, h1, _⟩ := ownsRow_block h he
 unfold SBox at hb
 rw [hb] at h1
 injection h1 with h1
 injection h1 with _ h2
 cases h2
theorem own_set7 {w : World} {B b n : Nat} {v : Value} {xs : List Value} {K W T m f a s : Int} (h : w.ownsRow B 2 1 v n xs) (hb : SBox w b K W T m f a s) (K' W' T' m' f' a' s' : Int) : (set7 w b K' W' T' m' f' a' s').ownsRow B 2 1 v n xs := by
 refine World.ownsRow.kept h (grown_set7 w b K' W' T' m' f' a' s') ?_
 rcases hv : v.ownBlock with _ | q
 ·exact .inl rfl
 ·refine .inr fun e1 => own_not_str h hb ?_
  rw [hv]; exact e1
theorem faces_next {B bx bz : Nat} {L : List Int} {v v' : Value} {c s s2 K W T m f a : Int} {w wr w2 w3 : World} (hO : OwnI wr B v L) (hX : SBox wr bx K W T m f a s) (hZ : SBox wr bz 0 0 0 0 0 0 0) (hne : bx ≠ bz) (hbB : w.heap.size ≤ B) (hbx : w.heap.size ≤ bx)
  (hb : Below w.heap.size w wr) (h2 : Below wr.heap.size wr w2) (hown : w3.ownsRow B 2 1 v' (L.length + 1) (ints L ++ [.int .i64 c])) (hg : w2.grownBy w3 v.ownBlock) :
  OwnI (set7 w3 bx K W T m f a s2) B v' (L ++ [c]) ∧ SBox (set7 w3 bx K W T m f a s2) bx K W T m f a s2 ∧ SBox (set7 w3 bx K W T m f a s2) bz 0 0 0 0 0 0 0 ∧ Below w.heap.size w (set7 w3 bx K W T m f a s2) ∧ SBox w3 bx K W T m f a s ∧ SBox w3 bz 0 0 0 0 0 0 0 := by
 have hX2 := hX.below h2 hX.lt
 have hZ2 := hZ.below h2 hZ.lt
 have hO2 : w2.ownsRow B 2 1 v L.length (ints L) := ownsRow_below hO h2
 have hX3 := hX2.kept hg (own_not_str hO2 hX2)
 have hZ3 := hZ2.kept hg (own_not_str hO2 hZ2)
 have b3 : Below w.heap.size w w3 := (hb.trans (h2.mono hb.size)).trans (grown_below hg (fun g he => by
  obtain ⟨_, _, h3, _⟩ := ownsRow_block hO he
  omega) (Nat.le_trans hb.size h2.size))
 refine ⟨?_, hX3.set7 K W T m f a s2, hZ3.kept (grown_set7 w3 bx K W T m f a s2) (fun e => hne (Option.some.inj e)), b3.trans (grown_below (grown_set7 w3 bx K W T m f a s2) (fun g e => by cases e; exact hbx) b3.size), hX3, hZ3⟩
 unfold OwnI
 rw [List.length_append, show ints (L ++ [c]) = ints L ++ [.int .i64 c] by simp [ints]]
 exact own_set7 hown hX3 K W T m f a s2
def FsRet (K W T m f a : Int) (R : Option (List Int × Int)) (w : World) (e : Ending) (w' : World) : Prop :=
 (∀ L s', R = some (L, s') → ∃ A c, e = .returned (.tuple #[.slice A L.length c, .agg #[.int .i64 K, .int .i64 W, .int .i64 T, .int .i64 m, .int .i64 f, .int .i64 a, .int .i64 s'], .bool true]) ∧ OwnI w' w.heap.size (.slice A L.length c) L) ∧ (R = none → e = .returned (.tuple #[.slice none 0 0, .agg #[.int .i64 0, .int .i64 0, .int .i64 0, .int .i64 0, .int .i64 0, .int .i64 0, .int .i64 0], .bool false])) ∧ Below w.heap.size w w'
theorem FsRet.yes {K W T m f a s' : Int} {L : List Int} {R : Option (List Int × Int)} {w w' : World} {e : Ending} {A : Option Addr} {c : Nat} (h : R = some (L, s')) (he : e = .returned (.tuple #[.slice A L.length c, .agg #[.int .i64 K, .int .i64 W, .int .i64 T, .int .i64 m, .int .i64 f, .int .i64 a, .int .i64 s'], .bool true])) (ho : OwnI w' w.heap.size (.slice A L.length c) L) (hd : Below w.heap.size w w') : FsRet K W T m f a R w e w' :=
 ⟨fun L' s2 h2 => (by rw [h] at h2; injection h2 with h2; injection h2 with h3 h4; subst h3 h4; exact ⟨A, c, he, ho⟩), fun h2 => (by rw [h] at h2; cases h2), hd⟩
theorem FsRet.no {K W T m f a : Int} {R : Option (List Int × Int)} {w w' : World} {e : Ending} (h : R = none) (he : e = .returned (.tuple #[.slice none 0 0, .agg #[.int .i64 0, .int .i64 0, .int .i64 0, .int .i64 0, .int .i64 0, .int .i64 0, .int .i64 0], .bool false])) (hd : Below w.heap.size w w') : FsRet K W T m f a R w e w' :=
 ⟨fun L' s2 h2 => (by rw [h] at h2; cases h2), fun _ => he, hd⟩
def facesR (K W T m f a s n c : Int) : Option (List Int × Int) := if h : 0 < n.toNat then (if (streamB K W T m f a s && (inR n 1 16 && inR c 0 40)) = true then facesA K W T m f a n.toNat h c.toNat s [] else none) else none
theorem facesR_no {K W T m f a s n c : Int} (h : (streamB K W T m f a s && (inR n 1 16 && inR c 0 40)) = false) : facesR K W T m f a s n c = none := by
 unfold facesR
 split <;> simp [h]
theorem facesR_yes {K W T m f a s : Int} {n c : Nat} (hn : 0 < n) (h : (streamB K W T m f a s && (inR (n : Int) 1 16 && inR (c : Int) 0 40)) = true) : facesR K W T m f a s (n : Int) (c : Int) = facesA K W T m f a n hn c s [] := by
 unfold facesR
 simp only [Int.toNat_natCast]
 rw [dif_pos hn, if_pos h]
end Face
end Go.Proofs.YtgipnbeipfhekaaGreatDoor

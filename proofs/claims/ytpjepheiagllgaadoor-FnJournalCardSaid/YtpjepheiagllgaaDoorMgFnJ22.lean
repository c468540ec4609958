/- The row's last step where the world behind the call is known by 'Below' alone: the arguments read as they read before, whatever their types. -/
import Derived.Test.YtpjepheiagllgaaDoorRows
import Derived.Below
import Derived.ChangeSame
import Derived.Carry
import Derived.OpenShut
import Derived.Lib.SmallJoins
import Derived.Test.YtpjepheiagllgaaDoorMgFnJ04
import Derived.Deep.Strs
namespace Go.Proofs.YtpjepheiagllgaaDoor.Frame
open Go.RowKit Go.WideShapes Go.ChangeShapes Go.Joins
set_option linter.unusedVariables false
theorem laidOut : laidOutB Tryd.prog = true := by kernel_rfl
theorem own : ownKnob Tryd.prog.godebug = none := by kernel_rfl
section
variable {H : Type} {enc : TypeId × Value → H} {P : Program}
theorem trodAll_below (hl : laidOutB P = true) {W W' : World} (hb : Below W.heap.size W W') :
  ∀ {ts : List TypeId} {vs : List Value} {ds : List (DataW H)} {ps : List MemPlace}, (ts.all fun t => P.readableRec t && decide (t < P.types.size)) = true →
   DataW.TrodAll enc P W 0 (fun _ => true) true ts vs ds ps → (∀ x ∈ ps, x.block < W.heap.size) → DataW.TrodAll enc P W' 0 (fun b => decide (b < W.heap.size)) true ts vs ds ps
 | [], vs, ds, ps, _, h, _ => by
  obtain ⟨rfl, rfl, rfl⟩ := trodAll_nil h
  exact trodAll_mk0
 | t :: ts, vs, ds, ps, hr, h, hlt => by
  simp only [List.all_cons, Bool.and_eq_true, decide_eq_true_eq] at hr
  obtain ⟨v, vs', d, ds', p, q, rfl, rfl, rfl, h0, h1⟩ := trodAll_cons h
  exact trodAll_cons_mk (Below.trod hl hr.1.1 hr.1.2 h0 hb fun x hx => hlt x (List.mem_append.2 (.inl hx))) (trodAll_below hl hb hr.2 h1 fun x hx => hlt x (List.mem_append.2 (.inr hx)))
theorem post_below {f : Func} {s : ChangeSpec} {apart fresh handsOn : Bool} {W W' : World} {args : Array Value} {v : Value} {ds : List (DataW H)} {before : List MemPlace}
  (hvars0 : s.vars = []) (hl : laidOutB P = true) (hr : (f.params.toList.all fun t => P.readableRec t && decide (t < P.types.size)) = true)
  (hW : DataW.Whole enc P f.params.toList s.vars apart W args.toList ds [] before)
  (hA : DataW.TrodAll enc P W 0 (fun _ => true) true f.params.toList args.toList ds before)
  (hargs : (s.fn H (ds ++ [])).args = ds) (hvars : (s.fn H (ds ++ [])).vars = [])
  (hres : ∀ (b : Nat) (sp : Nat → Bool) (hd : Bool), DataW.TrodAll enc P W' b sp hd f.resultTypes.toList (v.resultList f.resultTypes.size) (s.fn H (ds ++ [])).results [])
  (hb : Below W.heap.size W W') : s.post enc P f apart fresh handsOn false W args v W' := by
 have hlt : ∀ p ∈ before, p.block < W.heap.size := fun p hp => hW.lt p hp
 have hA' := trodAll_below (enc := enc) hl hb hr hA hlt
 refine ⟨ds, [], before, [], before, [], hW, hres _ _ _, ?_, ?_, World.keptBut_mono (fun p hp => ⟨hp, ?_⟩) (hb.frame (· ∈ before)), fun h => by cases h⟩
 ·rw [hargs]; exact hA'
 ·rw [hvars, hvars0]; exact rfl
 ·right; simpa using hp
end
end Go.Proofs.YtpjepheiagllgaaDoor.Frame
namespace Go.Proofs.YtpjepheiagllgaaDoor.Open
open Go.ChangeShapes Go.WideShapes Go.ChangeAt Go.RowKit Go.Joins Go.Proofs.YtpjepheiagllgaaDoor
set_option linter.unusedVariables false
set_option maxRecDepth 100000
section
variable {H : Type} {enc : TypeId × Value → H} {w : World} {base b0 : Nat} {spare : Nat → Bool} {held : Bool} {v : Value} {d : DataW H} {p : List MemPlace}
theorem cellsTx : Tryd.prog.cellsOf 9 = 1 := by kernel_rfl
structure IsTexts (w : World) (v : Value) : Prop where
 ex : ∃ (A : Option Addr) (c : Nat) (ss : List ByteArray), v = .slice A ss.length c ∧ ss.length ≤ 9223372036854775807 ∧ (∀ i, i < ss.length → (ss.getD i ByteArray.empty).size ≤ 9223372036854775807) ∧ LabM.RdT w w.heap.size A ss
theorem txts_of {fuel : Nat} {c0 : Value} {y : DataW H × List MemPlace} (hf : DataW.trod enc Tryd.prog w base (fun _ => true) held fuel 24 [c0] = some y) : IsTexts w c0 := by
 rcases Go.Deep.open_strs Tryd.underlying24 Tryd.underlying9 cellsTx hf with ⟨hcs, _⟩ | ⟨x, len, cap, m, Sx, hcs, _, hl, hm, hmm, _, hcell⟩
 ·simp at hcs
  subst hcs
  exact ⟨none, 0, [], rfl, by decide, fun i hi => absurd hi (Nat.not_lt_zero i), fun h => absurd h (by simp)⟩
 ·simp at hcs
  subst hcs
  simp only [if_true] at hmm
  unfold maxLen at hm hcell
  refine ⟨some x, cap, (List.range len).map Sx, by simp, by simp; omega, fun i hi => ?_, fun h0 => ?_⟩
  ·simp at hi
   have := (hcell i (by omega)).2
   simpa [List.getD, hi] using Nat.le_trans this (by omega)
  ·simp at h0
   obtain ⟨hs, hb⟩ := spot_of (hcell 0 (by omega)).1
   refine ⟨x.block, x.off, by cases x; simp_all, hb, fun i hi => ?_⟩
   simp at hi
   rw [← addr_add hs, (hcell i (by omega)).1]
   simp [List.getD, hi]
theorem texts (hv : Value.okWide Tryd.prog w .any b0 24 v) (h : DataW.Trod enc Tryd.prog w base (fun _ => true) held 24 v d p) : IsTexts w v := by
 obtain ⟨a, len, cap, rfl⟩ := okWide_slice Tryd.underlying24 hv
 obtain ⟨fuel, hf⟩ := h
 exact txts_of (by simpa [Value.cells] using hf)
structure IsText (w : World) (v : Value) : Prop where
 ex : ∃ s : ByteArray, v = .string s ∧ s.size ≤ 9223372036854775807
theorem string (hv : Value.okWide Tryd.prog w .any b0 9 v) (h : DataW.Trod enc Tryd.prog w base spare held 9 v d p) : IsText w v := by
 obtain ⟨s, rfl⟩ := okWide_string Tryd.underlying9 hv
 obtain ⟨fuel, hf⟩ := h
 obtain ⟨s', h, _, ws⟩ := DataW.trod_string Tryd.underlying9 hf
 simp [Value.cells] at h
 subst h
 exact ⟨s, rfl, by unfold maxLen at ws; omega⟩
end
end Go.Proofs.YtpjepheiagllgaaDoor.Open

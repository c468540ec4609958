/- The program: the bits of a source. -/
import Derived.Test.YtionognmgcabbaaGreatMgBes08
import Derived.Test.YtionognmgcabbaaGreatMgBes09
import Derived.Test.YtionognmgcabbaaGreatMgBes00
import Derived.Test.YtionognmgcabbaaGreatMgBes06
import Derived.Laws.IdiomCopy
import Derived.Laws.BitsAllLaws
import Derived.IntWalk
import Derived.Deep.Cut
namespace Go.Proofs.YtionognmgcabbaaGreat.Ratio
open Go.RowKit Go.Proofs.YtionognmgcabbaaGreat Go.Proofs.YtionognmgcabbaaGreat.Base Go.Proofs.YtionognmgcabbaaGreat.Mem Go.Proofs.YtionognmgcabbaaGreat.NatM Go.Proofs.YtionognmgcabbaaGreat.Nat32 Go.Proofs.YtionognmgcabbaaGreat.RatM Go.Proofs.YtionognmgcabbaaGreat.Blk Go.Proofs.YtionognmgcabbaaGreat.MemF Go.Proofs.YtionognmgcabbaaGreat.ChM Go.Proofs.YtionognmgcabbaaGreat.ValF Go.Proofs.YtionognmgcabbaaGreat.GaussM Go.Proofs.YtionognmgcabbaaGreat.Deg
set_option linter.unusedVariables false
theorem chB_range {fs : List Int} {n : Nat} (h : chB fs n = true) : 1 ≤ n ∧ n ≤ 16 := by
  simp only [chB, Bool.and_eq_true, decide_eq_true_eq] at h
  exact ⟨h.1, h.2.1⟩
/-- what is said of a source -/
def SrcRet (fs : List Int) (n : Nat) (w : World) (e : Ending) (w' : World) : Prop := ∃ d : Int, e = .returned (.tuple #[.int .i64 d, .bool (decide (bitsQ fs n ≠ 0))]) ∧ (bitsQ fs n ≠ 0 → d = ((bitsQ fs n : Nat) : Int)) ∧ Below w.heap.size w w'
theorem SrcRet.no {fs : List Int} {n : Nat} {w w' : World} {d : Int} (h : bitsQ fs n = 0) (hb : Below w.heap.size w w') : SrcRet fs n w (.returned (.tuple #[.int .i64 d, .bool false])) w' :=
  ⟨d, by rw [h]; rfl, fun h' => absurd h h', hb⟩
theorem SrcRet.yes {fs : List Int} {n k : Nat} {w w' : World} {d : Int} (h : bitsQ fs n = k) (hk : k ≠ 0) (hd : d = (k : Int)) (hb : Below w.heap.size w w') : SrcRet fs n w (.returned (.tuple #[.int .i64 d, .bool true])) w' :=
  ⟨d, by rw [h, decide_eq_true hk], fun _ => by rw [h]; exact hd, hb⟩
set_option maxHeartbeats 4000000 in
set_option maxRecDepth 100000 in
theorem src_any {A : Option Addr} {c B n : Nat} {fs : List Int} (w : World) (hx : RdF w B A n fs) (hB : B ≤ w.heap.size) (hn : n ≤ 1099511627776) : Calls Tryz.prog 124 #[.slice A n c] w (SrcRet fs n w) := by
  have HC := Lib.hid (fun W (h : Below w.heap.size w W) => areCh_any (c := c) W (hx.below h hB) (Nat.le_trans hB h.size) hn)
  have HL := Lib.hid (fun W => lenF_any A n c W (by omega))
  clear hx
  cases hc : chB fs n with
  | false =>
    rw [hc] at HC
    have HE : Hid (bitsQ fs n = 0) := Lib.hid (by unfold bitsQ; rw [hc]; rfl)
    have HD := Lib.hid (fun W => degree_of n (by omega) W)
    clear hc
    have hbl := bitLen_le n (by omega)
    generalize Lib.bitLen n = d at *
    go_enter Tryz.func124, Tryz.ntmps124
    go_wp2_with fail
    refine (HL.out _).mono ?_
    rintro e w1 ⟨rfl, rfl⟩
    go_wp2_with fail
    refine (HD.out _).mono ?_
    rintro e w1 ⟨rfl, rfl⟩
    go_wp2_with fail
    (refine wp_region_below (by kernel_rfl) (by kernel_rfl) ?_; (repeat (refine wpQuiet_step (fun K hK => ?_); go_simp; first | (refine hK _ ?_; clear hK K) | (apply Exists.intro; refine ⟨fun wq hq => ?_, hK _ ?_⟩; (first | rfl | (skip; first | (go_simp; done) | (go_simp; rfl) | (go_at_call 119; refine (HC.out _ hq).mono ?_; rintro e w1 ⟨rfl, hb1⟩; exact ⟨rfl, Base.Below.nextA hq hb1⟩))); clear hK K))); refine wpQuiet_nil ?_; intro wq hq)
    have HB := Lib.hid hq
    go_wp2
    go_ret2
    exact SrcRet.no HE.out HB.out
  | true =>
    obtain ⟨h1, h2⟩ := chB_range hc
    have HCH := Lib.hid hc
    rw [hc] at HC
    clear hc hn
    have h : n = 1 ∨ n = 2 ∨ n = 3 ∨ n = 4 ∨ n = 5 ∨ n = 6 ∨ n = 7 ∨ n = 8 ∨ n = 9 ∨ n = 10 ∨ n = 11 ∨ n = 12 ∨ n = 13 ∨ n = 14 ∨ n = 15 ∨ n = 16 := by omega
    rcases h with rfl | rfl | rfl | rfl | rfl | rfl | rfl | rfl | rfl | rfl | rfl | rfl | rfl | rfl | rfl | rfl
    · have HE : Hid (bitsQ fs 1 = 0) := Lib.hid (by unfold bitsQ; rw [if_pos HCH.out]; rfl)
      have e0 : ((Lib.bitLen 1 : Nat) : Int) - 1 = 0 := by decide
      have HD := Lib.hid (fun W => degree_of 1 (by decide) W)
      rw [e0] at HD
      clear e0
      go_enter Tryz.func124, Tryz.ntmps124
      go_wp2_with fail
      refine (HL.out _).mono ?_
      rintro e w1 ⟨rfl, rfl⟩
      go_wp2_with fail
      refine (HD.out _).mono ?_
      rintro e w1 ⟨rfl, rfl⟩
      go_wp2_with fail
      (refine wp_region_below (by kernel_rfl) (by kernel_rfl) ?_; (repeat (refine wpQuiet_step (fun K hK => ?_); go_simp; first | (refine hK _ ?_; clear hK K) | (apply Exists.intro; refine ⟨fun wq hq => ?_, hK _ ?_⟩; (first | rfl | (skip; first | (go_simp; done) | (go_simp; rfl) | (go_at_call 119; refine (HC.out _ hq).mono ?_; rintro e w1 ⟨rfl, hb1⟩; exact ⟨rfl, Base.Below.nextA hq hb1⟩))); clear hK K))); refine wpQuiet_nil ?_; intro wq hq)
      have HB := Lib.hid hq
      go_wp2
      go_ret2
      first | exact SrcRet.no HE.out HB.out | exact SrcRet.yes HE.out (by decide) rfl HB.out
    · have HE : Hid (bitsQ fs 2 = 1) := Lib.hid (by unfold bitsQ; rw [if_pos HCH.out]; rfl)
      have e0 : ((Lib.bitLen 2 : Nat) : Int) - 1 = 1 := by decide
      have HD := Lib.hid (fun W => degree_of 2 (by decide) W)
      rw [e0] at HD
      clear e0
      go_enter Tryz.func124, Tryz.ntmps124
      go_wp2_with fail
      refine (HL.out _).mono ?_
      rintro e w1 ⟨rfl, rfl⟩
      go_wp2_with fail
      refine (HD.out _).mono ?_
      rintro e w1 ⟨rfl, rfl⟩
      go_wp2_with fail
      (refine wp_region_below (by kernel_rfl) (by kernel_rfl) ?_; (repeat (refine wpQuiet_step (fun K hK => ?_); go_simp; first | (refine hK _ ?_; clear hK K) | (apply Exists.intro; refine ⟨fun wq hq => ?_, hK _ ?_⟩; (first | rfl | (skip; first | (go_simp; done) | (go_simp; rfl) | (go_at_call 119; refine (HC.out _ hq).mono ?_; rintro e w1 ⟨rfl, hb1⟩; exact ⟨rfl, Base.Below.nextA hq hb1⟩))); clear hK K))); refine wpQuiet_nil ?_; intro wq hq)
      have HB := Lib.hid hq
      go_wp2
      go_ret2
      first | exact SrcRet.no HE.out HB.out | exact SrcRet.yes HE.out (by decide) rfl HB.out
    · have HE : Hid (bitsQ fs 3 = 0) := Lib.hid (by unfold bitsQ; rw [if_pos HCH.out]; rfl)
      have e0 : ((Lib.bitLen 3 : Nat) : Int) - 1 = 1 := by decide
      have HD := Lib.hid (fun W => degree_of 3 (by decide) W)
      rw [e0] at HD
      clear e0
      go_enter Tryz.func124, Tryz.ntmps124
      go_wp2_with fail
      refine (HL.out _).mono ?_
      rintro e w1 ⟨rfl, rfl⟩
      go_wp2_with fail
      refine (HD.out _).mono ?_
      rintro e w1 ⟨rfl, rfl⟩
      go_wp2_with fail
      (refine wp_region_below (by kernel_rfl) (by kernel_rfl) ?_; (repeat (refine wpQuiet_step (fun K hK => ?_); go_simp; first | (refine hK _ ?_; clear hK K) | (apply Exists.intro; refine ⟨fun wq hq => ?_, hK _ ?_⟩; (first | rfl | (skip; first | (go_simp; done) | (go_simp; rfl) | (go_at_call 119; refine (HC.out _ hq).mono ?_; rintro e w1 ⟨rfl, hb1⟩; exact ⟨rfl, Base.Below.nextA hq hb1⟩))); clear hK K))); refine wpQuiet_nil ?_; intro wq hq)
      have HB := Lib.hid hq
      go_wp2
      go_ret2
      first | exact SrcRet.no HE.out HB.out | exact SrcRet.yes HE.out (by decide) rfl HB.out
    · have HE : Hid (bitsQ fs 4 = 2) := Lib.hid (by unfold bitsQ; rw [if_pos HCH.out]; rfl)
      have e0 : ((Lib.bitLen 4 : Nat) : Int) - 1 = 2 := by decide
      have HD := Lib.hid (fun W => degree_of 4 (by decide) W)
      rw [e0] at HD
      clear e0
      go_enter Tryz.func124, Tryz.ntmps124
      go_wp2_with fail
      refine (HL.out _).mono ?_
      rintro e w1 ⟨rfl, rfl⟩
      go_wp2_with fail
      refine (HD.out _).mono ?_
      rintro e w1 ⟨rfl, rfl⟩
      go_wp2_with fail
      (refine wp_region_below (by kernel_rfl) (by kernel_rfl) ?_; (repeat (refine wpQuiet_step (fun K hK => ?_); go_simp; first | (refine hK _ ?_; clear hK K) | (apply Exists.intro; refine ⟨fun wq hq => ?_, hK _ ?_⟩; (first | rfl | (skip; first | (go_simp; done) | (go_simp; rfl) | (go_at_call 119; refine (HC.out _ hq).mono ?_; rintro e w1 ⟨rfl, hb1⟩; exact ⟨rfl, Base.Below.nextA hq hb1⟩))); clear hK K))); refine wpQuiet_nil ?_; intro wq hq)
      have HB := Lib.hid hq
      go_wp2
      go_ret2
      first | exact SrcRet.no HE.out HB.out | exact SrcRet.yes HE.out (by decide) rfl HB.out
    · have HE : Hid (bitsQ fs 5 = 0) := Lib.hid (by unfold bitsQ; rw [if_pos HCH.out]; rfl)
      have e0 : ((Lib.bitLen 5 : Nat) : Int) - 1 = 2 := by decide
      have HD := Lib.hid (fun W => degree_of 5 (by decide) W)
      rw [e0] at HD
      clear e0
      go_enter Tryz.func124, Tryz.ntmps124
      go_wp2_with fail
      refine (HL.out _).mono ?_
      rintro e w1 ⟨rfl, rfl⟩
      go_wp2_with fail
      refine (HD.out _).mono ?_
      rintro e w1 ⟨rfl, rfl⟩
      go_wp2_with fail
      (refine wp_region_below (by kernel_rfl) (by kernel_rfl) ?_; (repeat (refine wpQuiet_step (fun K hK => ?_); go_simp; first | (refine hK _ ?_; clear hK K) | (apply Exists.intro; refine ⟨fun wq hq => ?_, hK _ ?_⟩; (first | rfl | (skip; first | (go_simp; done) | (go_simp; rfl) | (go_at_call 119; refine (HC.out _ hq).mono ?_; rintro e w1 ⟨rfl, hb1⟩; exact ⟨rfl, Base.Below.nextA hq hb1⟩))); clear hK K))); refine wpQuiet_nil ?_; intro wq hq)
      have HB := Lib.hid hq
      go_wp2
      go_ret2
      first | exact SrcRet.no HE.out HB.out | exact SrcRet.yes HE.out (by decide) rfl HB.out
    · have HE : Hid (bitsQ fs 6 = 0) := Lib.hid (by unfold bitsQ; rw [if_pos HCH.out]; rfl)
      have e0 : ((Lib.bitLen 6 : Nat) : Int) - 1 = 2 := by decide
      have HD := Lib.hid (fun W => degree_of 6 (by decide) W)
      rw [e0] at HD
      clear e0
      go_enter Tryz.func124, Tryz.ntmps124
      go_wp2_with fail
      refine (HL.out _).mono ?_
      rintro e w1 ⟨rfl, rfl⟩
      go_wp2_with fail
      refine (HD.out _).mono ?_
      rintro e w1 ⟨rfl, rfl⟩
      go_wp2_with fail
      (refine wp_region_below (by kernel_rfl) (by kernel_rfl) ?_; (repeat (refine wpQuiet_step (fun K hK => ?_); go_simp; first | (refine hK _ ?_; clear hK K) | (apply Exists.intro; refine ⟨fun wq hq => ?_, hK _ ?_⟩; (first | rfl | (skip; first | (go_simp; done) | (go_simp; rfl) | (go_at_call 119; refine (HC.out _ hq).mono ?_; rintro e w1 ⟨rfl, hb1⟩; exact ⟨rfl, Base.Below.nextA hq hb1⟩))); clear hK K))); refine wpQuiet_nil ?_; intro wq hq)
      have HB := Lib.hid hq
      go_wp2
      go_ret2
      first | exact SrcRet.no HE.out HB.out | exact SrcRet.yes HE.out (by decide) rfl HB.out
    · have HE : Hid (bitsQ fs 7 = 0) := Lib.hid (by unfold bitsQ; rw [if_pos HCH.out]; rfl)
      have e0 : ((Lib.bitLen 7 : Nat) : Int) - 1 = 2 := by decide
      have HD := Lib.hid (fun W => degree_of 7 (by decide) W)
      rw [e0] at HD
      clear e0
      go_enter Tryz.func124, Tryz.ntmps124
      go_wp2_with fail
      refine (HL.out _).mono ?_
      rintro e w1 ⟨rfl, rfl⟩
      go_wp2_with fail
      refine (HD.out _).mono ?_
      rintro e w1 ⟨rfl, rfl⟩
      go_wp2_with fail
      (refine wp_region_below (by kernel_rfl) (by kernel_rfl) ?_; (repeat (refine wpQuiet_step (fun K hK => ?_); go_simp; first | (refine hK _ ?_; clear hK K) | (apply Exists.intro; refine ⟨fun wq hq => ?_, hK _ ?_⟩; (first | rfl | (skip; first | (go_simp; done) | (go_simp; rfl) | (go_at_call 119; refine (HC.out _ hq).mono ?_; rintro e w1 ⟨rfl, hb1⟩; exact ⟨rfl, Base.Below.nextA hq hb1⟩))); clear hK K))); refine wpQuiet_nil ?_; intro wq hq)
      have HB := Lib.hid hq
      go_wp2
      go_ret2
      first | exact SrcRet.no HE.out HB.out | exact SrcRet.yes HE.out (by decide) rfl HB.out
    · have HE : Hid (bitsQ fs 8 = 3) := Lib.hid (by unfold bitsQ; rw [if_pos HCH.out]; rfl)
      have e0 : ((Lib.bitLen 8 : Nat) : Int) - 1 = 3 := by decide
      have HD := Lib.hid (fun W => degree_of 8 (by decide) W)
      rw [e0] at HD
      clear e0
      go_enter Tryz.func124, Tryz.ntmps124
      go_wp2_with fail
      refine (HL.out _).mono ?_
      rintro e w1 ⟨rfl, rfl⟩
      go_wp2_with fail
      refine (HD.out _).mono ?_
      rintro e w1 ⟨rfl, rfl⟩
      go_wp2_with fail
      (refine wp_region_below (by kernel_rfl) (by kernel_rfl) ?_; (repeat (refine wpQuiet_step (fun K hK => ?_); go_simp; first | (refine hK _ ?_; clear hK K) | (apply Exists.intro; refine ⟨fun wq hq => ?_, hK _ ?_⟩; (first | rfl | (skip; first | (go_simp; done) | (go_simp; rfl) | (go_at_call 119; refine (HC.out _ hq).mono ?_; rintro e w1 ⟨rfl, hb1⟩; exact ⟨rfl, Base.Below.nextA hq hb1⟩))); clear hK K))); refine wpQuiet_nil ?_; intro wq hq)
      have HB := Lib.hid hq
      go_wp2
      go_ret2
      first | exact SrcRet.no HE.out HB.out | exact SrcRet.yes HE.out (by decide) rfl HB.out
    · have HE : Hid (bitsQ fs 9 = 0) := Lib.hid (by unfold bitsQ; rw [if_pos HCH.out]; rfl)
      have e0 : ((Lib.bitLen 9 : Nat) : Int) - 1 = 3 := by decide
      have HD := Lib.hid (fun W => degree_of 9 (by decide) W)
      rw [e0] at HD
      clear e0
      go_enter Tryz.func124, Tryz.ntmps124
      go_wp2_with fail
      refine (HL.out _).mono ?_
      rintro e w1 ⟨rfl, rfl⟩
      go_wp2_with fail
      refine (HD.out _).mono ?_
      rintro e w1 ⟨rfl, rfl⟩
      go_wp2_with fail
      (refine wp_region_below (by kernel_rfl) (by kernel_rfl) ?_; (repeat (refine wpQuiet_step (fun K hK => ?_); go_simp; first | (refine hK _ ?_; clear hK K) | (apply Exists.intro; refine ⟨fun wq hq => ?_, hK _ ?_⟩; (first | rfl | (skip; first | (go_simp; done) | (go_simp; rfl) | (go_at_call 119; refine (HC.out _ hq).mono ?_; rintro e w1 ⟨rfl, hb1⟩; exact ⟨rfl, Base.Below.nextA hq hb1⟩))); clear hK K))); refine wpQuiet_nil ?_; intro wq hq)
      have HB := Lib.hid hq
      go_wp2
      go_ret2
      first | exact SrcRet.no HE.out HB.out | exact SrcRet.yes HE.out (by decide) rfl HB.out
    · have HE : Hid (bitsQ fs 10 = 0) := Lib.hid (by unfold bitsQ; rw [if_pos HCH.out]; rfl)
      have e0 : ((Lib.bitLen 10 : Nat) : Int) - 1 = 3 := by decide
      have HD := Lib.hid (fun W => degree_of 10 (by decide) W)
      rw [e0] at HD
      clear e0
      go_enter Tryz.func124, Tryz.ntmps124
      go_wp2_with fail
      refine (HL.out _).mono ?_
      rintro e w1 ⟨rfl, rfl⟩
      go_wp2_with fail
      refine (HD.out _).mono ?_
      rintro e w1 ⟨rfl, rfl⟩
      go_wp2_with fail
      (refine wp_region_below (by kernel_rfl) (by kernel_rfl) ?_; (repeat (refine wpQuiet_step (fun K hK => ?_); go_simp; first | (refine hK _ ?_; clear hK K) | (apply Exists.intro; refine ⟨fun wq hq => ?_, hK _ ?_⟩; (first | rfl | (skip; first | (go_simp; done) | (go_simp; rfl) | (go_at_call 119; refine (HC.out _ hq).mono ?_; rintro e w1 ⟨rfl, hb1⟩; exact ⟨rfl, Base.Below.nextA hq hb1⟩))); clear hK K))); refine wpQuiet_nil ?_; intro wq hq)
      have HB := Lib.hid hq
      go_wp2
      go_ret2
      first | exact SrcRet.no HE.out HB.out | exact SrcRet.yes HE.out (by decide) rfl HB.out
    · have HE : Hid (bitsQ fs 11 = 0) := Lib.hid (by unfold bitsQ; rw [if_pos HCH.out]; rfl)
      have e0 : ((Lib.bitLen 11 : Nat) : Int) - 1 = 3 := by decide
      have HD := Lib.hid (fun W => degree_of 11 (by decide) W)
      rw [e0] at HD
      clear e0
      go_enter Tryz.func124, Tryz.ntmps124
      go_wp2_with fail
      refine (HL.out _).mono ?_
      rintro e w1 ⟨rfl, rfl⟩
      go_wp2_with fail
      refine (HD.out _).mono ?_
      rintro e w1 ⟨rfl, rfl⟩
      go_wp2_with fail
      (refine wp_region_below (by kernel_rfl) (by kernel_rfl) ?_; (repeat (refine wpQuiet_step (fun K hK => ?_); go_simp; first | (refine hK _ ?_; clear hK K) | (apply Exists.intro; refine ⟨fun wq hq => ?_, hK _ ?_⟩; (first | rfl | (skip; first | (go_simp; done) | (go_simp; rfl) | (go_at_call 119; refine (HC.out _ hq).mono ?_; rintro e w1 ⟨rfl, hb1⟩; exact ⟨rfl, Base.Below.nextA hq hb1⟩))); clear hK K))); refine wpQuiet_nil ?_; intro wq hq)
      have HB := Lib.hid hq
      go_wp2
      go_ret2
      first | exact SrcRet.no HE.out HB.out | exact SrcRet.yes HE.out (by decide) rfl HB.out
    · have HE : Hid (bitsQ fs 12 = 0) := Lib.hid (by unfold bitsQ; rw [if_pos HCH.out]; rfl)
      have e0 : ((Lib.bitLen 12 : Nat) : Int) - 1 = 3 := by decide
      have HD := Lib.hid (fun W => degree_of 12 (by decide) W)
      rw [e0] at HD
      clear e0
      go_enter Tryz.func124, Tryz.ntmps124
      go_wp2_with fail
      refine (HL.out _).mono ?_
      rintro e w1 ⟨rfl, rfl⟩
      go_wp2_with fail
      refine (HD.out _).mono ?_
      rintro e w1 ⟨rfl, rfl⟩
      go_wp2_with fail
      (refine wp_region_below (by kernel_rfl) (by kernel_rfl) ?_; (repeat (refine wpQuiet_step (fun K hK => ?_); go_simp; first | (refine hK _ ?_; clear hK K) | (apply Exists.intro; refine ⟨fun wq hq => ?_, hK _ ?_⟩; (first | rfl | (skip; first | (go_simp; done) | (go_simp; rfl) | (go_at_call 119; refine (HC.out _ hq).mono ?_; rintro e w1 ⟨rfl, hb1⟩; exact ⟨rfl, Base.Below.nextA hq hb1⟩))); clear hK K))); refine wpQuiet_nil ?_; intro wq hq)
      have HB := Lib.hid hq
      go_wp2
      go_ret2
      first | exact SrcRet.no HE.out HB.out | exact SrcRet.yes HE.out (by decide) rfl HB.out
    · have HE : Hid (bitsQ fs 13 = 0) := Lib.hid (by unfold bitsQ; rw [if_pos HCH.out]; rfl)
      have e0 : ((Lib.bitLen 13 : Nat) : Int) - 1 = 3 := by decide
      have HD := Lib.hid (fun W => degree_of 13 (by decide) W)
      rw [e0] at HD
      clear e0
      go_enter Tryz.func124, Tryz.ntmps124
      go_wp2_with fail
      refine (HL.out _).mono ?_
      rintro e w1 ⟨rfl, rfl⟩
      go_wp2_with fail
      refine (HD.out _).mono ?_
      rintro e w1 ⟨rfl, rfl⟩
      go_wp2_with fail
      (refine wp_region_below (by kernel_rfl) (by kernel_rfl) ?_; (repeat (refine wpQuiet_step (fun K hK => ?_); go_simp; first | (refine hK _ ?_; clear hK K) | (apply Exists.intro; refine ⟨fun wq hq => ?_, hK _ ?_⟩; (first | rfl | (skip; first | (go_simp; done) | (go_simp; rfl) | (go_at_call 119; refine (HC.out _ hq).mono ?_; rintro e w1 ⟨rfl, hb1⟩; exact ⟨rfl, Base.Below.nextA hq hb1⟩))); clear hK K))); refine wpQuiet_nil ?_; intro wq hq)
      have HB := Lib.hid hq
      go_wp2
      go_ret2
      first | exact SrcRet.no HE.out HB.out | exact SrcRet.yes HE.out (by decide) rfl HB.out
    · have HE : Hid (bitsQ fs 14 = 0) := Lib.hid (by unfold bitsQ; rw [if_pos HCH.out]; rfl)
      have e0 : ((Lib.bitLen 14 : Nat) : Int) - 1 = 3 := by decide
      have HD := Lib.hid (fun W => degree_of 14 (by decide) W)
      rw [e0] at HD
      clear e0
      go_enter Tryz.func124, Tryz.ntmps124
      go_wp2_with fail
      refine (HL.out _).mono ?_
      rintro e w1 ⟨rfl, rfl⟩
      go_wp2_with fail
      refine (HD.out _).mono ?_
      rintro e w1 ⟨rfl, rfl⟩
      go_wp2_with fail
      (refine wp_region_below (by kernel_rfl) (by kernel_rfl) ?_; (repeat (refine wpQuiet_step (fun K hK => ?_); go_simp; first | (refine hK _ ?_; clear hK K) | (apply Exists.intro; refine ⟨fun wq hq => ?_, hK _ ?_⟩; (first | rfl | (skip; first | (go_simp; done) | (go_simp; rfl) | (go_at_call 119; refine (HC.out _ hq).mono ?_; rintro e w1 ⟨rfl, hb1⟩; exact ⟨rfl, Base.Below.nextA hq hb1⟩))); clear hK K))); refine wpQuiet_nil ?_; intro wq hq)
      have HB := Lib.hid hq
      go_wp2
      go_ret2
      first | exact SrcRet.no HE.out HB.out | exact SrcRet.yes HE.out (by decide) rfl HB.out
    · have HE : Hid (bitsQ fs 15 = 0) := Lib.hid (by unfold bitsQ; rw [if_pos HCH.out]; rfl)
      have e0 : ((Lib.bitLen 15 : Nat) : Int) - 1 = 3 := by decide
      have HD := Lib.hid (fun W => degree_of 15 (by decide) W)
      rw [e0] at HD
      clear e0
      go_enter Tryz.func124, Tryz.ntmps124
      go_wp2_with fail
      refine (HL.out _).mono ?_
      rintro e w1 ⟨rfl, rfl⟩
      go_wp2_with fail
      refine (HD.out _).mono ?_
      rintro e w1 ⟨rfl, rfl⟩
      go_wp2_with fail
      (refine wp_region_below (by kernel_rfl) (by kernel_rfl) ?_; (repeat (refine wpQuiet_step (fun K hK => ?_); go_simp; first | (refine hK _ ?_; clear hK K) | (apply Exists.intro; refine ⟨fun wq hq => ?_, hK _ ?_⟩; (first | rfl | (skip; first | (go_simp; done) | (go_simp; rfl) | (go_at_call 119; refine (HC.out _ hq).mono ?_; rintro e w1 ⟨rfl, hb1⟩; exact ⟨rfl, Base.Below.nextA hq hb1⟩))); clear hK K))); refine wpQuiet_nil ?_; intro wq hq)
      have HB := Lib.hid hq
      go_wp2
      go_ret2
      first | exact SrcRet.no HE.out HB.out | exact SrcRet.yes HE.out (by decide) rfl HB.out
    · have HE : Hid (bitsQ fs 16 = 4) := Lib.hid (by unfold bitsQ; rw [if_pos HCH.out]; rfl)
      have e0 : ((Lib.bitLen 16 : Nat) : Int) - 1 = 4 := by decide
      have HD := Lib.hid (fun W => degree_of 16 (by decide) W)
      rw [e0] at HD
      clear e0
      go_enter Tryz.func124, Tryz.ntmps124
      go_wp2_with fail
      refine (HL.out _).mono ?_
      rintro e w1 ⟨rfl, rfl⟩
      go_wp2_with fail
      refine (HD.out _).mono ?_
      rintro e w1 ⟨rfl, rfl⟩
      go_wp2_with fail
      (refine wp_region_below (by kernel_rfl) (by kernel_rfl) ?_; (repeat (refine wpQuiet_step (fun K hK => ?_); go_simp; first | (refine hK _ ?_; clear hK K) | (apply Exists.intro; refine ⟨fun wq hq => ?_, hK _ ?_⟩; (first | rfl | (skip; first | (go_simp; done) | (go_simp; rfl) | (go_at_call 119; refine (HC.out _ hq).mono ?_; rintro e w1 ⟨rfl, hb1⟩; exact ⟨rfl, Base.Below.nextA hq hb1⟩))); clear hK K))); refine wpQuiet_nil ?_; intro wq hq)
      have HB := Lib.hid hq
      go_wp2
      go_ret2
      first | exact SrcRet.no HE.out HB.out | exact SrcRet.yes HE.out (by decide) rfl HB.out
/-- whether rows are some for a source -/
def isE (xs fs : List Int) (n : Nat) : Bool := decide (bitsQ fs n ≠ 0) && (inR (xs.length : Int) 1 3 && AllIn.allInB xs 0 ((2 ^ bitsQ fs n : Nat) - 1 : Int))
set_option maxHeartbeats 4000000 in
set_option maxRecDepth 100000 in
theorem isE_any {A A' : Option Addr} {c c' B B' n : Nat} {fs xs : List Int} (w : World) (hx : RdF w B A n fs) (hB : B ≤ w.heap.size) (hn : n ≤ 1099511627776) (hy : RdI w B' A' xs) (hB' : B' ≤ w.heap.size) (hm : xs.length ≤ 9223372036854775807) :
    Calls Tryz.prog 59 #[.slice A' xs.length c', .slice A n c] w fun e w' => e = .returned (.bool (isE xs fs n)) ∧ Below w.heap.size w w' := by
  have HS := Lib.hid (src_any (c := c) w hx hB hn)
  have HL := Lib.hid (fun W => AllIn.lenI_any A' xs.length c' W hm)
  clear hx
  have hb4 := bitsQ_le fs n
  have h : bitsQ fs n = 0 ∨ bitsQ fs n = 1 ∨ bitsQ fs n = 2 ∨ bitsQ fs n = 3 ∨ bitsQ fs n = 4 := by omega
  rcases h with h | h | h | h | h
  · have HE : Hid (isE xs fs n = false) := Lib.hid (by unfold isE; rw [h]; rfl)
    have HK := Lib.hid h
    clear h hb4
    go_enter Tryz.func59, Tryz.ntmps59
    go_wp2_with fail
    refine HS.out.mono ?_
    rintro e w1 ⟨d, rfl, hd, hb1⟩
    have HB1 := Lib.hid hb1
    rw [HK.out] at *
    clear hd hb1
    go_wp2
    go_ret
    exact ⟨by rw [HE.out]; rfl, HB1.out⟩
  · have HE : Hid (isE xs fs n = (inR (xs.length : Int) 1 3 && AllIn.allInB xs 0 (2 - 1))) := Lib.hid (by unfold isE; rw [h]; rfl)
    have HK := Lib.hid h
    clear h hb4
    · have HI := Lib.hid (fun W (h : Below w.heap.size w W) => AllIn.allIn_any A' c' B' xs 0 (2 - 1) W (hy.below h hB') (Nat.le_trans hB' h.size) hm)
      clear hy
      go_enter Tryz.func59, Tryz.ntmps59
      go_wp2_with fail
      refine HS.out.mono ?_
      rintro e w1 ⟨d, rfl, hd, hb1⟩
      have HB1 := Lib.hid hb1
      rw [HK.out] at hd
      obtain rfl := hd (by decide)
      rw [HK.out] at *
      clear hd hb1
      go_wp2_with fail
      refine (HL.out _).mono ?_
      rintro e w2 ⟨rfl, rfl⟩
      go_wp2_with fail
      refine (inRange_any _ _ _ _).mono ?_
      rintro e w2 ⟨rfl, rfl⟩
      cases hr : inR (xs.length : Int) 1 3 with
      | false =>
        rw [hr] at HE
        go_wp2
        go_ret
        exact ⟨ret_bool HE.out.symm, HB1.out⟩
      | true =>
        rw [hr] at HE
        go_wp2_with fail
        refine (HI.out _ HB1.out).mono ?_
        rintro e w2 ⟨rfl, hb2⟩
        have HB2 := Lib.hid (Base.Below.nextA HB1.out hb2)
        clear hb2
        go_wp2
        go_ret
        exact ⟨ret_bool HE.out.symm, HB2.out⟩
  · have HE : Hid (isE xs fs n = (inR (xs.length : Int) 1 3 && AllIn.allInB xs 0 (4 - 1))) := Lib.hid (by unfold isE; rw [h]; rfl)
    have HK := Lib.hid h
    clear h hb4
    · have HI := Lib.hid (fun W (h : Below w.heap.size w W) => AllIn.allIn_any A' c' B' xs 0 (4 - 1) W (hy.below h hB') (Nat.le_trans hB' h.size) hm)
      clear hy
      go_enter Tryz.func59, Tryz.ntmps59
      go_wp2_with fail
      refine HS.out.mono ?_
      rintro e w1 ⟨d, rfl, hd, hb1⟩
      have HB1 := Lib.hid hb1
      rw [HK.out] at hd
      obtain rfl := hd (by decide)
      rw [HK.out] at *
      clear hd hb1
      go_wp2_with fail
      refine (HL.out _).mono ?_
      rintro e w2 ⟨rfl, rfl⟩
      go_wp2_with fail
      refine (inRange_any _ _ _ _).mono ?_
      rintro e w2 ⟨rfl, rfl⟩
      cases hr : inR (xs.length : Int) 1 3 with
      | false =>
        rw [hr] at HE
        go_wp2
        go_ret
        exact ⟨ret_bool HE.out.symm, HB1.out⟩
      | true =>
        rw [hr] at HE
        go_wp2_with fail
        refine (HI.out _ HB1.out).mono ?_
        rintro e w2 ⟨rfl, hb2⟩
        have HB2 := Lib.hid (Base.Below.nextA HB1.out hb2)
        clear hb2
        go_wp2
        go_ret
        exact ⟨ret_bool HE.out.symm, HB2.out⟩
  · have HE : Hid (isE xs fs n = (inR (xs.length : Int) 1 3 && AllIn.allInB xs 0 (8 - 1))) := Lib.hid (by unfold isE; rw [h]; rfl)
    have HK := Lib.hid h
    clear h hb4
    · have HI := Lib.hid (fun W (h : Below w.heap.size w W) => AllIn.allIn_any A' c' B' xs 0 (8 - 1) W (hy.below h hB') (Nat.le_trans hB' h.size) hm)
      clear hy
      go_enter Tryz.func59, Tryz.ntmps59
      go_wp2_with fail
      refine HS.out.mono ?_
      rintro e w1 ⟨d, rfl, hd, hb1⟩
      have HB1 := Lib.hid hb1
      rw [HK.out] at hd
      obtain rfl := hd (by decide)
      rw [HK.out] at *
      clear hd hb1
      go_wp2_with fail
      refine (HL.out _).mono ?_
      rintro e w2 ⟨rfl, rfl⟩
      go_wp2_with fail
      refine (inRange_any _ _ _ _).mono ?_
      rintro e w2 ⟨rfl, rfl⟩
      cases hr : inR (xs.length : Int) 1 3 with
      | false =>
        rw [hr] at HE
        go_wp2
        go_ret
        exact ⟨ret_bool HE.out.symm, HB1.out⟩
      | true =>
        rw [hr] at HE
        go_wp2_with fail
        refine (HI.out _ HB1.out).mono ?_
        rintro e w2 ⟨rfl, hb2⟩
        have HB2 := Lib.hid (Base.Below.nextA HB1.out hb2)
        clear hb2
        go_wp2
        go_ret
        exact ⟨ret_bool HE.out.symm, HB2.out⟩
  · have HE : Hid (isE xs fs n = (inR (xs.length : Int) 1 3 && AllIn.allInB xs 0 (16 - 1))) := Lib.hid (by unfold isE; rw [h]; rfl)
    have HK := Lib.hid h
    clear h hb4
    · have HI := Lib.hid (fun W (h : Below w.heap.size w W) => AllIn.allIn_any A' c' B' xs 0 (16 - 1) W (hy.below h hB') (Nat.le_trans hB' h.size) hm)
      clear hy
      go_enter Tryz.func59, Tryz.ntmps59
      go_wp2_with fail
      refine HS.out.mono ?_
      rintro e w1 ⟨d, rfl, hd, hb1⟩
      have HB1 := Lib.hid hb1
      rw [HK.out] at hd
      obtain rfl := hd (by decide)
      rw [HK.out] at *
      clear hd hb1
      go_wp2_with fail
      refine (HL.out _).mono ?_
      rintro e w2 ⟨rfl, rfl⟩
      go_wp2_with fail
      refine (inRange_any _ _ _ _).mono ?_
      rintro e w2 ⟨rfl, rfl⟩
      cases hr : inR (xs.length : Int) 1 3 with
      | false =>
        rw [hr] at HE
        go_wp2
        go_ret
        exact ⟨ret_bool HE.out.symm, HB1.out⟩
      | true =>
        rw [hr] at HE
        go_wp2_with fail
        refine (HI.out _ HB1.out).mono ?_
        rintro e w2 ⟨rfl, hb2⟩
        have HB2 := Lib.hid (Base.Below.nextA HB1.out hb2)
        clear hb2
        go_wp2
        go_ret
        exact ⟨ret_bool HE.out.symm, HB2.out⟩
end Go.Proofs.YtionognmgcabbaaGreat.Ratio
/- Plain: what is known where rows are some for a source. -/
namespace Go.Proofs.YtionognmgcabbaaGreat.ExtM
open Go.RowKit Go.Proofs.YtionognmgcabbaaGreat Go.Proofs.YtionognmgcabbaaGreat.Base Go.Proofs.YtionognmgcabbaaGreat.RatM Go.Proofs.YtionognmgcabbaaGreat.GaussM Go.Proofs.YtionognmgcabbaaGreat.ChM Go.Proofs.YtionognmgcabbaaGreat.RowN Go.Proofs.YtionognmgcabbaaGreat.Ratio Go.Proofs.YtionognmgcabbaaGreat.GiveM
set_option linter.unusedVariables false
theorem chB_all {fs : List Int} {n : Nat} (h : chB fs n = true) : AllVF fs n := by
  unfold chB at h
  simp only [Bool.and_eq_true] at h
  exact vfAll_true.1 h.2.2.1
theorem isE_true {xs fs : List Int} {n : Nat} (h : isE xs fs n = true) : AllVF fs n ∧ n ≤ 16 ∧ 1 ≤ xs.length ∧ xs.length ≤ 3 ∧ (∀ i, i < xs.length → 0 ≤ xs.getD i 0 ∧ xs.getD i 0 ≤ 15) ∧ bitsQ fs n ≠ 0 ∧ inR (xs.length : Int) 1 3 = true ∧ AllIn.allInB xs 0 ((2 ^ bitsQ fs n : Nat) - 1 : Int) = true := by
  unfold isE at h
  simp only [Bool.and_eq_true, decide_eq_true_eq] at h
  obtain ⟨h1, h2, h3⟩ := h
  obtain ⟨g1, g2, g3⟩ := bitsQ_pos h1
  have h4 := bitsQ_le fs n
  have h5 := inR_true h2
  refine ⟨chB_all g1, (chB_range g1).2, by omega, by omega, fun i hi => ?_, h1, h2, h3⟩
  have h6 := AllIn.allInB_true h3 i hi
  have h7 : (2 : Nat) ^ bitsQ fs n ≤ 2 ^ 4 := Nat.pow_le_pow_right (by decide) h4
  refine ⟨h6.1, Int.le_trans h6.2 ?_⟩
  omega
/-- what is returned -/
def extN (xs fs : List Int) (n : Nat) : Nat := if isE xs fs n then gN (exQ xs fs n) (2 ^ xs.length) else 0
def extR (xs fs : List Int) (n : Nat) : List Int := if isE xs fs n then gR (exQ xs fs n) (2 ^ xs.length) else []
def extB (xs fs : List Int) (n : Nat) : Bool := if isE xs fs n then smallAll (exQ xs fs n) (2 ^ xs.length) else false
theorem pow_len {k : Nat} (h : k ≤ 3) : 2 ^ k ≤ 8 := Nat.pow_le_pow_right (n := 2) (by decide) h
theorem extN_le (xs fs : List Int) (n : Nat) : extN xs fs n ≤ 8 := by
  unfold extN
  split
  · rename_i h
    obtain ⟨_, _, _, h3, _⟩ := isE_true h
    exact Nat.le_trans (gN_le _ _) (pow_len h3)
  · omega
theorem ext_yes {xs fs : List Int} {n : Nat} (h : isE xs fs n = true) : extN xs fs n = gN (exQ xs fs n) (2 ^ xs.length) ∧ extR xs fs n = gR (exQ xs fs n) (2 ^ xs.length) ∧ extB xs fs n = smallAll (exQ xs fs n) (2 ^ xs.length) := by
  unfold extN extR extB
  simp only [h, if_true, and_self]
theorem ext_no {xs fs : List Int} {n : Nat} (h : isE xs fs n = false) : extN xs fs n = 0 ∧ extR xs fs n = [] ∧ extB xs fs n = false := by
  unfold extN extR extB
  simp [h]
end Go.Proofs.YtionognmgcabbaaGreat.ExtM
/- Plain: how far what rows make of a source is from equal chances; its size. -/
namespace Go.Proofs.YtionognmgcabbaaGreat.Ratio
open Go.RowKit Go.Proofs.YtionognmgcabbaaGreat Go.Proofs.YtionognmgcabbaaGreat.Base Go.Proofs.YtionognmgcabbaaGreat.Mem Go.Proofs.YtionognmgcabbaaGreat.NatM Go.Proofs.YtionognmgcabbaaGreat.Nat32 Go.Proofs.YtionognmgcabbaaGreat.RatM Go.Proofs.YtionognmgcabbaaGreat.GaussM Go.Proofs.YtionognmgcabbaaGreat.ChM Go.Proofs.YtionognmgcabbaaGreat.ExtM Go.Proofs.YtionognmgcabbaaGreat.RowN
set_option linter.unusedVariables false
theorem vf_even {N : Nat} (h1 : 1 ≤ N) (h2 : N ≤ 1000) : VF 1 (N : Int) := ⟨by omega, by omega, by decide, by decide, by simp⟩
theorem even_num {N : Nat} (h1 : 1 ≤ N) (h2 : N ≤ 1000) : (qf 1 (N : Int)).num = 1 ∧ (qf 1 (N : Int)).den = N ∧ decide (qf 1 (N : Int) < 0) = false := by
  obtain ⟨g1, g2, g3⟩ := (vf_even h1 h2).num
  exact ⟨g1, by omega, g3⟩
/-- the distance from equal chances -/
def farQ (xs fs : List Int) (n : Nat) : Rat := disR (2 ^ xs.length) (exQ xs fs n) (fun _ => qf 1 ((2 ^ xs.length : Nat) : Int))
theorem ov_exQ {xs fs : List Int} {n y : Nat} (hv : AllVF fs n) : Ov (denP fs n) (n * 1000000000000000000) (exQ xs fs n y) :=
  ov_sum fun x hx => by
    show Ov _ _ (if _ then _ else _)
    split
    · exact ov_fq hv hx
    · exact (Ov.zero _).more (Nat.zero_le _)
theorem ov_even {N : Nat} (h1 : 1 ≤ N) (h2 : N ≤ 1000) : Ov N 1 (qf 1 (N : Int)) := by
  obtain ⟨g1, g2, _⟩ := even_num h1 h2
  refine ov_of (by rw [g2]; exact Nat.dvd_refl _) (by rw [g1]; decide)
theorem ov_diff {xs fs : List Int} {n N y : Nat} (hv : AllVF fs n) (h1 : 1 ≤ N) (h2 : N ≤ 1000) : Ov (denP fs n * N) (n * 1000000000000000000 + 1) (exQ xs fs n y - qf 1 (N : Int)) :=
  (ov_exQ hv).scale.sub (by have := (ov_even h1 h2).scale (E := denP fs n); rwa [Nat.mul_comm] at this)
theorem ov_dsum {xs fs : List Int} {n N i : Nat} (hv : AllVF fs n) (h1 : 1 ≤ N) (h2 : N ≤ 1000) : Ov (denP fs n * N) (i * (n * 1000000000000000000 + 1)) (dsum (exQ xs fs n) (fun _ => qf 1 (N : Int)) i) :=
  ov_sum fun j _ => ov_abs (ov_diff hv h1 h2)
theorem ten_le : ∀ n, n ≤ 16 → (1000000000000000000 : Nat) ^ n ≤ B32 ^ (2 * n) := fun n _ => by
  rw [Nat.pow_mul]
  exact Nat.pow_le_pow_left (by decide) n
theorem denP_b {fs : List Int} {n : Nat} (hv : AllVF fs n) (hn : n ≤ 16) : denP fs n ≤ B32 ^ 32 :=
  Nat.le_trans (denP_le hv) (Nat.le_trans (ten_le n hn) (Nat.pow_le_pow_right B32_pos (by omega)))
theorem mul_lt_b {a P x : Nat} (ha : a < B32 ^ 3) (hP : P ≤ B32 ^ 32) (h : x ≤ a * P) : x < B32 ^ 35 := by
  refine Nat.lt_of_le_of_lt h ?_
  refine Nat.lt_of_le_of_lt (Nat.mul_le_mul_left a hP) ?_
  rw [show B32 ^ 35 = B32 ^ 3 * B32 ^ 32 from rfl]
  exact Nat.mul_lt_mul_of_pos_right ha (Nat.pow_pos B32_pos)
theorem b3 : B32 ^ 3 = 79228162514264337593543950336 := by decide
theorem far_ok {xs fs : List Int} {n N : Nat} (hv : AllVF fs n) (hn : n ≤ 16) (h1 : 1 ≤ N) (h2 : N ≤ 8) : DisOk N (exQ xs fs n) (fun _ => qf 1 (N : Int)) := by
  have hP := denP_b hv hn
  have hP0 := denP_pos hv
  have hD0 : 0 < denP fs n * N := Nat.mul_pos hP0 h1
  have hN := (Nat.le_refl N)
  refine ⟨fun i hi => ⟨?_, ?_, ?_⟩, fun i hi => ?_⟩
  · have := dgb_sz (dgb_exQ (xs := xs) (y := i) hv hn); omega
  · have := dgb_sz (dgb_vf (vf_even h1 (show N ≤ 1000 by omega)))
    show szR (qf 1 (N : Int)) ≤ 200000
    omega
  · have h := ov_diff (xs := xs) (y := i) hv h1 (show N ≤ 1000 by omega)
    have := ov_sz hD0 (by omega) h (m := 35) (mul_lt_b (a := (n * 1000000000000000000 + 1) * N) (P := denP fs n) (by
      rw [b3]; have := Nat.mul_le_mul (show n * 1000000000000000000 + 1 ≤ 17000000000000000000 by omega) h2; omega) hP (by rw [Nat.mul_comm (denP fs n) N, ← Nat.mul_assoc]; exact Nat.le_refl _))
    show szR (exQ xs fs n i - qf 1 (N : Int)) ≤ 200000
    omega
  · rcases Nat.eq_zero_or_pos i with rfl | hi0
    · have : Dg (B32 ^ 1) (dsum (exQ xs fs n) (fun _ => qf 1 (N : Int)) 0) := dgb_zero (by omega)
      have := dgb_sz this
      omega
    · have h := ov_dsum (xs := xs) (i := i) hv h1 (show N ≤ 1000 by omega)
      have := ov_sz hD0 (Nat.mul_pos hi0 (by omega)) h (m := 35) (mul_lt_b (a := (i * (n * 1000000000000000000 + 1)) * N) (P := denP fs n) (by
        rw [b3]
        have e1 := Nat.mul_le_mul (show i ≤ 8 by omega) (show n * 1000000000000000000 + 1 ≤ 17000000000000000000 by omega)
        have e2 := Nat.mul_le_mul e1 h2
        omega) hP (by rw [Nat.mul_comm (denP fs n) N, ← Nat.mul_assoc]; exact Nat.le_refl _))
      omega
/-- its size -/
theorem ov_far {xs fs : List Int} {n : Nat} (hv : AllVF fs n) (h3 : xs.length ≤ 3) : Ov (denP fs n * 16) (8 * (n * 1000000000000000000 + 1)) (farQ xs fs n) := by
  have hN : 2 ^ xs.length ≤ 8 := pow_len h3
  have hN1 : 1 ≤ 2 ^ xs.length := Nat.pow_pos (by decide)
  have hd : 2 ^ xs.length ∣ 8 := Nat.pow_dvd_pow 2 h3
  unfold farQ disR
  obtain ⟨k, hk⟩ := hd
  have h := ov_dsum (xs := xs) (i := 2 ^ xs.length) hv hN1 (by omega)
  have h2 := (h.scale (E := k)).more (c := 8 * (n * 1000000000000000000 + 1)) (Nat.mul_le_mul_right _ hN)
  rw [Nat.mul_assoc, ← hk] at h2
  have hh : Ov 2 1 ((2 : Rat)⁻¹) := by
    refine ov_of ?_ ?_
    · rw [show ((2 : Rat)⁻¹).den = 2 by decide +kernel]; exact Nat.dvd_refl _
    · rw [show ((2 : Rat)⁻¹).num = 1 by decide +kernel]; decide
  have h4 := h2.mul hh
  rw [Nat.mul_assoc, Nat.mul_one] at h4
  exact h4
theorem far_sz {xs fs : List Int} {n : Nat} (hv : AllVF fs n) (hn : n ≤ 16) (h3 : xs.length ≤ 3) : szR (farQ xs fs n) ≤ 70 := by
  have hP := denP_b hv hn
  have hP0 := denP_pos hv
  exact ov_sz (Nat.mul_pos hP0 (by decide)) (by omega) (ov_far hv h3) (m := 35) (mul_lt_b (a := 8 * (n * 1000000000000000000 + 1) * 16) (P := denP fs n) (by rw [b3]; omega) hP (by rw [Nat.mul_comm (denP fs n) 16, ← Nat.mul_assoc]; exact Nat.le_refl _))
end Go.Proofs.YtionognmgcabbaaGreat.Ratio
/- copy of elements of more than one cell. -/
namespace Go.Proofs.YtionognmgcabbaaGreat.CopyR
open Go.RowKit Go.Proofs.YtionognmgcabbaaGreat Go.Proofs.YtionognmgcabbaaGreat.Base
set_option linter.unusedVariables false
/-- all is read before anything is written -/
theorem run_copy_wide {P : Program} (w : World) (dT sT ty elem : TypeId) (size m b o dLen dCap : Nat) (a : Addr) (sLen sCap : Nat) (cs : List Value)
    (hu : P.underlying dT = some (.slice elem)) (hs : (P.info? elem).map (·.size) = some size) (hm : m = Nat.min sLen dLen) (hn : cs.length = m * size)
    (hsrc : ∀ j v, cs[j]? = some v → w.cell? (a.add j) = some v) (hc : ∀ j, j < cs.length → (w.cell? ⟨b, o + j, none⟩).isSome = true) (hf : ∀ j, j < cs.length → w.frozen? ⟨b, o + j, none⟩ = false) (h1 : ∀ v ∈ cs, v.oneCell' = true) :
    (Builtin.copy_ #[dT, sT] ty #[.slice (some ⟨b, o, none⟩) dLen dCap, .slice (some a) sLen sCap]).run P w = .ok (goInt m) (w.setCells b o cs) := by
  have hl := run_loadCells_list (P := P) w a cs hsrc
  have hst := run_storeCells_cells (P := P) b o cs 0 w (by simpa using hc) (by simpa using hf) h1
  cases hq : P.info? elem with
  | none => simp [hq] at hs
  | some i =>
    have hi : i.size = size := by simpa [hq] using hs
    simp [Builtin.copy_, run_underlying hu, Builtin.lenOf, Builtin.firstCells, sizeOf, typeInfo, hq, hi, ← hm, ← hn, hl, hst]
end Go.Proofs.YtionognmgcabbaaGreat.CopyR
/- Binomials, of the program and of the reference. -/
namespace Go.Proofs.YtionognmgcabbaaGreat.Choose
open Go.RowKit Go.Proofs.YtionognmgcabbaaGreat Go.Proofs.YtionognmgcabbaaGreat.Base Go.Proofs.YtionognmgcabbaaGreat.Bits
set_option linter.unusedVariables false
def ch : Nat → Nat → Nat
  | _, 0 => 1
  | 0, _ + 1 => 0
  | n + 1, k + 1 => ch n k + ch n (k + 1)
theorem ch_zero (n : Nat) : ch n 0 = 1 := by cases n <;> rfl
theorem ch_over : ∀ n k, n < k → ch n k = 0
  | 0, k + 1, _ => rfl
  | n + 1, k + 1, h => by rw [ch, ch_over n k (by omega), ch_over n (k + 1) (by omega)]
theorem ch_self : ∀ n, ch n n = 1
  | 0 => rfl
  | n + 1 => by rw [ch, ch_self n, ch_over n (n + 1) (by omega)]
theorem ch_row : ∀ n k, (n + 1) * ch n k = (k + 1) * ch (n + 1) (k + 1)
  | n, 0 => by
    induction n with
    | zero => rfl
    | succ n ih =>
      rw [ch_zero] at *
      rw [ch, ch_zero]
      omega
  | 0, k + 1 => by rw [ch, ch, ch_over 0 (k + 1) (by omega), ch_over 0 (k + 2) (by omega)]; simp
  | n + 1, k + 1 => by
    have h1 := ch_row n k
    have h2 := ch_row n (k + 1)
    have e1 : ch (n + 1) (k + 1) = ch n k + ch n (k + 1) := rfl
    have e2 : ch (n + 2) (k + 2) = ch (n + 1) (k + 1) + ch (n + 1) (k + 2) := rfl
    have e3 : ch (n + 1) (k + 2) = ch n (k + 1) + ch n (k + 2) := rfl
    rw [show n + 1 + 1 = n + 2 from rfl, show k + 1 + 1 = k + 2 from rfl] at *
    generalize ch n k = a at *
    generalize ch n (k + 1) = b at *
    generalize ch n (k + 2) = c at *
    generalize ch (n + 1) (k + 1) = d at *
    generalize ch (n + 1) (k + 2) = e at *
    generalize ch (n + 2) (k + 2) = f at *
    subst e2
    have h3 : (n + 1) * (a + b) = (k + 1) * d + (k + 2) * e := by rw [Nat.mul_add, h1, h2]
    rw [← e1] at h3
    have h4 : (n + 2) * d = (n + 1) * d + d := by rw [show n + 2 = n + 1 + 1 from rfl, Nat.add_mul, Nat.one_mul]
    have h5 : (k + 2) * (d + e) = (k + 1) * d + d + (k + 2) * e := by rw [Nat.mul_add, show k + 2 = k + 1 + 1 from rfl, Nat.add_mul (k + 1) 1 d, Nat.one_mul]
    omega
theorem ch_next : ∀ n k, k ≤ n → ch n (k + 1) * (k + 1) = ch n k * (n - k)
  | 0, k, h => by
    obtain rfl : k = 0 := by omega
    rfl
  | n + 1, 0, _ => by
    have := ch_row n 0
    rw [ch_zero] at *
    omega
  | n + 1, k + 1, h => by
    have h1 := ch_row n (k + 1)
    have h2 := ch_row n k
    have h3 := ch_next n k (by omega)
    rw [show n + 1 - (k + 1) = n - k by omega, Nat.mul_comm, ← h1, Nat.mul_comm (ch (n + 1) (k + 1))]
    have e : (k + 1) * ((n - k) * ch (n + 1) (k + 1)) = (k + 1) * ((n + 1) * ch n (k + 1)) := by
      rw [Nat.mul_left_comm, ← h2, Nat.mul_left_comm (k + 1) (n + 1), Nat.mul_comm (k + 1) (ch n (k + 1)), h3, Nat.mul_left_comm, Nat.mul_comm (n - k)]
    exact (Nat.eq_of_mul_eq_mul_left (Nat.succ_pos k) e).symm
theorem ch_div {n k : Nat} (h : k ≤ n) : ch n k * (n - k) / (k + 1) = ch n (k + 1) := by
  rw [← ch_next n k h]
  exact Nat.mul_div_cancel _ (Nat.succ_pos k)
theorem ch_sym : ∀ n k, k ≤ n → ch n (n - k) = ch n k
  | 0, k, h => by
    obtain rfl : k = 0 := by omega
    rfl
  | n + 1, 0, _ => by rw [Nat.sub_zero, ch_self, ch_zero]
  | n + 1, k + 1, h => by
    rcases Nat.lt_or_ge k n with hlt | hge
    · rw [show n + 1 - (k + 1) = (n - (k + 1)) + 1 by omega, ch, ch, ch_sym n (k + 1) (by omega), show n - (k + 1) + 1 = n - k by omega, ch_sym n k (by omega), Nat.add_comm]
    · obtain rfl : k = n := by omega
      rw [Nat.sub_self, ch_zero, ch_self]
theorem ch_min {n k : Nat} (h : k ≤ n) : ch n (min k (n - k)) = ch n k := by
  rcases Nat.le_total k (n - k) with h1 | h1
  · rw [Nat.min_eq_left h1]
  · rw [Nat.min_eq_right h1, ch_sym n k h]
theorem ch_le2 : ∀ n k, ch n k ≤ 2 ^ n
  | 0, 0 => by decide
  | 0, k + 1 => by simp [ch]
  | n + 1, 0 => by rw [ch_zero]; exact Nat.two_pow_pos _
  | n + 1, k + 1 => by
    have h1 := ch_le2 n k
    have h2 := ch_le2 n (k + 1)
    rw [ch, Nat.pow_succ]; omega
def SRel (n k : Nat) (out i : Value) : Prop := ∃ j : Nat, j ≤ k ∧ i = .int .i64 j ∧ out = .int .i64 (ch n j : Nat)
theorem and32 (x : Int) (h0 : 0 ≤ x) (h : x < 18446744073709551616) : bits .and .u64 x 4294967295 = x % 4294967296 := by
  have := u64_and_nat x.toNat 4294967295 (by omega) (by omega)
  rw [show (4294967295 : Nat) = 2 ^ 32 - 1 from rfl, Nat.and_two_pow_sub_one_eq_mod] at this
  have e : (x.toNat : Int) = x := by omega
  rw [e, show ((2 ^ 32 - 1 : Nat) : Int) = 4294967295 from rfl] at this
  rw [this]; omega
set_option maxHeartbeats 400000 in
theorem mul64_any (x y : Nat) (w : World) (hx : x < 18446744073709551616) (hy : y < 4294967296) (hxy : x * y < 18446744073709551616) :
    Calls Tryz.prog 182 #[.int .u64 x, .int .u64 y] w fun e w' => e = .returned (.tuple #[.int .u64 0, .int .u64 (x * y : Nat)]) ∧ w = w' := by
  have e1 := and32 y (by omega) (by omega)
  have e2 := and32 x (by omega) (by omega)
  have e3 : (y : Int) % 4294967296 = y := by omega
  have e4 : (y : Int) / 4294967296 = 0 := by omega
  rw [e3] at e1
  obtain ⟨a, ha⟩ : ∃ a, a = x / 4294967296 := ⟨_, rfl⟩
  obtain ⟨b, hb⟩ : ∃ b, b = x % 4294967296 := ⟨_, rfl⟩
  have hb2 : b < 4294967296 := by omega
  have hxe : x = a * 4294967296 + b := by omega
  have hp : x * y = a * y * 4294967296 + b * y := by rw [hxe, Nat.add_mul, Nat.mul_assoc, Nat.mul_comm 4294967296 y, ← Nat.mul_assoc]
  have hq : b * y < 4294967296 * 4294967296 := Nat.mul_lt_mul_of_lt_of_le hb2 (by omega) (by omega)
  have f1 : (x : Int) / 4294967296 = a := by omega
  have f2 : (x : Int) % 4294967296 = b := by omega
  have f3 : (x : Int) * y = ((x * y : Nat) : Int) := by simp
  rw [f2] at e2
  have g1 : (a : Int) * y = ((a * y : Nat) : Int) := by simp
  have g2 : (b : Int) * y = ((b * y : Nat) : Int) := by simp
  generalize x * y = m at *
  generalize a * y = p at *
  generalize b * y = q at *
  have e5 := and32 ((p : Int) + q / 4294967296) (by omega) (by omega)
  have e6 : ((p : Int) + q / 4294967296) % 4294967296 = (p : Int) + q / 4294967296 := by omega
  have e7 : ((p : Int) + q / 4294967296) / 4294967296 = 0 := by omega
  rw [e6] at e5
  clear e3 e6 ha hb hp hxe
  go_enter Tryz.func182, Tryz.ntmps182
  go_wp2
  go_ret2
  exact ⟨rfl, rfl⟩
end Go.Proofs.YtionognmgcabbaaGreat.Choose
/- The library's product of two words, where it fits into one. -/
namespace Go.Proofs.YtionognmgcabbaaGreat.MulW
open Go.RowKit Go.Proofs.YtionognmgcabbaaGreat Go.Proofs.YtionognmgcabbaaGreat.Base Go.Proofs.YtionognmgcabbaaGreat.Choose
set_option linter.unusedVariables false
theorem mulW_any (x y : Nat) (w : World) (hx : x < 18446744073709551616) (hy : y < 4294967296) (hxy : x * y < 18446744073709551616) :
    Calls Tryz.prog 154 #[.int .u64 x, .int .u64 y] w fun e w' => e = .returned (.tuple #[.int .u64 0, .int .u64 (x * y : Nat)]) ∧ w = w' := by
  have HM := Lib.hid (mul64_any x y w hx hy hxy)
  generalize x * y = z at *
  go_enter Tryz.func154, Tryz.ntmps154
  go_wp2_with fail
  refine HM.out.mono ?_
  rintro e w' ⟨rfl, rfl⟩
  go_wp2
  go_ret2
  exact ⟨rfl, rfl⟩
end Go.Proofs.YtionognmgcabbaaGreat.MulW
/- Cells that are the same three over and over: a block that is filled by copies. -/
namespace Go.Proofs.YtionognmgcabbaaGreat.Ratio
open Go.RowKit Go.Proofs.YtionognmgcabbaaGreat Go.Proofs.YtionognmgcabbaaGreat.Base Go.Proofs.YtionognmgcabbaaGreat.Mem Go.Proofs.YtionognmgcabbaaGreat.NatM Go.Proofs.YtionognmgcabbaaGreat.Nat32 Go.Proofs.YtionognmgcabbaaGreat.RatM Go.Proofs.YtionognmgcabbaaGreat.Blk
set_option linter.unusedVariables false
/-- cells from o on are written -/
theorem blk_setCells {b : Nat} {t : TypeId} : ∀ (vs : List Value) (o : Nat) (w : World) (cs : Array Value), Blk w b t cs → ∃ cs' : Array Value, Blk (w.setCells b o vs) b t cs' ∧ cs'.size = cs.size ∧ ∀ j, j < cs.size → cs'[j]? = if o ≤ j ∧ j < o + vs.length then vs[j - o]? else cs[j]?
  | [], o, w, cs, h => ⟨cs, h, rfl, fun j hj => by rw [if_neg (by simp)]⟩
  | v :: vs, o, w, cs, h => by
    obtain ⟨cs', h1, h2, h3⟩ := blk_setCells vs (o + 1) (w.setCell ⟨b, o, none⟩ v) (cs.setIfInBounds o v) (h.set o v)
    have hz : (cs.setIfInBounds o v).size = cs.size := by simp
    refine ⟨cs', h1, h2.trans hz, fun j hj => ?_⟩
    rw [h3 j (by rw [hz]; exact hj)]
    by_cases e : j = o
    · subst e
      rw [if_neg (by omega), if_pos ⟨Nat.le_refl _, by simp⟩, Nat.sub_self, Array.getElem?_setIfInBounds_self_of_lt hj]
      rfl
    · by_cases k : o + 1 ≤ j ∧ j < o + 1 + vs.length
      · rw [if_pos k, if_pos ⟨by omega, by rw [List.length_cons]; omega⟩, show j - o = (j - (o + 1)) + 1 by omega]
        rfl
      · rw [if_neg k, if_neg (by rw [List.length_cons]; omega), Array.getElem?_setIfInBounds_ne (by omega)]
/-- one of three -/
def pk (v0 v1 v2 : Value) (j : Nat) : Value := if j = 0 then v0 else if j = 1 then v1 else v2
def rep (v0 v1 v2 : Value) (m : Nat) : List Value := (List.range (m * 3)).map fun j => pk v0 v1 v2 (j % 3)
theorem rep_len (v0 v1 v2 : Value) (m : Nat) : (rep v0 v1 v2 m).length = m * 3 := by simp [rep]
theorem rep_get (v0 v1 v2 : Value) {m j : Nat} (h : j < m * 3) : (rep v0 v1 v2 m)[j]? = some (pk v0 v1 v2 (j % 3)) := by
  simp [rep, h]
theorem rep_one {v0 v1 v2 : Value} {m : Nat} (h0 : v0.oneCell' = true) (h1 : v1.oneCell' = true) (h2 : v2.oneCell' = true) : ∀ v ∈ rep v0 v1 v2 m, v.oneCell' = true := by
  intro v hv
  obtain ⟨j, _, rfl⟩ := List.mem_map.1 hv
  unfold pk
  split
  · exact h0
  · split
    · exact h1
    · exact h2
/-- of the N elements of block g, the first n are alike -/
structure RepB (w : World) (g N n : Nat) (v0 v1 v2 : Value) : Prop where
  blk : ∃ cs, Blk w g 87 cs ∧ cs.size = N * 3 ∧ ∀ j, j < n * 3 → cs[j]? = some (pk v0 v1 v2 (j % 3))
theorem RepB.cells {w : World} {g N n : Nat} {v0 v1 v2 : Value} (h : RepB w g N n v0 v1 v2) {m : Nat} (hm : m ≤ n) : ∀ j v, (rep v0 v1 v2 m)[j]? = some v → w.cell? ⟨g, j, none⟩ = some v := fun j v hj => by
  obtain ⟨cs, K, hz, hc⟩ := h.blk
  have hl : j < m * 3 := by have := (List.getElem?_eq_some_iff.1 hj).1; rwa [rep_len] at this
  rw [rep_get _ _ _ hl] at hj
  rw [K.cell, hc j (by omega), hj]
theorem RepB.some {w : World} {g N n : Nat} {v0 v1 v2 : Value} (h : RepB w g N n v0 v1 v2) {j : Nat} (hj : j < N * 3) : (w.cell? ⟨g, j, none⟩).isSome = true := by
  obtain ⟨cs, K, hz, hc⟩ := h.blk
  rw [K.cell, Array.getElem?_eq_getElem (by omega)]; rfl
theorem RepB.frz {w : World} {g N n : Nat} {v0 v1 v2 : Value} (h : RepB w g N n v0 v1 v2) (j : Nat) : w.frozen? ⟨g, j, none⟩ = false := by
  obtain ⟨cs, K, hz, hc⟩ := h.blk
  exact K.frz j
theorem RepB.copied {w : World} {g N n m : Nat} {v0 v1 v2 : Value} (h : RepB w g N n v0 v1 v2) (hm : n + m ≤ N) : RepB (w.setCells g (n * 3) (rep v0 v1 v2 m)) g N (n + m) v0 v1 v2 := by
  obtain ⟨cs, K, hz, hc⟩ := h.blk
  obtain ⟨cs', K', hz', hc'⟩ := blk_setCells (rep v0 v1 v2 m) (n * 3) w cs K
  refine ⟨cs', K', hz'.trans hz, fun j hj => ?_⟩
  rw [hc' j (by omega), rep_len]
  by_cases e : n * 3 ≤ j
  · rw [if_pos ⟨e, by omega⟩, rep_get _ _ _ (by omega)]
    rw [show (j - n * 3) % 3 = j % 3 by omega]
  · rw [if_neg (by omega), hc j (by omega)]
theorem RepB.row {w : World} {g N : Nat} {q : Rat} {s : Bool} {A1 A2 : Option Addr} {k1 c1 k2 c2 : Nat} (h : RepB w g N N (.bool s) (.slice A1 k1 c1) (.slice A2 k2 c2)) (hq : IsRt w q (.agg #[.bool s, .slice A1 k1 c1, .slice A2 k2 c2])) : ∃ cs, RowR w g N (fun _ => q) cs := by
  obtain ⟨cs, K, hz, hc⟩ := h.blk
  refine ⟨cs, K, hz, fun i hi => ⟨s, A1, k1, c1, A2, k2, c2, ?_, ?_, ?_, hq⟩⟩
  · rw [hc _ (by omega), show (i * 3) % 3 = 0 by omega]; rfl
  · rw [hc _ (by omega), show (i * 3 + 1) % 3 = 1 by omega]; rfl
  · rw [hc _ (by omega), show (i * 3 + 2) % 3 = 2 by omega]; rfl
/-- the block as it is made -/
theorem RepB.made (w : World) (N : Nat) (v0 v1 v2 : Value) : RepB (w.alloc (.cells (madeCells (Value.agg #[.bool false, .slice none 0 0, .slice none 0 0]).cells (N * 3)) 87)) w.heap.size N 0 v0 v1 v2 := by
  refine ⟨_, Blk.new w _ _, ?_, fun j hj => absurd hj (by omega)⟩
  simp [madeCells]
end Go.Proofs.YtionognmgcabbaaGreat.Ratio
/- The program: a list of one ratio over and over. -/
namespace Go.Proofs.YtionognmgcabbaaGreat.Ratio
open Go.RowKit Go.Proofs.YtionognmgcabbaaGreat Go.Proofs.YtionognmgcabbaaGreat.Base Go.Proofs.YtionognmgcabbaaGreat.Mem Go.Proofs.YtionognmgcabbaaGreat.NatM Go.Proofs.YtionognmgcabbaaGreat.Nat32 Go.Proofs.YtionognmgcabbaaGreat.RatM Go.Proofs.YtionognmgcabbaaGreat.Blk
open Go.Proofs.YtionognmgcabbaaGreat.Inv (natOf natOf_eq len_pos Rat3 not_slice not_bool frz)
set_option linter.unusedVariables false
/-- a list that is made of one ratio -/
def RepRet (n : Nat) (q : Rat) (w : World) (e : Ending) (w' : World) : Prop := ∃ cs, e = .returned (.slice (some ⟨w.heap.size, 0, none⟩) n n) ∧ RowR w' w.heap.size n (fun _ => q) cs ∧ Below w.heap.size w w'
def RepRel (N g : Nat) (v0 v1 v2 : Value) (w : World) (nv : Value) (wr : World) : Prop :=
  ∃ n : Nat, nv = .int .i64 (n : Int) ∧ 1 ≤ n ∧ n ≤ N ∧ Hid (RepB wr g N n v0 v1 v2) ∧ Hid (Below w.heap.size w wr)
theorem infoR3 : (Tryz.prog.info? 87).map (·.size) = some 3 := by kernel_rfl
theorem below_setCellsG {B g : Nat} (hg : B ≤ g) : ∀ (vs : List Value) (o : Nat) {w0 w : World}, Below B w0 w → Below B w0 (w.setCells g o vs)
  | [], _, _, _, h => h
  | v :: vs, o, _, _, h => below_setCellsG hg vs (o + 1) (h.setCell (p := ⟨g, o, none⟩) hg v)
theorem RepB.drew {w : World} {g N n : Nat} {v0 v1 v2 : Value} (h : RepB w g N n v0 v1 v2) : RepB w.drew g N n v0 v1 v2 := by
  obtain ⟨cs, K, r⟩ := h.blk
  exact ⟨cs, K.drew, r⟩
/-- the copy onto itself -/
theorem run_self {wr : World} {g N n : Nat} {s : Bool} {A1 A2 : Option Addr} {k1 c1 k2 c2 : Nat} (h : RepB wr g N n (.bool s) (.slice A1 k1 c1) (.slice A2 k2 c2)) (hn : n < N) (m : Nat) (hm : m = Nat.min n (N - n)) :
    (Builtin.copy_ #[89, 89] 3 #[.slice (some ⟨g, n * 3, none⟩) (N - n) (N - n), .slice (some ⟨g, 0, none⟩) n N]).run Tryz.prog wr = .ok (goInt m) (wr.setCells g (n * 3) (rep (.bool s) (.slice A1 k1 c1) (.slice A2 k2 c2) m)) := by
  have h1 : m ≤ n := by rw [hm]; exact Nat.min_le_left _ _
  have h2 : m ≤ N - n := by rw [hm]; exact Nat.min_le_right _ _
  exact CopyR.run_copy_wide (P := Tryz.prog) wr 89 89 3 87 3 m g (n * 3) (N - n) (N - n) ⟨g, 0, none⟩ n N (rep (.bool s) (.slice A1 k1 c1) (.slice A2 k2 c2) m) Tryz.underlying89
    infoR3
    hm (rep_len _ _ _ _) (fun j v hj => by rw [Addr.add_lit, Nat.zero_add]; exact h.cells h1 j v hj)
    (fun j hj => by rw [rep_len] at hj; exact h.some (by omega)) (fun j hj => h.frz _) (rep_one rfl rfl rfl)
set_option maxHeartbeats 4000000 in
set_option maxRecDepth 100000 in
theorem repeat_any {c b0 N : Nat} {q : Rat} {s : Bool} {A1 A2 : Option Addr} {k1 c1 k2 c2 : Nat} (w : World) (x0 : w.cell? ⟨b0, 0, none⟩ = some (.bool s)) (x1 : w.cell? ⟨b0, 1, none⟩ = some (.slice A1 k1 c1)) (x2 : w.cell? ⟨b0, 2, none⟩ = some (.slice A2 k2 c2)) (hb0 : b0 < w.heap.size) (hq : IsRt w q (.agg #[.bool s, .slice A1 k1 c1, .slice A2 k2 c2])) (h1 : 1 ≤ N) (hN : N ≤ 1000) :
    Calls Tryz.prog 103 #[.slice (some ⟨b0, 0, none⟩) 1 c, .int .i64 (N : Int)] w (RepRet N q w) := by
  have HM : Hid (∀ W, Calls Tryz.prog 154 #[.int .u64 1, .int .u64 (N : Int)] W fun e w' => e = .returned (.tuple #[.int .u64 0, .int .u64 (N : Nat)]) ∧ W = w') := Lib.hid (fun W => by have := MulW.mulW_any 1 N W (by decide) (by omega) (by omega); rwa [Nat.one_mul] at this)
  have hmk := fun w => run_make3 N (by omega) w
  obtain ⟨g, hg⟩ : ∃ g, g = w.heap.size := ⟨_, rfl⟩
  obtain ⟨W1, hW1⟩ : ∃ W1, W1 = w.alloc (.cells (madeCells (Value.agg #[.bool false, .slice none 0 0, .slice none 0 0]).cells (N * 3)) 87) := ⟨_, rfl⟩
  have HB1 : Hid (Below w.heap.size w W1) := Lib.hid (by rw [hW1]; exact (Below.refl _ _).alloc (Nat.le_refl _) _)
  have K0 : Hid (RepB W1 g N 0 (.bool s) (.slice A1 k1 c1) (.slice A2 k2 c2)) := Lib.hid (by rw [hW1, hg]; exact RepB.made w N _ _ _)
  obtain ⟨W2, hcp, hK2, hB2⟩ : ∃ W2, (Builtin.copy_ #[89, 89] 3 #[.slice (some ⟨w.heap.size, 0, none⟩) N N, .slice (some ⟨b0, 0, none⟩) 1 c]).run Tryz.prog (w.alloc (.cells (madeCells #[.bool false, .slice none 0 0, .slice none 0 0] (N * 3)) 87)) = .ok (.int .i64 1) W2 ∧ RepB W2 g N 1 (.bool s) (.slice A1 k1 c1) (.slice A2 k2 c2) ∧ Below w.heap.size w W2 := by
    have hr := CopyR.run_copy_wide (P := Tryz.prog) W1 89 89 3 87 3 1 g 0 N N ⟨b0, 0, none⟩ 1 c (rep (.bool s) (.slice A1 k1 c1) (.slice A2 k2 c2) 1) Tryz.underlying89 infoR3
      (Nat.min_eq_left h1).symm (rep_len _ _ _ _) (fun j v hj => by
        have hl : j < 1 * 3 := by have := (List.getElem?_eq_some_iff.1 hj).1; rwa [rep_len] at this
        rw [rep_get _ _ _ hl] at hj
        rw [Addr.add_lit, Nat.zero_add]
        refine (HB1.out.cell (p := ⟨b0, j, none⟩) hb0).trans ?_
        rw [← hj]
        match j, hl with
        | 0, _ => exact x0
        | 1, _ => exact x1
        | 2, _ => exact x2
        | j + 3, h => exact absurd h (by omega))
      (fun j hj => by rw [rep_len] at hj; rw [Nat.zero_add]; exact K0.out.some (by omega)) (fun j hj => K0.out.frz _) (rep_one rfl rfl rfl)
    refine ⟨W1.setCells g 0 (rep (.bool s) (.slice A1 k1 c1) (.slice A2 k2 c2) 1), ?_, ?_, ?_⟩
    · rw [← hg]
      rw [hW1] at hr ⊢
      exact hr
    · have := K0.out.copied (m := 1) (by omega)
      rwa [Nat.zero_mul, Nat.zero_add] at this
    · exact below_setCellsG (Nat.le_of_eq hg.symm) _ _ HB1.out
  have HK2 := Lib.hid hK2
  have HB2 := Lib.hid hB2
  have HG := Lib.hid hg
  have HQ := Lib.hid hq
  clear hq hW1 hg x0 x1 x2 hK2 hB2 K0 HB1
  go_enter Tryz.func103, Tryz.ntmps103
  go_wp2_with fail
  refine (HM.out _).mono ?_
  rintro e w' ⟨rfl, rfl⟩
  go_wp2
  clear hcp hmk
  rw [← HG.out]
  go_loopw [8] (fun nv wr => RepRel N g (.bool s) (.slice A1 k1 c1) (.slice A2 k2 c2) w nv wr) (fun nv _ => N - (intOf nv).toNat)
  case atStart => exact ⟨1, rfl, Nat.le_refl _, h1, HK2, HB2⟩
  case round =>
    obtain ⟨n, rfl, hn1, hn, HK, HB⟩ := hrel
    by_cases hlt : n < N
    · obtain ⟨m, hm⟩ : ∃ m, m = Nat.min n (N - n) := ⟨_, rfl⟩
      have hm1 : m ≤ N - n := by rw [hm]; exact Nat.min_le_right _ _
      have hm0 : 1 ≤ m := by rw [hm]; exact (Nat.le_min).2 ⟨hn1, by omega⟩
      have hcp := run_self HK.out.drew hlt m hm
      have HK3 : Hid (RepB (wr.drew.setCells g (n * 3) (rep (.bool s) (.slice A1 k1 c1) (.slice A2 k2 c2) m)) g N (n + m) (.bool s) (.slice A1 k1 c1) (.slice A2 k2 c2)) := Lib.hid (HK.out.drew.copied (by omega))
      have HB3 : Hid (Below w.heap.size w (wr.drew.setCells g (n * 3) (rep (.bool s) (.slice A1 k1 c1) (.slice A2 k2 c2) m))) := Lib.hid (below_setCellsG (Nat.le_of_eq HG.out.symm) _ _ HB.out.drew)
      generalize wr.drew.setCells g (n * 3) (rep (.bool s) (.slice A1 k1 c1) (.slice A2 k2 c2) m) = W3 at *
      clear hm HK HB
      go_wp2
      go_region
      all_goals
        go_wp2
        go_roundw
        case rel => exact ⟨n + m, by go_num, by omega, by omega, HK3, HB3⟩
        case measure => simp [intOf]; omega
    · obtain rfl : n = N := by omega
      obtain ⟨cs, hR⟩ := HK.out.row (HQ.out.below HB.out)
      have HR : Hid (RepRet n q w (.returned (.slice (some ⟨g, 0, none⟩) n n)) wr) := Lib.hid ⟨cs, by rw [HG.out], by rw [← HG.out]; exact hR, HB.out⟩
      clear hR
      go_wp2
      go_ret
      exact HR.out
end Go.Proofs.YtionognmgcabbaaGreat.Ratio

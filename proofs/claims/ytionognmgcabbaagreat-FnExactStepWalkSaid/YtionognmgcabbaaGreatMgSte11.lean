/- The program: the bits of a source. -/
import Derived.Test.YtionognmgcabbaaGreatMgSte10
import Derived.Test.YtionognmgcabbaaGreatMgSte00
import Derived.Test.YtionognmgcabbaaGreatMgSte07
import Derived.Test.YtionognmgcabbaaGreatMgSte05
import Derived.Test.YtionognmgcabbaaGreatMgSte04
import Derived.Test.YtionognmgcabbaaGreatMgSte09
import Derived.Test.YtionognmgcabbaaGreatMgSte08
namespace Go.Proofs.YtionognmgcabbaaGreat.Ratio
open Go.RowKit Go.Proofs.YtionognmgcabbaaGreat Go.Proofs.YtionognmgcabbaaGreat.Base Go.Proofs.YtionognmgcabbaaGreat.Mem Go.Proofs.YtionognmgcabbaaGreat.NatM Go.Proofs.YtionognmgcabbaaGreat.Nat32 Go.Proofs.YtionognmgcabbaaGreat.RatM Go.Proofs.YtionognmgcabbaaGreat.Blk Go.Proofs.YtionognmgcabbaaGreat.MemF Go.Proofs.YtionognmgcabbaaGreat.ChM Go.Proofs.YtionognmgcabbaaGreat.ValF Go.Proofs.YtionognmgcabbaaGreat.GaussM Go.Proofs.YtionognmgcabbaaGreat.Deg
set_option linter.unusedVariables false
theorem chB_range {fs : List Int} {n : Nat} (h : chB fs n = true) : 1 ≤ n ∧ n ≤ 16 := by
  simp only [chB, Bool.and_eq_true, decide_eq_true_eq] at h
  exact ⟨h.1, h.2.1⟩
/-- what is said of a source -/
def SrcRet (fs : List Int) (n : Nat) (w : World) (e : Ending) (w' : World) : Prop := ∃ d : Int, e = .returned (.tuple #[.int .i64 d, .bool (decide (bitsQ fs n ≠ 0))]) ∧ (bitsQ fs n ≠ 0 → d = ((bitsQ fs n : Nat) : Int)) ∧ Below w.heap.size w w'
theorem SrcRet.no {fs : List Int} {n : Nat} {w w' : World} {d : Int} (h : bitsQ fs n = 0) (hb : Below w.heap.size w w') : SrcRet fs n w (.returned (.tuple #[.int .i64 d, .bool false])) w' :=
  ⟨d, by rw [h]; rfl, fun h' => absurd h h', hb⟩
theorem SrcRet.yes {fs : List Int} {n k : Nat} {w w' : World} {d : Int} (h : bitsQ fs n = k) (hk : k ≠ 0) (hd : d = (k : Int)) (hb : Below w.heap.size w w') : SrcRet fs n w (.returned (.tuple #[.int .i64 d, .bool true])) w' :=
  ⟨d, by rw [h, decide_eq_true hk], fun _ => by rw [h]; exact hd, hb⟩
set_option maxHeartbeats 4000000 in
set_option maxRecDepth 100000 in
theorem src_any {A : Option Addr} {c B n : Nat} {fs : List Int} (w : World) (hx : RdF w B A n fs) (hB : B ≤ w.heap.size) (hn : n ≤ 1099511627776) : Calls Tryz.prog 124 #[.slice A n c] w (SrcRet fs n w) := by
  have HC := Lib.hid (fun W (h : Below w.heap.size w W) => areCh_any (c := c) W (hx.below h hB) (Nat.le_trans hB h.size) hn)
  have HL := Lib.hid (fun W => lenF_any A n c W (by omega))
  clear hx
  cases hc : chB fs n with
  | false =>
    rw [hc] at HC
    have HE : Hid (bitsQ fs n = 0) := Lib.hid (by unfold bitsQ; rw [hc]; rfl)
    have HD := Lib.hid (fun W => degree_of n (by omega) W)
    clear hc
    have hbl := bitLen_le n (by omega)
    generalize Lib.bitLen n = d at *
    go_enter Tryz.func124, Tryz.ntmps124
    go_wp2_with fail
    refine (HL.out _).mono ?_
    rintro e w1 ⟨rfl, rfl⟩
    go_wp2_with fail
    refine (HD.out _).mono ?_
    rintro e w1 ⟨rfl, rfl⟩
    go_wp2_with fail
    (refine wp_region_below (by kernel_rfl) (by kernel_rfl) ?_; (repeat (refine wpQuiet_step (fun K hK => ?_); go_simp; first | (refine hK _ ?_; clear hK K) | (apply Exists.intro; refine ⟨fun wq hq => ?_, hK _ ?_⟩; (first | rfl | (skip; first | (go_simp; done) | (go_simp; rfl) | (go_at_call 119; refine (HC.out _ hq).mono ?_; rintro e w1 ⟨rfl, hb1⟩; exact ⟨rfl, Base.Below.nextA hq hb1⟩))); clear hK K))); refine wpQuiet_nil ?_; intro wq hq)
    have HB := Lib.hid hq
    go_wp2
    go_ret2
    exact SrcRet.no HE.out HB.out
  | true =>
    obtain ⟨h1, h2⟩ := chB_range hc
    have HCH := Lib.hid hc
    rw [hc] at HC
    clear hc hn
    have h : n = 1 ∨ n = 2 ∨ n = 3 ∨ n = 4 ∨ n = 5 ∨ n = 6 ∨ n = 7 ∨ n = 8 ∨ n = 9 ∨ n = 10 ∨ n = 11 ∨ n = 12 ∨ n = 13 ∨ n = 14 ∨ n = 15 ∨ n = 16 := by omega
    rcases h with rfl | rfl | rfl | rfl | rfl | rfl | rfl | rfl | rfl | rfl | rfl | rfl | rfl | rfl | rfl | rfl
    · have HE : Hid (bitsQ fs 1 = 0) := Lib.hid (by unfold bitsQ; rw [if_pos HCH.out]; rfl)
      have e0 : ((Lib.bitLen 1 : Nat) : Int) - 1 = 0 := by decide
      have HD := Lib.hid (fun W => degree_of 1 (by decide) W)
      rw [e0] at HD
      clear e0
      go_enter Tryz.func124, Tryz.ntmps124
      go_wp2_with fail
      refine (HL.out _).mono ?_
      rintro e w1 ⟨rfl, rfl⟩
      go_wp2_with fail
      refine (HD.out _).mono ?_
      rintro e w1 ⟨rfl, rfl⟩
      go_wp2_with fail
      (refine wp_region_below (by kernel_rfl) (by kernel_rfl) ?_; (repeat (refine wpQuiet_step (fun K hK => ?_); go_simp; first | (refine hK _ ?_; clear hK K) | (apply Exists.intro; refine ⟨fun wq hq => ?_, hK _ ?_⟩; (first | rfl | (skip; first | (go_simp; done) | (go_simp; rfl) | (go_at_call 119; refine (HC.out _ hq).mono ?_; rintro e w1 ⟨rfl, hb1⟩; exact ⟨rfl, Base.Below.nextA hq hb1⟩))); clear hK K))); refine wpQuiet_nil ?_; intro wq hq)
      have HB := Lib.hid hq
      go_wp2
      go_ret2
      first | exact SrcRet.no HE.out HB.out | exact SrcRet.yes HE.out (by decide) rfl HB.out
    · have HE : Hid (bitsQ fs 2 = 1) := Lib.hid (by unfold bitsQ; rw [if_pos HCH.out]; rfl)
      have e0 : ((Lib.bitLen 2 : Nat) : Int) - 1 = 1 := by decide
      have HD := Lib.hid (fun W => degree_of 2 (by decide) W)
      rw [e0] at HD
      clear e0
      go_enter Tryz.func124, Tryz.ntmps124
      go_wp2_with fail
      refine (HL.out _).mono ?_
      rintro e w1 ⟨rfl, rfl⟩
      go_wp2_with fail
      refine (HD.out _).mono ?_
      rintro e w1 ⟨rfl, rfl⟩
      go_wp2_with fail
      (refine wp_region_below (by kernel_rfl) (by kernel_rfl) ?_; (repeat (refine wpQuiet_step (fun K hK => ?_); go_simp; first | (refine hK _ ?_; clear hK K) | (apply Exists.intro; refine ⟨fun wq hq => ?_, hK _ ?_⟩; (first | rfl | (skip; first | (go_simp; done) | (go_simp; rfl) | (go_at_call 119; refine (HC.out _ hq).mono ?_; rintro e w1 ⟨rfl, hb1⟩; exact ⟨rfl, Base.Below.nextA hq hb1⟩))); clear hK K))); refine wpQuiet_nil ?_; intro wq hq)
      have HB := Lib.hid hq
      go_wp2
      go_ret2
      first | exact SrcRet.no HE.out HB.out | exact SrcRet.yes HE.out (by decide) rfl HB.out
    · have HE : Hid (bitsQ fs 3 = 0) := Lib.hid (by unfold bitsQ; rw [if_pos HCH.out]; rfl)
      have e0 : ((Lib.bitLen 3 : Nat) : Int) - 1 = 1 := by decide
      have HD := Lib.hid (fun W => degree_of 3 (by decide) W)
      rw [e0] at HD
      clear e0
      go_enter Tryz.func124, Tryz.ntmps124
      go_wp2_with fail
      refine (HL.out _).mono ?_
      rintro e w1 ⟨rfl, rfl⟩
      go_wp2_with fail
      refine (HD.out _).mono ?_
      rintro e w1 ⟨rfl, rfl⟩
      go_wp2_with fail
      (refine wp_region_below (by kernel_rfl) (by kernel_rfl) ?_; (repeat (refine wpQuiet_step (fun K hK => ?_); go_simp; first | (refine hK _ ?_; clear hK K) | (apply Exists.intro; refine ⟨fun wq hq => ?_, hK _ ?_⟩; (first | rfl | (skip; first | (go_simp; done) | (go_simp; rfl) | (go_at_call 119; refine (HC.out _ hq).mono ?_; rintro e w1 ⟨rfl, hb1⟩; exact ⟨rfl, Base.Below.nextA hq hb1⟩))); clear hK K))); refine wpQuiet_nil ?_; intro wq hq)
      have HB := Lib.hid hq
      go_wp2
      go_ret2
      first | exact SrcRet.no HE.out HB.out | exact SrcRet.yes HE.out (by decide) rfl HB.out
    · have HE : Hid (bitsQ fs 4 = 2) := Lib.hid (by unfold bitsQ; rw [if_pos HCH.out]; rfl)
      have e0 : ((Lib.bitLen 4 : Nat) : Int) - 1 = 2 := by decide
      have HD := Lib.hid (fun W => degree_of 4 (by decide) W)
      rw [e0] at HD
      clear e0
      go_enter Tryz.func124, Tryz.ntmps124
      go_wp2_with fail
      refine (HL.out _).mono ?_
      rintro e w1 ⟨rfl, rfl⟩
      go_wp2_with fail
      refine (HD.out _).mono ?_
      rintro e w1 ⟨rfl, rfl⟩
      go_wp2_with fail
      (refine wp_region_below (by kernel_rfl) (by kernel_rfl) ?_; (repeat (refine wpQuiet_step (fun K hK => ?_); go_simp; first | (refine hK _ ?_; clear hK K) | (apply Exists.intro; refine ⟨fun wq hq => ?_, hK _ ?_⟩; (first | rfl | (skip; first | (go_simp; done) | (go_simp; rfl) | (go_at_call 119; refine (HC.out _ hq).mono ?_; rintro e w1 ⟨rfl, hb1⟩; exact ⟨rfl, Base.Below.nextA hq hb1⟩))); clear hK K))); refine wpQuiet_nil ?_; intro wq hq)
      have HB := Lib.hid hq
      go_wp2
      go_ret2
      first | exact SrcRet.no HE.out HB.out | exact SrcRet.yes HE.out (by decide) rfl HB.out
    · have HE : Hid (bitsQ fs 5 = 0) := Lib.hid (by unfold bitsQ; rw [if_pos HCH.out]; rfl)
      have e0 : ((Lib.bitLen 5 : Nat) : Int) - 1 = 2 := by decide
      have HD := Lib.hid (fun W => degree_of 5 (by decide) W)
      rw [e0] at HD
      clear e0
      go_enter Tryz.func124, Tryz.ntmps124
      go_wp2_with fail
      refine (HL.out _).mono ?_
      rintro e w1 ⟨rfl, rfl⟩
      go_wp2_with fail
      refine (HD.out _).mono ?_
      rintro e w1 ⟨rfl, rfl⟩
      go_wp2_with fail
      (refine wp_region_below (by kernel_rfl) (by kernel_rfl) ?_; (repeat (refine wpQuiet_step (fun K hK => ?_); go_simp; first | (refine hK _ ?_; clear hK K) | (apply Exists.intro; refine ⟨fun wq hq => ?_, hK _ ?_⟩; (first | rfl | (skip; first | (go_simp; done) | (go_simp; rfl) | (go_at_call 119; refine (HC.out _ hq).mono ?_; rintro e w1 ⟨rfl, hb1⟩; exact ⟨rfl, Base.Below.nextA hq hb1⟩))); clear hK K))); refine wpQuiet_nil ?_; intro wq hq)
      have HB := Lib.hid hq
      go_wp2
      go_ret2
      first | exact SrcRet.no HE.out HB.out | exact SrcRet.yes HE.out (by decide) rfl HB.out
    · have HE : Hid (bitsQ fs 6 = 0) := Lib.hid (by unfold bitsQ; rw [if_pos HCH.out]; rfl)
      have e0 : ((Lib.bitLen 6 : Nat) : Int) - 1 = 2 := by decide
      have HD := Lib.hid (fun W => degree_of 6 (by decide) W)
      rw [e0] at HD
      clear e0
      go_enter Tryz.func124, Tryz.ntmps124
      go_wp2_with fail
      refine (HL.out _).mono ?_
      rintro e w1 ⟨rfl, rfl⟩
      go_wp2_with fail
      refine (HD.out _).mono ?_
      rintro e w1 ⟨rfl, rfl⟩
      go_wp2_with fail
      (refine wp_region_below (by kernel_rfl) (by kernel_rfl) ?_; (repeat (refine wpQuiet_step (fun K hK => ?_); go_simp; first | (refine hK _ ?_; clear hK K) | (apply Exists.intro; refine ⟨fun wq hq => ?_, hK _ ?_⟩; (first | rfl | (skip; first | (go_simp; done) | (go_simp; rfl) | (go_at_call 119; refine (HC.out _ hq).mono ?_; rintro e w1 ⟨rfl, hb1⟩; exact ⟨rfl, Base.Below.nextA hq hb1⟩))); clear hK K))); refine wpQuiet_nil ?_; intro wq hq)
      have HB := Lib.hid hq
      go_wp2
      go_ret2
      first | exact SrcRet.no HE.out HB.out | exact SrcRet.yes HE.out (by decide) rfl HB.out
    · have HE : Hid (bitsQ fs 7 = 0) := Lib.hid (by unfold bitsQ; rw [if_pos HCH.out]; rfl)
      have e0 : ((Lib.bitLen 7 : Nat) : Int) - 1 = 2 := by decide
      have HD := Lib.hid (fun W => degree_of 7 (by decide) W)
      rw [e0] at HD
      clear e0
      go_enter Tryz.func124, Tryz.ntmps124
      go_wp2_with fail
      refine (HL.out _).mono ?_
      rintro e w1 ⟨rfl, rfl⟩
      go_wp2_with fail
      refine (HD.out _).mono ?_
      rintro e w1 ⟨rfl, rfl⟩
      go_wp2_with fail
      (refine wp_region_below (by kernel_rfl) (by kernel_rfl) ?_; (repeat (refine wpQuiet_step (fun K hK => ?_); go_simp; first | (refine hK _ ?_; clear hK K) | (apply Exists.intro; refine ⟨fun wq hq => ?_, hK _ ?_⟩; (first | rfl | (skip; first | (go_simp; done) | (go_simp; rfl) | (go_at_call 119; refine (HC.out _ hq).mono ?_; rintro e w1 ⟨rfl, hb1⟩; exact ⟨rfl, Base.Below.nextA hq hb1⟩))); clear hK K))); refine wpQuiet_nil ?_; intro wq hq)
      have HB := Lib.hid hq
      go_wp2
      go_ret2
      first | exact SrcRet.no HE.out HB.out | exact SrcRet.yes HE.out (by decide) rfl HB.out
    · have HE : Hid (bitsQ fs 8 = 3) := Lib.hid (by unfold bitsQ; rw [if_pos HCH.out]; rfl)
      have e0 : ((Lib.bitLen 8 : Nat) : Int) - 1 = 3 := by decide
      have HD := Lib.hid (fun W => degree_of 8 (by decide) W)
      rw [e0] at HD
      clear e0
      go_enter Tryz.func124, Tryz.ntmps124
      go_wp2_with fail
      refine (HL.out _).mono ?_
      rintro e w1 ⟨rfl, rfl⟩
      go_wp2_with fail
      refine (HD.out _).mono ?_
      rintro e w1 ⟨rfl, rfl⟩
      go_wp2_with fail
      (refine wp_region_below (by kernel_rfl) (by kernel_rfl) ?_; (repeat (refine wpQuiet_step (fun K hK => ?_); go_simp; first | (refine hK _ ?_; clear hK K) | (apply Exists.intro; refine ⟨fun wq hq => ?_, hK _ ?_⟩; (first | rfl | (skip; first | (go_simp; done) | (go_simp; rfl) | (go_at_call 119; refine (HC.out _ hq).mono ?_; rintro e w1 ⟨rfl, hb1⟩; exact ⟨rfl, Base.Below.nextA hq hb1⟩))); clear hK K))); refine wpQuiet_nil ?_; intro wq hq)
      have HB := Lib.hid hq
      go_wp2
      go_ret2
      first | exact SrcRet.no HE.out HB.out | exact SrcRet.yes HE.out (by decide) rfl HB.out
    · have HE : Hid (bitsQ fs 9 = 0) := Lib.hid (by unfold bitsQ; rw [if_pos HCH.out]; rfl)
      have e0 : ((Lib.bitLen 9 : Nat) : Int) - 1 = 3 := by decide
      have HD := Lib.hid (fun W => degree_of 9 (by decide) W)
      rw [e0] at HD
      clear e0
      go_enter Tryz.func124, Tryz.ntmps124
      go_wp2_with fail
      refine (HL.out _).mono ?_
      rintro e w1 ⟨rfl, rfl⟩
      go_wp2_with fail
      refine (HD.out _).mono ?_
      rintro e w1 ⟨rfl, rfl⟩
      go_wp2_with fail
      (refine wp_region_below (by kernel_rfl) (by kernel_rfl) ?_; (repeat (refine wpQuiet_step (fun K hK => ?_); go_simp; first | (refine hK _ ?_; clear hK K) | (apply Exists.intro; refine ⟨fun wq hq => ?_, hK _ ?_⟩; (first | rfl | (skip; first | (go_simp; done) | (go_simp; rfl) | (go_at_call 119; refine (HC.out _ hq).mono ?_; rintro e w1 ⟨rfl, hb1⟩; exact ⟨rfl, Base.Below.nextA hq hb1⟩))); clear hK K))); refine wpQuiet_nil ?_; intro wq hq)
      have HB := Lib.hid hq
      go_wp2
      go_ret2
      first | exact SrcRet.no HE.out HB.out | exact SrcRet.yes HE.out (by decide) rfl HB.out
    · have HE : Hid (bitsQ fs 10 = 0) := Lib.hid (by unfold bitsQ; rw [if_pos HCH.out]; rfl)
      have e0 : ((Lib.bitLen 10 : Nat) : Int) - 1 = 3 := by decide
      have HD := Lib.hid (fun W => degree_of 10 (by decide) W)
      rw [e0] at HD
      clear e0
      go_enter Tryz.func124, Tryz.ntmps124
      go_wp2_with fail
      refine (HL.out _).mono ?_
      rintro e w1 ⟨rfl, rfl⟩
      go_wp2_with fail
      refine (HD.out _).mono ?_
      rintro e w1 ⟨rfl, rfl⟩
      go_wp2_with fail
      (refine wp_region_below (by kernel_rfl) (by kernel_rfl) ?_; (repeat (refine wpQuiet_step (fun K hK => ?_); go_simp; first | (refine hK _ ?_; clear hK K) | (apply Exists.intro; refine ⟨fun wq hq => ?_, hK _ ?_⟩; (first | rfl | (skip; first | (go_simp; done) | (go_simp; rfl) | (go_at_call 119; refine (HC.out _ hq).mono ?_; rintro e w1 ⟨rfl, hb1⟩; exact ⟨rfl, Base.Below.nextA hq hb1⟩))); clear hK K))); refine wpQuiet_nil ?_; intro wq hq)
      have HB := Lib.hid hq
      go_wp2
      go_ret2
      first | exact SrcRet.no HE.out HB.out | exact SrcRet.yes HE.out (by decide) rfl HB.out
    · have HE : Hid (bitsQ fs 11 = 0) := Lib.hid (by unfold bitsQ; rw [if_pos HCH.out]; rfl)
      have e0 : ((Lib.bitLen 11 : Nat) : Int) - 1 = 3 := by decide
      have HD := Lib.hid (fun W => degree_of 11 (by decide) W)
      rw [e0] at HD
      clear e0
      go_enter Tryz.func124, Tryz.ntmps124
      go_wp2_with fail
      refine (HL.out _).mono ?_
      rintro e w1 ⟨rfl, rfl⟩
      go_wp2_with fail
      refine (HD.out _).mono ?_
      rintro e w1 ⟨rfl, rfl⟩
      go_wp2_with fail
      (refine wp_region_below (by kernel_rfl) (by kernel_rfl) ?_; (repeat (refine wpQuiet_step (fun K hK => ?_); go_simp; first | (refine hK _ ?_; clear hK K) | (apply Exists.intro; refine ⟨fun wq hq => ?_, hK _ ?_⟩; (first | rfl | (skip; first | (go_simp; done) | (go_simp; rfl) | (go_at_call 119; refine (HC.out _ hq).mono ?_; rintro e w1 ⟨rfl, hb1⟩; exact ⟨rfl, Base.Below.nextA hq hb1⟩))); clear hK K))); refine wpQuiet_nil ?_; intro wq hq)
      have HB := Lib.hid hq
      go_wp2
      go_ret2
      first | exact SrcRet.no HE.out HB.out | exact SrcRet.yes HE.out (by decide) rfl HB.out
    · have HE : Hid (bitsQ fs 12 = 0) := Lib.hid (by unfold bitsQ; rw [if_pos HCH.out]; rfl)
      have e0 : ((Lib.bitLen 12 : Nat) : Int) - 1 = 3 := by decide
      have HD := Lib.hid (fun W => degree_of 12 (by decide) W)
      rw [e0] at HD
      clear e0
      go_enter Tryz.func124, Tryz.ntmps124
      go_wp2_with fail
      refine (HL.out _).mono ?_
      rintro e w1 ⟨rfl, rfl⟩
      go_wp2_with fail
      refine (HD.out _).mono ?_
      rintro e w1 ⟨rfl, rfl⟩
      go_wp2_with fail
      (refine wp_region_below (by kernel_rfl) (by kernel_rfl) ?_; (repeat (refine wpQuiet_step (fun K hK => ?_); go_simp; first | (refine hK _ ?_; clear hK K) | (apply Exists.intro; refine ⟨fun wq hq => ?_, hK _ ?_⟩; (first | rfl | (skip; first | (go_simp; done) | (go_simp; rfl) | (go_at_call 119; refine (HC.out _ hq).mono ?_; rintro e w1 ⟨rfl, hb1⟩; exact ⟨rfl, Base.Below.nextA hq hb1⟩))); clear hK K))); refine wpQuiet_nil ?_; intro wq hq)
      have HB := Lib.hid hq
      go_wp2
      go_ret2
      first | exact SrcRet.no HE.out HB.out | exact SrcRet.yes HE.out (by decide) rfl HB.out
    · have HE : Hid (bitsQ fs 13 = 0) := Lib.hid (by unfold bitsQ; rw [if_pos HCH.out]; rfl)
      have e0 : ((Lib.bitLen 13 : Nat) : Int) - 1 = 3 := by decide
      have HD := Lib.hid (fun W => degree_of 13 (by decide) W)
      rw [e0] at HD
      clear e0
      go_enter Tryz.func124, Tryz.ntmps124
      go_wp2_with fail
      refine (HL.out _).mono ?_
      rintro e w1 ⟨rfl, rfl⟩
      go_wp2_with fail
      refine (HD.out _).mono ?_
      rintro e w1 ⟨rfl, rfl⟩
      go_wp2_with fail
      (refine wp_region_below (by kernel_rfl) (by kernel_rfl) ?_; (repeat (refine wpQuiet_step (fun K hK => ?_); go_simp; first | (refine hK _ ?_; clear hK K) | (apply Exists.intro; refine ⟨fun wq hq => ?_, hK _ ?_⟩; (first | rfl | (skip; first | (go_simp; done) | (go_simp; rfl) | (go_at_call 119; refine (HC.out _ hq).mono ?_; rintro e w1 ⟨rfl, hb1⟩; exact ⟨rfl, Base.Below.nextA hq hb1⟩))); clear hK K))); refine wpQuiet_nil ?_; intro wq hq)
      have HB := Lib.hid hq
      go_wp2
      go_ret2
      first | exact SrcRet.no HE.out HB.out | exact SrcRet.yes HE.out (by decide) rfl HB.out
    · have HE : Hid (bitsQ fs 14 = 0) := Lib.hid (by unfold bitsQ; rw [if_pos HCH.out]; rfl)
      have e0 : ((Lib.bitLen 14 : Nat) : Int) - 1 = 3 := by decide
      have HD := Lib.hid (fun W => degree_of 14 (by decide) W)
      rw [e0] at HD
      clear e0
      go_enter Tryz.func124, Tryz.ntmps124
      go_wp2_with fail
      refine (HL.out _).mono ?_
      rintro e w1 ⟨rfl, rfl⟩
      go_wp2_with fail
      refine (HD.out _).mono ?_
      rintro e w1 ⟨rfl, rfl⟩
      go_wp2_with fail
      (refine wp_region_below (by kernel_rfl) (by kernel_rfl) ?_; (repeat (refine wpQuiet_step (fun K hK => ?_); go_simp; first | (refine hK _ ?_; clear hK K) | (apply Exists.intro; refine ⟨fun wq hq => ?_, hK _ ?_⟩; (first | rfl | (skip; first | (go_simp; done) | (go_simp; rfl) | (go_at_call 119; refine (HC.out _ hq).mono ?_; rintro e w1 ⟨rfl, hb1⟩; exact ⟨rfl, Base.Below.nextA hq hb1⟩))); clear hK K))); refine wpQuiet_nil ?_; intro wq hq)
      have HB := Lib.hid hq
      go_wp2
      go_ret2
      first | exact SrcRet.no HE.out HB.out | exact SrcRet.yes HE.out (by decide) rfl HB.out
    · have HE : Hid (bitsQ fs 15 = 0) := Lib.hid (by unfold bitsQ; rw [if_pos HCH.out]; rfl)
      have e0 : ((Lib.bitLen 15 : Nat) : Int) - 1 = 3 := by decide
      have HD := Lib.hid (fun W => degree_of 15 (by decide) W)
      rw [e0] at HD
      clear e0
      go_enter Tryz.func124, Tryz.ntmps124
      go_wp2_with fail
      refine (HL.out _).mono ?_
      rintro e w1 ⟨rfl, rfl⟩
      go_wp2_with fail
      refine (HD.out _).mono ?_
      rintro e w1 ⟨rfl, rfl⟩
      go_wp2_with fail
      (refine wp_region_below (by kernel_rfl) (by kernel_rfl) ?_; (repeat (refine wpQuiet_step (fun K hK => ?_); go_simp; first | (refine hK _ ?_; clear hK K) | (apply Exists.intro; refine ⟨fun wq hq => ?_, hK _ ?_⟩; (first | rfl | (skip; first | (go_simp; done) | (go_simp; rfl) | (go_at_call 119; refine (HC.out _ hq).mono ?_; rintro e w1 ⟨rfl, hb1⟩; exact ⟨rfl, Base.Below.nextA hq hb1⟩))); clear hK K))); refine wpQuiet_nil ?_; intro wq hq)
      have HB := Lib.hid hq
      go_wp2
      go_ret2
      first | exact SrcRet.no HE.out HB.out | exact SrcRet.yes HE.out (by decide) rfl HB.out
    · have HE : Hid (bitsQ fs 16 = 4) := Lib.hid (by unfold bitsQ; rw [if_pos HCH.out]; rfl)
      have e0 : ((Lib.bitLen 16 : Nat) : Int) - 1 = 4 := by decide
      have HD := Lib.hid (fun W => degree_of 16 (by decide) W)
      rw [e0] at HD
      clear e0
      go_enter Tryz.func124, Tryz.ntmps124
      go_wp2_with fail
      refine (HL.out _).mono ?_
      rintro e w1 ⟨rfl, rfl⟩
      go_wp2_with fail
      refine (HD.out _).mono ?_
      rintro e w1 ⟨rfl, rfl⟩
      go_wp2_with fail
      (refine wp_region_below (by kernel_rfl) (by kernel_rfl) ?_; (repeat (refine wpQuiet_step (fun K hK => ?_); go_simp; first | (refine hK _ ?_; clear hK K) | (apply Exists.intro; refine ⟨fun wq hq => ?_, hK _ ?_⟩; (first | rfl | (skip; first | (go_simp; done) | (go_simp; rfl) | (go_at_call 119; refine (HC.out _ hq).mono ?_; rintro e w1 ⟨rfl, hb1⟩; exact ⟨rfl, Base.Below.nextA hq hb1⟩))); clear hK K))); refine wpQuiet_nil ?_; intro wq hq)
      have HB := Lib.hid hq
      go_wp2
      go_ret2
      first | exact SrcRet.no HE.out HB.out | exact SrcRet.yes HE.out (by decide) rfl HB.out
/-- whether rows are some for a source -/
def isE (xs fs : List Int) (n : Nat) : Bool := decide (bitsQ fs n ≠ 0) && (inR (xs.length : Int) 1 3 && AllIn.allInB xs 0 ((2 ^ bitsQ fs n : Nat) - 1 : Int))
set_option maxHeartbeats 4000000 in
set_option maxRecDepth 100000 in
theorem isE_any {A A' : Option Addr} {c c' B B' n : Nat} {fs xs : List Int} (w : World) (hx : RdF w B A n fs) (hB : B ≤ w.heap.size) (hn : n ≤ 1099511627776) (hy : RdI w B' A' xs) (hB' : B' ≤ w.heap.size) (hm : xs.length ≤ 9223372036854775807) :
    Calls Tryz.prog 59 #[.slice A' xs.length c', .slice A n c] w fun e w' => e = .returned (.bool (isE xs fs n)) ∧ Below w.heap.size w w' := by
  have HS := Lib.hid (src_any (c := c) w hx hB hn)
  have HL := Lib.hid (fun W => AllIn.lenI_any A' xs.length c' W hm)
  clear hx
  have hb4 := bitsQ_le fs n
  have h : bitsQ fs n = 0 ∨ bitsQ fs n = 1 ∨ bitsQ fs n = 2 ∨ bitsQ fs n = 3 ∨ bitsQ fs n = 4 := by omega
  rcases h with h | h | h | h | h
  · have HE : Hid (isE xs fs n = false) := Lib.hid (by unfold isE; rw [h]; rfl)
    have HK := Lib.hid h
    clear h hb4
    go_enter Tryz.func59, Tryz.ntmps59
    go_wp2_with fail
    refine HS.out.mono ?_
    rintro e w1 ⟨d, rfl, hd, hb1⟩
    have HB1 := Lib.hid hb1
    rw [HK.out] at *
    clear hd hb1
    go_wp2
    go_ret
    exact ⟨by rw [HE.out]; rfl, HB1.out⟩
  · have HE : Hid (isE xs fs n = (inR (xs.length : Int) 1 3 && AllIn.allInB xs 0 (2 - 1))) := Lib.hid (by unfold isE; rw [h]; rfl)
    have HK := Lib.hid h
    clear h hb4
    · have HI := Lib.hid (fun W (h : Below w.heap.size w W) => AllIn.allIn_any A' c' B' xs 0 (2 - 1) W (hy.below h hB') (Nat.le_trans hB' h.size) hm)
      clear hy
      go_enter Tryz.func59, Tryz.ntmps59
      go_wp2_with fail
      refine HS.out.mono ?_
      rintro e w1 ⟨d, rfl, hd, hb1⟩
      have HB1 := Lib.hid hb1
      rw [HK.out] at hd
      obtain rfl := hd (by decide)
      rw [HK.out] at *
      clear hd hb1
      go_wp2_with fail
      refine (HL.out _).mono ?_
      rintro e w2 ⟨rfl, rfl⟩
      go_wp2_with fail
      refine (inRange_any _ _ _ _).mono ?_
      rintro e w2 ⟨rfl, rfl⟩
      cases hr : inR (xs.length : Int) 1 3 with
      | false =>
        rw [hr] at HE
        go_wp2
        go_ret
        exact ⟨ret_bool HE.out.symm, HB1.out⟩
      | true =>
        rw [hr] at HE
        go_wp2_with fail
        refine (HI.out _ HB1.out).mono ?_
        rintro e w2 ⟨rfl, hb2⟩
        have HB2 := Lib.hid (Base.Below.nextA HB1.out hb2)
        clear hb2
        go_wp2
        go_ret
        exact ⟨ret_bool HE.out.symm, HB2.out⟩
  · have HE : Hid (isE xs fs n = (inR (xs.length : Int) 1 3 && AllIn.allInB xs 0 (4 - 1))) := Lib.hid (by unfold isE; rw [h]; rfl)
    have HK := Lib.hid h
    clear h hb4
    · have HI := Lib.hid (fun W (h : Below w.heap.size w W) => AllIn.allIn_any A' c' B' xs 0 (4 - 1) W (hy.below h hB') (Nat.le_trans hB' h.size) hm)
      clear hy
      go_enter Tryz.func59, Tryz.ntmps59
      go_wp2_with fail
      refine HS.out.mono ?_
      rintro e w1 ⟨d, rfl, hd, hb1⟩
      have HB1 := Lib.hid hb1
      rw [HK.out] at hd
      obtain rfl := hd (by decide)
      rw [HK.out] at *
      clear hd hb1
      go_wp2_with fail
      refine (HL.out _).mono ?_
      rintro e w2 ⟨rfl, rfl⟩
      go_wp2_with fail
      refine (inRange_any _ _ _ _).mono ?_
      rintro e w2 ⟨rfl, rfl⟩
      cases hr : inR (xs.length : Int) 1 3 with
      | false =>
        rw [hr] at HE
        go_wp2
        go_ret
        exact ⟨ret_bool HE.out.symm, HB1.out⟩
      | true =>
        rw [hr] at HE
        go_wp2_with fail
        refine (HI.out _ HB1.out).mono ?_
        rintro e w2 ⟨rfl, hb2⟩
        have HB2 := Lib.hid (Base.Below.nextA HB1.out hb2)
        clear hb2
        go_wp2
        go_ret
        exact ⟨ret_bool HE.out.symm, HB2.out⟩
  · have HE : Hid (isE xs fs n = (inR (xs.length : Int) 1 3 && AllIn.allInB xs 0 (8 - 1))) := Lib.hid (by unfold isE; rw [h]; rfl)
    have HK := Lib.hid h
    clear h hb4
    · have HI := Lib.hid (fun W (h : Below w.heap.size w W) => AllIn.allIn_any A' c' B' xs 0 (8 - 1) W (hy.below h hB') (Nat.le_trans hB' h.size) hm)
      clear hy
      go_enter Tryz.func59, Tryz.ntmps59
      go_wp2_with fail
      refine HS.out.mono ?_
      rintro e w1 ⟨d, rfl, hd, hb1⟩
      have HB1 := Lib.hid hb1
      rw [HK.out] at hd
      obtain rfl := hd (by decide)
      rw [HK.out] at *
      clear hd hb1
      go_wp2_with fail
      refine (HL.out _).mono ?_
      rintro e w2 ⟨rfl, rfl⟩
      go_wp2_with fail
      refine (inRange_any _ _ _ _).mono ?_
      rintro e w2 ⟨rfl, rfl⟩
      cases hr : inR (xs.length : Int) 1 3 with
      | false =>
        rw [hr] at HE
        go_wp2
        go_ret
        exact ⟨ret_bool HE.out.symm, HB1.out⟩
      | true =>
        rw [hr] at HE
        go_wp2_with fail
        refine (HI.out _ HB1.out).mono ?_
        rintro e w2 ⟨rfl, hb2⟩
        have HB2 := Lib.hid (Base.Below.nextA HB1.out hb2)
        clear hb2
        go_wp2
        go_ret
        exact ⟨ret_bool HE.out.symm, HB2.out⟩
  · have HE : Hid (isE xs fs n = (inR (xs.length : Int) 1 3 && AllIn.allInB xs 0 (16 - 1))) := Lib.hid (by unfold isE; rw [h]; rfl)
    have HK := Lib.hid h
    clear h hb4
    · have HI := Lib.hid (fun W (h : Below w.heap.size w W) => AllIn.allIn_any A' c' B' xs 0 (16 - 1) W (hy.below h hB') (Nat.le_trans hB' h.size) hm)
      clear hy
      go_enter Tryz.func59, Tryz.ntmps59
      go_wp2_with fail
      refine HS.out.mono ?_
      rintro e w1 ⟨d, rfl, hd, hb1⟩
      have HB1 := Lib.hid hb1
      rw [HK.out] at hd
      obtain rfl := hd (by decide)
      rw [HK.out] at *
      clear hd hb1
      go_wp2_with fail
      refine (HL.out _).mono ?_
      rintro e w2 ⟨rfl, rfl⟩
      go_wp2_with fail
      refine (inRange_any _ _ _ _).mono ?_
      rintro e w2 ⟨rfl, rfl⟩
      cases hr : inR (xs.length : Int) 1 3 with
      | false =>
        rw [hr] at HE
        go_wp2
        go_ret
        exact ⟨ret_bool HE.out.symm, HB1.out⟩
      | true =>
        rw [hr] at HE
        go_wp2_with fail
        refine (HI.out _ HB1.out).mono ?_
        rintro e w2 ⟨rfl, hb2⟩
        have HB2 := Lib.hid (Base.Below.nextA HB1.out hb2)
        clear hb2
        go_wp2
        go_ret
        exact ⟨ret_bool HE.out.symm, HB2.out⟩
end Go.Proofs.YtionognmgcabbaaGreat.Ratio
/- Plain: what is known where rows are some for a source. -/
namespace Go.Proofs.YtionognmgcabbaaGreat.ExtM
open Go.RowKit Go.Proofs.YtionognmgcabbaaGreat Go.Proofs.YtionognmgcabbaaGreat.Base Go.Proofs.YtionognmgcabbaaGreat.RatM Go.Proofs.YtionognmgcabbaaGreat.GaussM Go.Proofs.YtionognmgcabbaaGreat.ChM Go.Proofs.YtionognmgcabbaaGreat.RowN Go.Proofs.YtionognmgcabbaaGreat.Ratio Go.Proofs.YtionognmgcabbaaGreat.GiveM
set_option linter.unusedVariables false
theorem chB_all {fs : List Int} {n : Nat} (h : chB fs n = true) : AllVF fs n := by
  unfold chB at h
  simp only [Bool.and_eq_true] at h
  exact vfAll_true.1 h.2.2.1
theorem isE_true {xs fs : List Int} {n : Nat} (h : isE xs fs n = true) : AllVF fs n ∧ n ≤ 16 ∧ 1 ≤ xs.length ∧ xs.length ≤ 3 ∧ (∀ i, i < xs.length → 0 ≤ xs.getD i 0 ∧ xs.getD i 0 ≤ 15) ∧ bitsQ fs n ≠ 0 ∧ inR (xs.length : Int) 1 3 = true ∧ AllIn.allInB xs 0 ((2 ^ bitsQ fs n : Nat) - 1 : Int) = true := by
  unfold isE at h
  simp only [Bool.and_eq_true, decide_eq_true_eq] at h
  obtain ⟨h1, h2, h3⟩ := h
  obtain ⟨g1, g2, g3⟩ := bitsQ_pos h1
  have h4 := bitsQ_le fs n
  have h5 := inR_true h2
  refine ⟨chB_all g1, (chB_range g1).2, by omega, by omega, fun i hi => ?_, h1, h2, h3⟩
  have h6 := AllIn.allInB_true h3 i hi
  have h7 : (2 : Nat) ^ bitsQ fs n ≤ 2 ^ 4 := Nat.pow_le_pow_right (by decide) h4
  refine ⟨h6.1, Int.le_trans h6.2 ?_⟩
  omega
/-- what is returned -/
def extN (xs fs : List Int) (n : Nat) : Nat := if isE xs fs n then gN (exQ xs fs n) (2 ^ xs.length) else 0
def extR (xs fs : List Int) (n : Nat) : List Int := if isE xs fs n then gR (exQ xs fs n) (2 ^ xs.length) else []
def extB (xs fs : List Int) (n : Nat) : Bool := if isE xs fs n then smallAll (exQ xs fs n) (2 ^ xs.length) else false
theorem pow_len {k : Nat} (h : k ≤ 3) : 2 ^ k ≤ 8 := Nat.pow_le_pow_right (n := 2) (by decide) h
theorem extN_le (xs fs : List Int) (n : Nat) : extN xs fs n ≤ 8 := by
  unfold extN
  split
  · rename_i h
    obtain ⟨_, _, _, h3, _⟩ := isE_true h
    exact Nat.le_trans (gN_le _ _) (pow_len h3)
  · omega
theorem ext_yes {xs fs : List Int} {n : Nat} (h : isE xs fs n = true) : extN xs fs n = gN (exQ xs fs n) (2 ^ xs.length) ∧ extR xs fs n = gR (exQ xs fs n) (2 ^ xs.length) ∧ extB xs fs n = smallAll (exQ xs fs n) (2 ^ xs.length) := by
  unfold extN extR extB
  simp only [h, if_true, and_self]
theorem ext_no {xs fs : List Int} {n : Nat} (h : isE xs fs n = false) : extN xs fs n = 0 ∧ extR xs fs n = [] ∧ extB xs fs n = false := by
  unfold extN extR extB
  simp [h]
end Go.Proofs.YtionognmgcabbaaGreat.ExtM
/- The program: what rows make of a source. -/
namespace Go.Proofs.YtionognmgcabbaaGreat.Ratio
open Go.RowKit Go.Proofs.YtionognmgcabbaaGreat Go.Proofs.YtionognmgcabbaaGreat.Base Go.Proofs.YtionognmgcabbaaGreat.Mem Go.Proofs.YtionognmgcabbaaGreat.NatM Go.Proofs.YtionognmgcabbaaGreat.Nat32 Go.Proofs.YtionognmgcabbaaGreat.RatM Go.Proofs.YtionognmgcabbaaGreat.Blk Go.Proofs.YtionognmgcabbaaGreat.MemF Go.Proofs.YtionognmgcabbaaGreat.ChM Go.Proofs.YtionognmgcabbaaGreat.GaussM Go.Proofs.YtionognmgcabbaaGreat.ExtM Go.Proofs.YtionognmgcabbaaGreat.RowN
open Go.Proofs.YtionognmgcabbaaGreat.Inv (natOf natOf_eq len_pos Rat3 not_slice not_bool frz)
set_option linter.unusedVariables false
/-- a list of one ratio -/
def OneR (q : Rat) (v : Value) (w : World) : Prop := ∃ b s A1 k1 c1 A2 k2 c2, v = .slice (some ⟨b, 0, none⟩) 1 1 ∧ b < w.heap.size ∧ w.cell? ⟨b, 0, none⟩ = some (.bool s) ∧ w.cell? ⟨b, 1, none⟩ = some (.slice A1 k1 c1) ∧ w.cell? ⟨b, 2, none⟩ = some (.slice A2 k2 c2) ∧ IsRt w q (.agg #[.bool s, .slice A1 k1 c1, .slice A2 k2 c2])
theorem oneR_mono (q : Rat) : Rel.Mono (fun v w => OneR q v w) := fun v w w' h hb => by
  obtain ⟨b, s, A1, k1, c1, A2, k2, c2, e, hlt, x0, x1, x2, hI⟩ := h
  exact ⟨b, s, A1, k1, c1, A2, k2, c2, e, Nat.lt_of_lt_of_le hlt hb.size, (hb.cell (p := ⟨b, 0, none⟩) hlt).trans x0, (hb.cell (p := ⟨b, 1, none⟩) hlt).trans x1, (hb.cell (p := ⟨b, 2, none⟩) hlt).trans x2, hI.below hb⟩
theorem OneR.new {q : Rat} {s : Bool} {A1 A2 : Option Addr} {k1 c1 k2 c2 : Nat} {w : World} {t : TypeId} (h : IsRt w q (.agg #[.bool s, .slice A1 k1 c1, .slice A2 k2 c2])) : OneR q (.slice (some ⟨w.heap.size, 0, none⟩) 1 1) (w.alloc (.cells #[.bool s, .slice A1 k1 c1, .slice A2 k2 c2] t)) ∧ Below w.heap.size w (w.alloc (.cells #[.bool s, .slice A1 k1 c1, .slice A2 k2 c2] t)) := by
  have hb : Below w.heap.size w (w.alloc (.cells #[.bool s, .slice A1 k1 c1, .slice A2 k2 c2] t)) := (Below.refl _ _).alloc (Nat.le_refl _) _
  have K := Blk.new w t #[.bool s, .slice A1 k1 c1, .slice A2 k2 c2]
  exact ⟨⟨_, s, A1, k1, c1, A2, k2, c2, rfl, K.lt, K.at 0 rfl, K.at 1 rfl, K.at 2 rfl, h.below hb⟩, hb⟩
/-- a new block of alike ratios -/
def NewRow (B N : Nat) (q : Rat) (v : Value) (w : World) : Prop := ∃ g cs, v = .slice (some ⟨g, 0, none⟩) N N ∧ RowR w g N (fun _ => q) cs ∧ B ≤ g
theorem newRow_mono (B N : Nat) (q : Rat) : Rel.Mono (fun v w => NewRow B N q v w) := fun v w w' h hb => by
  obtain ⟨g, cs, e, hR, hB⟩ := h
  exact ⟨g, cs, e, hR.below hb, hB⟩
/-- a block of ratios that is returned -/
def RowRet (N : Nat) (f : Nat → Rat) (w : World) (e : Ending) (w' : World) : Prop := ∃ g cs, e = .returned (.slice (some ⟨g, 0, none⟩) N N) ∧ RowR w' g N f cs ∧ w.heap.size ≤ g ∧ Below w.heap.size w w'
def ExRel (xs fs : List Int) (n N g : Nat) (w : World) (iv : Value) (wr : World) : Prop :=
  ∃ (i : Nat) (cs : Array Value), iv = .int .i64 (i : Int) ∧ i ≤ n ∧ Hid (RowR wr g N (exQ xs fs i) cs) ∧ Hid (Below w.heap.size w wr)
theorem exQ_step {xs fs : List Int} {i k : Nat} (hk : rowK xs i xs.length = k) : (fun y => if y = k then exQ xs fs i k + fq fs i else exQ xs fs i y) = exQ xs fs (i + 1) := by
  funext y
  by_cases e : y = k
  · subst e; rw [if_pos rfl, exQ_hit hk]
  · rw [if_neg e, exQ_miss (fun h => e (h.symm.trans hk))]
theorem exQ_zero (xs fs : List Int) : (fun _ => (0 : Rat)) = exQ xs fs 0 := by funext y; rfl
set_option maxHeartbeats 1000000 in
set_option maxRecDepth 100000 in
theorem extI_any {A A' : Option Addr} {c c' B' n : Nat} {fs xs : List Int} (w : World) (hx : RdR w A n (fq fs)) (hv : AllVF fs n) (hn : n ≤ 16) (hy : RdI w B' A' xs) (hB' : B' ≤ w.heap.size) (h1 : 1 ≤ xs.length) (h3 : xs.length ≤ 3) (hr : ∀ i, i < xs.length → 0 ≤ xs.getD i 0 ∧ xs.getD i 0 ≤ 15) :
    Calls Tryz.prog 127 #[.slice A' xs.length c', .slice A n c] w (RowRet (2 ^ xs.length) (exQ xs fs n) w) := by
  have hN := pow_len h3
  have hN1 : 1 ≤ 2 ^ xs.length := Nat.pow_pos (by decide)
  have HK := Lib.hid (fun x => rowK_lt xs x xs.length h3)
  have hp : (2 : Int) ^ xs.length = ((2 ^ xs.length : Nat) : Int) := by simp
  have HAP := Lib.hid (fun W x (hb : Below w.heap.size w W) (hx16 : x < 16) => apply_any (c := c') (x := x) W (hy.below hb hB') h3 hr hx16)
  have HX := Lib.hid hx
  have HV := Lib.hid hv
  clear hx hv hy hr
  generalize 2 ^ xs.length = N at *
  have HN : Hid (1 ≤ N ∧ N ≤ 1000) := Lib.hid ⟨hN1, by omega⟩
  have hws : IntKind.i64.wrap ((2 : Int) ^ xs.length) = (N : Int) := by rw [hp, IntKind.wrap_i64]; omega
  clear hp
  go_enter Tryz.func127, Tryz.ntmps127
  go_upto_region 1 with (fail)
  refine Rel.wp_region_rel 6 (by kernel_rfl) (by kernel_rfl) (fun F hF => ?_)
  simp only [List.take_succ_cons, List.take_zero, List.drop_succ_cons, List.drop_zero, Rel.putL] at hF ⊢
  have HF := Lib.hid hF
  clear hF
  have uv := @Rel.upon_value Tryz.prog
  have ue := @Rel.upon_enter Tryz.prog
  refine Rel.rel_law (S := fun v w' => IsRt w' 0 v) (isRt_mono _) (fun vs wq hq hdp => ?_) ?_
  · (rw [HF.out, Rel.stepAt_eq]; clear hdp; skip; go_simp; exact whole_rt 0 0 (by decide) ⟨rfl, rfl, by decide⟩ _)
  refine Rel.rel_law (S := fun v w' => OneR 0 v w') (oneR_mono _) (fun vs wq hq hdp => ?_) ?_
  · (rw [HF.out, Rel.stepAt_eq]; have qd0 : IsRt wq _ (vs 0) := Rel.dep hdp 0 (by kernel_rfl); clear hdp; obtain ⟨s0, A1, k1, c1, A2, k2, c2, ev, hI⟩ := qd0.open; go_simp; exact OneR.new hI)
  apply Rel.rel_pure
  apply Exists.intro
  refine ⟨fun vs wq hq hdp R hR => ?_, ?_⟩
  · (rw [HF.out, Rel.stepAt_eq]; clear hdp; skip; go_simp; exact hR)
  apply Rel.rel_pure
  apply Exists.intro
  refine ⟨fun vs wq hq hdp R hR => ?_, ?_⟩
  · (rw [HF.out, Rel.stepAt_eq]; have qd2 : vs 2 = _ := Rel.dep hdp 2 (by kernel_rfl); clear hdp; skip; go_simp; exact hR)
  apply Rel.rel_pure
  apply Exists.intro
  refine ⟨fun vs wq hq hdp R hR => ?_, ?_⟩
  · (rw [HF.out, Rel.stepAt_eq]; have qd3 : vs 3 = _ := Rel.dep hdp 3 (by kernel_rfl); clear hdp; skip; go_simp; exact hR)
  refine Rel.rel_law (S := fun v w' => NewRow w.heap.size N 0 v w') (newRow_mono _ _ _) (fun vs wq hq hdp => ?_) ?_
  · (rw [HF.out, Rel.stepAt_eq]; have qd1 : OneR _ (vs 1) wq := Rel.dep hdp 1 (by kernel_rfl); have qd4 : vs 4 = _ := Rel.dep hdp 4 (by kernel_rfl); clear hdp; obtain ⟨b, s0, A1, k1, c1, A2, k2, c2, ev, hb, y0, y1, y2, hI⟩ := qd1; go_simp; refine (repeat_any wq y0 y1 y2 hb hI HN.out.1 HN.out.2).mono ?_; rintro e w7 ⟨cs, rfl, hR, hb7⟩; exact ⟨_, rfl, ⟨_, cs, rfl, hR, hq.size⟩, hb7⟩)
  refine Rel.rel_end (fun vs wq hq hall => ?_)
  rw [HF.out]
  have qe0 : IsRt wq _ (vs 0) := Rel.fin hall 0 (by decide)
  have qe1 : OneR _ (vs 1) wq := Rel.fin hall 1 (by decide)
  have qe2 : vs 2 = _ := Rel.fin hall 2 (by decide)
  have qe3 : vs 3 = _ := Rel.fin hall 3 (by decide)
  have qe4 : vs 4 = _ := Rel.fin hall 4 (by decide)
  have qe5 : NewRow _ _ _ (vs 5) wq := Rel.fin hall 5 (by decide)
  clear hall HF uv ue
  obtain ⟨g, cs, ev, hR, hgB⟩ := qe5
  have H0 : Hid (ExRel xs fs n N g w (.int .i64 0) wq) := Lib.hid ⟨0, cs, rfl, Nat.zero_le _, Lib.hid (by rw [← exQ_zero]; exact hR), Lib.hid hq⟩
  clear hR qe0 qe1 hq hws
  go_wp2
  go_loopw [17] (fun iv wr => ExRel xs fs n N g w iv wr) (fun iv _ => n - (intOf iv).toNat)
  case atStart => exact H0.out
  case round =>
    obtain ⟨i, cs, rfl, hi, HRr, HB⟩ := hrel
    clear H0
    by_cases hlt : i < n
    · obtain ⟨ga, s2, B1, j1, e1, B2, j2, e2, rfl, hgl, y0, y1, y2, hpj⟩ := (HX.out.below HB.out).at hlt
      obtain ⟨k, hk⟩ : ∃ k, k = rowK xs i xs.length := ⟨_, rfl⟩
      have hkN : k < N := by rw [hk]; exact HK.out i
      obtain ⟨s, A1, k1, c1, A2, k2, c2, hx0, hx1, hx2, hI⟩ := HRr.out.els k hkN
      have HS := Lib.hid (exQ_step (fs := fs) hk.symm)
      have HZ : Hid (szR (exQ xs fs i k) ≤ 200000 ∧ szR (fq fs i) ≤ 200000) := Lib.hid (by
        have z1 := dgb_sz (dgb_exQ (xs := xs) (y := k) (AllVF.less HV.out (Nat.le_of_lt hlt)) (by omega))
        have z2 := dgb_sz (dgb_vf (HV.out i hlt))
        exact ⟨by omega, by rw [show fq fs i = qf (fs.getD (2 * i) 0) (fs.getD (2 * i + 1) 0) from rfl]; omega⟩)
      have HAQ := Lib.hid (fun W (hb : Below w.heap.size w W) => HAP.out W i hb (by omega))
      rw [← hk] at HAQ
      clear hk
      go_upto_region 5 with (fail)
      obtain ⟨W1, hW1⟩ : ∃ W1, W1 = wr.alloc (.cells #[.bool s2, .slice B1 j1 e1, .slice B2 j2 e2] 87) := ⟨_, rfl⟩
      rw [← hW1]
      obtain ⟨g5, hg5⟩ : ∃ g5, g5 = wr.heap.size := ⟨_, rfl⟩
      rw [← hg5]
      have KF : Hid (Blk W1 g5 87 #[.bool s2, .slice B1 j1 e1, .slice B2 j2 e2]) := Lib.hid (by rw [hW1, hg5]; exact Blk.new wr _ _)
      have hbw : Below wr.heap.size wr W1 := by rw [hW1]; exact (Below.refl _ _).alloc (Nat.le_refl _) _
      have HR := Lib.hid (HRr.out.below hbw)
      have HI := Lib.hid (hI.below hbw)
      have HJ := Lib.hid (hpj.below hbw)
      have HB1 := Lib.hid (Base.Below.nextA HB.out hbw)
      have HA := Lib.hid (HAQ.out W1 HB1.out)
      clear hW1 hg5 hbw HRr hI hpj HB y0 y1 y2 hgl HAQ
      generalize hq0 : exQ xs fs i k = q0 at *
      have HQ0 := Lib.hid hq0
      clear hq0
      generalize fq fs i = r at *
      go_wp2_with fail
      refine HA.out.mono ?_
      rintro e w1 ⟨rfl, rfl⟩
      clear HA
      go_upto_region 6 with (fail)
      refine Rel.wp_region_rel 9 (by kernel_rfl) (by kernel_rfl) (fun F hF => ?_)
      simp only [List.take_succ_cons, List.take_zero, List.drop_succ_cons, List.drop_zero, Rel.putL] at hF ⊢
      have HF := Lib.hid hF
      clear hF
      have uv := @Rel.upon_value Tryz.prog
      have ue := @Rel.upon_enter Tryz.prog
      apply Rel.rel_pure
      apply Exists.intro
      refine ⟨fun vs wq hq hdp R hR => ?_, ?_⟩
      · (rw [HF.out, Rel.stepAt_eq]; clear hdp; skip; go_simp; exact hR)
      apply Rel.rel_pure
      apply Exists.intro
      refine ⟨fun vs wq hq hdp R hR => ?_, ?_⟩
      · (rw [HF.out, Rel.stepAt_eq]; clear hdp; skip; go_simp; exact hR)
      apply Rel.rel_pure
      apply Exists.intro
      refine ⟨fun vs wq hq hdp R hR => ?_, ?_⟩
      · (rw [HF.out, Rel.stepAt_eq]; clear hdp; skip; go_simp; exact hR)
      apply Rel.rel_pure
      apply Exists.intro
      refine ⟨fun vs wq hq hdp R hR => ?_, ?_⟩
      · (rw [HF.out, Rel.stepAt_eq]; clear hdp; skip; go_simp; exact hR)
      apply Rel.rel_pure
      apply Exists.intro
      refine ⟨fun vs wq hq hdp R hR => ?_, ?_⟩
      · (rw [HF.out, Rel.stepAt_eq]; have qd2 : vs 2 = _ := Rel.dep hdp 2 (by kernel_rfl); have qd3 : vs 3 = _ := Rel.dep hdp 3 (by kernel_rfl); clear hdp; skip; go_simp; exact hR)
      apply Rel.rel_pure
      apply Exists.intro
      refine ⟨fun vs wq hq hdp R hR => ?_, ?_⟩
      · (rw [HF.out, Rel.stepAt_eq]; have qd4 : vs 4 = _ := Rel.dep hdp 4 (by kernel_rfl); clear hdp; have x0 := (HR.out.below hq).blk.at (k * 3) hx0; have x1 := (HR.out.below hq).blk.at (k * 3 + 1) hx1; have x2 := (HR.out.below hq).blk.at (k * 3 + 2) hx2; go_simp; exact hR)
      apply Rel.rel_pure
      apply Exists.intro
      refine ⟨fun vs wq hq hdp R hR => ?_, ?_⟩
      · (rw [HF.out, Rel.stepAt_eq]; clear hdp; have y0 := (KF.out.belowS hq).at 0 (v := .bool s2) rfl; have y1 := (KF.out.belowS hq).at 1 (v := .slice B1 j1 e1) rfl; have y2 := (KF.out.belowS hq).at 2 (v := .slice B2 j2 e2) rfl; go_simp; exact hR)
      refine Rel.rel_law (S := fun v w' => IsRt w' (q0 + r) v) (isRt_mono _) (fun vs wq hq hdp => ?_) ?_
      · (rw [HF.out, Rel.stepAt_eq]; have qd5 : vs 5 = _ := Rel.dep hdp 5 (by kernel_rfl); have qd6 : vs 6 = _ := Rel.dep hdp 6 (by kernel_rfl); clear hdp; skip; go_simp; refine (ratPlus wq (HI.out.below hq) (HJ.out.below hq) HZ.out.1 HZ.out.2).mono ?_; rintro e w7 h; obtain ⟨v, rfl, hv, hb⟩ := h.is; exact ⟨_, rfl, hv, hb⟩)
      apply Rel.rel_pure
      apply Exists.intro
      refine ⟨fun vs wq hq hdp R hR => ?_, ?_⟩
      · (rw [HF.out, Rel.stepAt_eq]; have qd0 : vs 0 = _ := Rel.dep hdp 0 (by kernel_rfl); have qd1 : vs 1 = _ := Rel.dep hdp 1 (by kernel_rfl); clear hdp; skip; go_simp; exact hR)
      refine Rel.rel_end (fun vs wq hq hall => ?_)
      rw [HF.out]
      have qe0 : vs 0 = _ := Rel.fin hall 0 (by decide)
      have qe1 : vs 1 = _ := Rel.fin hall 1 (by decide)
      have qe2 : vs 2 = _ := Rel.fin hall 2 (by decide)
      have qe3 : vs 3 = _ := Rel.fin hall 3 (by decide)
      have qe4 : vs 4 = _ := Rel.fin hall 4 (by decide)
      have qe5 : vs 5 = _ := Rel.fin hall 5 (by decide)
      have qe6 : vs 6 = _ := Rel.fin hall 6 (by decide)
      have qe7 : IsRt wq _ (vs 7) := Rel.fin hall 7 (by decide)
      have qe8 : vs 8 = _ := Rel.fin hall 8 (by decide)
      clear hall HF uv ue
      obtain ⟨t, C1, m1, l1, C2, m2, l2, ev2, hI2⟩ := qe7.open
      have HRq := HR.out.below hq
      obtain ⟨cs', hput⟩ := HRq.put hkN hI2
      have HN2 : Hid (ExRel xs fs n N g w (.int .i64 ((i : Int) + 1)) (put3o wq g (k * 3) (.bool t) (.slice C1 m1 l1) (.slice C2 m2 l2))) := Lib.hid
        ⟨i + 1, cs', by simp, hlt, Lib.hid (by rw [← HS.out]; exact hput), Lib.hid (put3o_below (Base.Below.nextA HB1.out hq) hgB _ _ _)⟩
      have z0 := HRq.blk.frz (k * 3)
      have z1 := HRq.blk.frz (k * 3 + 1)
      have z2 := HRq.blk.frz (k * 3 + 2)
      have d0 := HRq.blk.at (k * 3) hx0
      have d1 := HRq.blk.at (k * 3 + 1) hx1
      have d2 := HRq.blk.at (k * 3 + 2) hx2
      unfold put3o at HN2
      clear HRq hput hI2 qe7 hq hx0 hx1 hx2 HR KF HI HJ HB1 HZ HS qe0 qe1 qe2 qe3 qe4 qe5 qe6
      go_wp2
      go_roundw
      case rel => exact HN2.out
      case measure => simp [intOf]; omega
    · obtain rfl : i = n := by omega
      have HE : Hid (RowRet N (exQ xs fs i) w (.returned (.slice (some ⟨g, 0, none⟩) N N)) wr) := Lib.hid ⟨g, cs, rfl, HRr.out, hgB, HB.out⟩
      clear HRr HB
      go_wp2
      go_ret
      exact HE.out
end Go.Proofs.YtionognmgcabbaaGreat.Ratio
/- The program's ratios: the absolute value. -/
namespace Go.Proofs.YtionognmgcabbaaGreat.Ratio
open Go.RowKit Go.Proofs.YtionognmgcabbaaGreat Go.Proofs.YtionognmgcabbaaGreat.Base Go.Proofs.YtionognmgcabbaaGreat.Mem Go.Proofs.YtionognmgcabbaaGreat.NatM Go.Proofs.YtionognmgcabbaaGreat.Nat32 Go.Proofs.YtionognmgcabbaaGreat.RatM
open Go.Proofs.YtionognmgcabbaaGreat.Inv (natOf natOf_eq len_pos Rat3 not_slice not_bool frz)
set_option linter.unusedVariables false
theorem rtAbs (s : Bool) (k1 k2 c1 c2 : Nat) (A1 A2 : Option Addr) (w : World) : Calls Tryz.prog 156 #[.agg #[.bool s, .slice A1 k1 c1, .slice A2 k2 c2]] w fun e w' => e = .returned (.agg #[.bool false, .slice A1 k1 c1, .slice A2 k2 c2]) ∧ Below w.heap.size w w' := by
  go_enter Tryz.func156, Tryz.ntmps156
  go_wp2
  refine bodyPost_ret (v := .agg #[.bool false, .slice A1 k1 c1, .slice A2 k2 c2]) (by simp [results, Tryz.results156, go_sem]) rfl ⟨rfl, ?_⟩
  exact ((Below.refl _ _).alloc (Nat.le_refl _) _).alloc (by simp) _
def absR (q : Rat) : Rat := if q < 0 then -q else q
theorem absR_parts (q : Rat) : decide (absR q < 0) = false ∧ (absR q).num.natAbs = q.num.natAbs ∧ (absR q).den = q.den := by
  unfold absR
  split
  · rename_i h
    exact ⟨by rw [decide_eq_false_iff_not]; grind, by rw [Rat.neg_num, Int.natAbs_neg], by rw [Rat.neg_den]⟩
  · rename_i h
    exact ⟨by rw [decide_eq_false_iff_not]; exact h, rfl, rfl⟩
theorem szR_abs (q : Rat) : szR (absR q) = szR q := by
  obtain ⟨_, h2, h3⟩ := absR_parts q
  unfold szR
  rw [h2, h3]
theorem ratAbs {q : Rat} {v : Value} (w : World) (hv : IsRt w q v) : Calls Tryz.prog 156 #[v] w (RV (absR q) w) := by
  obtain ⟨A1, c1, A2, c2, rfl, h1, h2⟩ := hv
  refine (rtAbs (decide (q < 0)) (natL q.num.natAbs).length (natL q.den).length c1 c2 A1 A2 w).mono ?_
  rintro e w' ⟨rfl, hb⟩
  obtain ⟨g1, g2, g3⟩ := absR_parts q
  refine ⟨A1, c1, A2, c2, ?_, ?_, ?_, hb⟩
  · rw [g1, g2, g3]
  · rw [g2]; exact (h1.below hb (Nat.le_refl _)).more hb.size
  · rw [g3]; exact (h2.below hb (Nat.le_refl _)).more hb.size
end Go.Proofs.YtionognmgcabbaaGreat.Ratio
/- Plain mathematics: rationals over a common denominator, and how great they are. No program in sight. -/
set_option linter.unusedVariables false
namespace Go.Proofs.YtionognmgcabbaaGreat.RatM
/-- q is a number over D, between -b and b -/
def Ov (D b : Nat) (q : Rat) : Prop := (∃ x : Int, q * (D : Rat) = (x : Rat)) ∧ -(b : Rat) ≤ q ∧ q ≤ (b : Rat)
theorem cast_le {a b : Nat} (h : a ≤ b) : (a : Rat) ≤ (b : Rat) := by
  obtain ⟨k, rfl⟩ := Nat.le.dest h
  rw [Rat.natCast_add]
  have : (0 : Rat) ≤ (k : Rat) := Rat.natCast_nonneg
  grind
theorem Ov.more {D b c : Nat} {q : Rat} (h : Ov D b q) (hb : b ≤ c) : Ov D c q := by
  have := cast_le hb
  refine ⟨h.1, ?_, ?_⟩
  · have := h.2.1; grind
  · have := h.2.2; grind
theorem Ov.scale {D b E : Nat} {q : Rat} (h : Ov D b q) : Ov (D * E) b q := by
  obtain ⟨⟨x, hx⟩, h2⟩ := h
  refine ⟨⟨x * E, ?_⟩, h2⟩
  rw [Rat.natCast_mul, ← Rat.mul_assoc, hx, Rat.intCast_mul]
  rfl
theorem Ov.zero (D : Nat) : Ov D 0 0 := by
  refine ⟨⟨0, by rw [Rat.zero_mul]; rfl⟩, ?_, ?_⟩ <;> decide
theorem Ov.add {D b c : Nat} {q r : Rat} (h : Ov D b q) (g : Ov D c r) : Ov D (b + c) (q + r) := by
  obtain ⟨⟨x, hx⟩, h2, h3⟩ := h
  obtain ⟨⟨y, hy⟩, g2, g3⟩ := g
  refine ⟨⟨x + y, ?_⟩, ?_, ?_⟩
  · rw [Rat.add_mul, hx, hy, Rat.intCast_add]
  · rw [Rat.natCast_add]; grind
  · rw [Rat.natCast_add]; grind
theorem Ov.neg {D b : Nat} {q : Rat} (h : Ov D b q) : Ov D b (-q) := by
  obtain ⟨⟨x, hx⟩, h2, h3⟩ := h
  refine ⟨⟨-x, ?_⟩, ?_, ?_⟩
  · rw [Rat.neg_mul, hx, Rat.intCast_neg]
  · grind
  · grind
theorem Ov.sub {D b c : Nat} {q r : Rat} (h : Ov D b q) (g : Ov D c r) : Ov D (b + c) (q - r) := by
  rw [Rat.sub_eq_add_neg]; exact h.add g.neg
theorem mul_bound {a b x y : Rat} (h1 : -a ≤ x) (h2 : x ≤ a) (g1 : -b ≤ y) (g2 : y ≤ b) (ha : 0 ≤ a) (hb : 0 ≤ b) : x * y ≤ a * b := by
  by_cases hx : 0 ≤ x
  · have e1 := Rat.mul_le_mul_of_nonneg_left (c := x) g2 hx
    have e2 := Rat.mul_le_mul_of_nonneg_right (c := b) h2 hb
    grind
  · have e1 := Rat.mul_le_mul_of_nonneg_left (c := -x) (show -y ≤ b by grind) (by grind)
    have e2 := Rat.mul_le_mul_of_nonneg_right (c := b) (show -x ≤ a by grind) hb
    grind
theorem Ov.mul {D E b c : Nat} {q r : Rat} (h : Ov D b q) (g : Ov E c r) : Ov (D * E) (b * c) (q * r) := by
  obtain ⟨⟨x, hx⟩, h2, h3⟩ := h
  obtain ⟨⟨y, hy⟩, g2, g3⟩ := g
  have hb : (0 : Rat) ≤ (b : Rat) := Rat.natCast_nonneg
  have hc : (0 : Rat) ≤ (c : Rat) := Rat.natCast_nonneg
  refine ⟨⟨x * y, ?_⟩, ?_, ?_⟩
  · rw [Rat.natCast_mul, Rat.intCast_mul, ← hx, ← hy]; grind
  · have := mul_bound (x := -q) (y := r) (a := b) (b := c) (by grind) (by grind) g2 g3 hb hc
    rw [Rat.natCast_mul]; grind
  · have := mul_bound h2 h3 g2 g3 hb hc
    rw [Rat.natCast_mul]; grind
theorem Ov.abs {D b : Nat} {q : Rat} (h : Ov D b q) : Ov D b (if q < 0 then -q else q) := by
  split
  · exact h.neg
  · exact h
theorem num_of (q : Rat) : q * (q.den : Rat) = (q.num : Rat) := by
  have h := Rat.mkRat_self q
  rw [Rat.mkRat_eq_div] at h
  have hd : (q.den : Rat) ≠ 0 := natCast_ne q.den_nz
  have e : q * (q.den : Rat) = ((q.num : Rat) / (q.den : Rat)) * (q.den : Rat) := by rw [h]
  rw [e]
  exact Rat.div_mul_cancel hd
/-- the denominator is a divisor, the numerator is not greater than that of the bound -/
theorem Ov.parts {D b : Nat} {q : Rat} (hD : 0 < D) (h : Ov D b q) : q.den ≤ D ∧ q.num.natAbs ≤ b * D := by
  obtain ⟨⟨x, hx⟩, h2, h3⟩ := h
  have hqd : (q.den : Rat) ≠ 0 := natCast_ne q.den_nz
  have e1 : q * (q.den : Rat) = (q.num : Rat) := num_of q
  have e2 : (q.num : Rat) * (D : Rat) = (x : Rat) * (q.den : Rat) := by rw [← e1, ← hx]; grind
  have e3 : q.num * (D : Int) = x * (q.den : Int) := by
    have : ((q.num * (D : Int) : Int) : Rat) = ((x * (q.den : Int) : Int) : Rat) := by
      rw [Rat.intCast_mul, Rat.intCast_mul]; exact e2
    exact Rat.intCast_inj.1 this
  have e4 : q.num.natAbs * D = x.natAbs * q.den := by
    have := congrArg Int.natAbs e3
    rw [Int.natAbs_mul, Int.natAbs_mul, Int.natAbs_natCast, Int.natAbs_natCast] at this
    exact this
  have hdvd : q.den ∣ D := by
    have h1 : q.den ∣ q.num.natAbs * D := by rw [e4]; exact Nat.dvd_mul_left _ _
    exact Nat.Coprime.dvd_of_dvd_mul_left (by rw [Nat.coprime_comm]; exact q.reduced) h1
  have hle := Nat.le_of_dvd hD hdvd
  refine ⟨hle, ?_⟩
  have hb : (q.num.natAbs : Rat) ≤ (b : Rat) * (q.den : Rat) := by
    have hd0 : (0 : Rat) ≤ (q.den : Rat) := Rat.natCast_nonneg
    have k1 := Rat.mul_le_mul_of_nonneg_right h3 hd0
    have k2 := Rat.mul_le_mul_of_nonneg_right h2 hd0
    rw [e1] at k1 k2
    rcases Int.natAbs_eq q.num with e | e
    · have : (q.num : Rat) = (q.num.natAbs : Rat) := by rw [e]; simp; rfl
      grind
    · have : (q.num : Rat) = -(q.num.natAbs : Rat) := by rw [e]; simp; rfl
      grind
  have hb2 : ((q.num.natAbs : Nat) : Rat) ≤ ((b * q.den : Nat) : Rat) := by rw [Rat.natCast_mul]; exact hb
  have := Rat.natCast_le_natCast.1 hb2
  exact Nat.le_trans this (Nat.mul_le_mul_left b hle)
end Go.Proofs.YtionognmgcabbaaGreat.RatM
/- Plain: the distance of chances; sizes over a common denominator. -/
namespace Go.Proofs.YtionognmgcabbaaGreat.Ratio
open Go.RowKit Go.Proofs.YtionognmgcabbaaGreat Go.Proofs.YtionognmgcabbaaGreat.Base Go.Proofs.YtionognmgcabbaaGreat.Mem Go.Proofs.YtionognmgcabbaaGreat.NatM Go.Proofs.YtionognmgcabbaaGreat.Nat32 Go.Proofs.YtionognmgcabbaaGreat.RatM Go.Proofs.YtionognmgcabbaaGreat.GaussM Go.Proofs.YtionognmgcabbaaGreat.ChM
set_option linter.unusedVariables false
theorem qf_half : qf 1 2 = (2 : Rat)⁻¹ := by decide +kernel
/-- the distance of lists -/
def disR (n : Nat) (f g : Nat → Rat) : Rat := sumR n (fun i => absR (f i - g i)) * (2 : Rat)⁻¹
theorem disR_congr {n : Nat} {f f' g g' : Nat → Rat} (h1 : ∀ i, i < n → f i = f' i) (h2 : ∀ i, i < n → g i = g' i) : disR n f g = disR n f' g' := by
  unfold disR
  rw [sumR_congr fun j hj => by rw [h1 j hj, h2 j hj]]
theorem ov_abs {D b : Nat} {q : Rat} (h : Ov D b q) : Ov D b (absR q) := h.abs
theorem ov_sum {D b n : Nat} {f : Nat → Rat} (h : ∀ i, i < n → Ov D b (f i)) : Ov D (n * b) (sumR n f) := by
  induction n with
  | zero => rw [Nat.zero_mul]; exact Ov.zero D
  | succ n ih =>
    rw [Nat.add_mul, Nat.one_mul]
    exact (ih fun i hi => h i (by omega)).add (h n (by omega))
/-- how great such a number is -/
theorem ov_dg {D b m : Nat} {q : Rat} (hD : 0 < D) (h : Ov D b q) (hm : D < B32 ^ m) (hm2 : b * D < B32 ^ m) : Dg (B32 ^ m) q := by
  obtain ⟨h1, h2⟩ := h.parts hD
  exact ⟨by omega, by omega⟩
theorem ov_sz {D b m : Nat} {q : Rat} (hD : 0 < D) (hb : 0 < b) (h : Ov D b q) (hm : b * D < B32 ^ m) : szR q ≤ 2 * m := by
  refine dgb_sz (ov_dg hD h ?_ hm)
  exact Nat.lt_of_le_of_lt (Nat.le_mul_of_pos_left D hb) hm
/-- the product of the denominators -/
def denP (fs : List Int) : Nat → Nat
  | 0 => 1
  | n + 1 => denP fs n * (fs.getD (2 * n + 1) 0).toNat
theorem denP_pos {fs : List Int} : ∀ {n : Nat}, AllVF fs n → 0 < denP fs n
  | 0, _ => Nat.one_pos
  | n + 1, h => Nat.mul_pos (denP_pos fun i hi => h i (by omega)) (by have := (h n (by omega)).1; omega)
theorem denP_le {fs : List Int} : ∀ {n : Nat}, AllVF fs n → denP fs n ≤ 1000000000000000000 ^ n
  | 0, _ => Nat.le_refl _
  | n + 1, h => by
    rw [Nat.pow_succ]
    refine Nat.mul_le_mul (denP_le fun i hi => h i (by omega)) ?_
    have := (h n (by omega)).2.1
    omega
theorem denP_dvd {fs : List Int} : ∀ {n i : Nat}, i < n → (fs.getD (2 * i + 1) 0).toNat ∣ denP fs n
  | 0, _, h => absurd h (Nat.not_lt_zero _)
  | n + 1, i, h => by
    rcases Nat.lt_or_ge i n with h1 | h1
    · exact Nat.dvd_trans (denP_dvd h1) (Nat.dvd_mul_right _ _)
    · obtain rfl : i = n := by omega
      exact Nat.dvd_mul_left _ _
theorem ov_of {q : Rat} {D b : Nat} (hd : q.den ∣ D) (hn : q.num.natAbs ≤ b) : Ov D b q := by
  obtain ⟨k, rfl⟩ := hd
  have e1 : q * (q.den : Rat) = (q.num : Rat) := num_of q
  have h1 : (1 : Rat) ≤ (q.den : Rat) := by
    have := cast_le (show 1 ≤ q.den from q.den_pos)
    exact this
  have hb0 : (0 : Rat) ≤ (b : Rat) := Rat.natCast_nonneg
  have hb : -(b : Rat) ≤ (q.num : Rat) ∧ (q.num : Rat) ≤ (b : Rat) := by
    have h2 := cast_le hn
    have h0 : (0 : Rat) ≤ ((q.num.natAbs : Nat) : Rat) := Rat.natCast_nonneg
    rcases Int.natAbs_eq q.num with e | e
    · have : (q.num : Rat) = (q.num.natAbs : Rat) := by rw [e]; simp; rfl
      exact ⟨by grind, by grind⟩
    · have : (q.num : Rat) = -(q.num.natAbs : Rat) := by rw [e]; simp; rfl
      exact ⟨by grind, by grind⟩
  refine ⟨⟨q.num * (k : Int), ?_⟩, ?_, ?_⟩
  · rw [Rat.natCast_mul, ← Rat.mul_assoc, e1, Rat.intCast_mul]; rfl
  · by_cases h : 0 ≤ q
    · grind
    · have h2 := Rat.mul_le_mul_of_nonneg_left (c := -q) h1 (by grind)
      grind
  · by_cases h : 0 ≤ q
    · have h2 := Rat.mul_le_mul_of_nonneg_left (c := q) h1 h
      grind
    · grind
theorem ov_vf {n d : Int} {D : Nat} (h : VF n d) (hd : d.toNat ∣ D) : Ov D 1000000000000000000 (qf n d) := by
  obtain ⟨g1, g2, _⟩ := h.num
  refine ov_of ?_ ?_
  · rw [show (qf n d).den = d.toNat by omega]; exact hd
  · rw [g1]; have := h.2.2.1; have := h.2.2.2.1; omega
theorem ov_fq {fs : List Int} {n i : Nat} (h : AllVF fs n) (hi : i < n) : Ov (denP fs n) 1000000000000000000 (fq fs i) := ov_vf (h i hi) (denP_dvd hi)
end Go.Proofs.YtionognmgcabbaaGreat.Ratio
/- Plain: steps of a walk, and how great their numbers are. -/
namespace Go.Proofs.YtionognmgcabbaaGreat.Ratio
open Go.RowKit Go.Proofs.YtionognmgcabbaaGreat Go.Proofs.YtionognmgcabbaaGreat.Base Go.Proofs.YtionognmgcabbaaGreat.Mem Go.Proofs.YtionognmgcabbaaGreat.NatM Go.Proofs.YtionognmgcabbaaGreat.Nat32 Go.Proofs.YtionognmgcabbaaGreat.RatM Go.Proofs.YtionognmgcabbaaGreat.GaussM Go.Proofs.YtionognmgcabbaaGreat.ChM
set_option linter.unusedVariables false
/-- the chances behind a step -/
def stepR (n : Nat) (M : Nat → Nat → Rat) (p : Nat → Rat) : Nat → Rat := fun k => sumR n (fun i => p i * M i k)
def runR (n : Nat) (M : Nat → Nat → Rat) (p : Nat → Rat) : Nat → Nat → Rat
  | 0 => p
  | t + 1 => stepR n M (runR n M p t)
theorem stepR_congr {n : Nat} {M M' : Nat → Nat → Rat} {p p' : Nat → Rat} (h1 : ∀ i, i < n → p i = p' i) (h2 : ∀ i k, i < n → k < n → M i k = M' i k) {k : Nat} (hk : k < n) : stepR n M p k = stepR n M' p' k :=
  sumR_congr fun j hj => by rw [h1 j hj, h2 j k hj hk]
theorem ov_step {n D E b e : Nat} {M : Nat → Nat → Rat} {p : Nat → Rat} (hp : ∀ i, i < n → Ov D b (p i)) (hM : ∀ i k, i < n → k < n → Ov E e (M i k)) {k : Nat} (hk : k < n) : Ov (D * E) (n * (b * e)) (stepR n M p k) :=
  ov_sum fun i hi => (hp i hi).mul (hM i k hi hk)
theorem ov_run {n D E b e : Nat} {M : Nat → Nat → Rat} {p : Nat → Rat} (hp : ∀ i, i < n → Ov D b (p i)) (hM : ∀ i k, i < n → k < n → Ov E e (M i k)) : ∀ t k, k < n → Ov (D * E ^ t) (b * (n * e) ^ t) (runR n M p t k)
  | 0, k, hk => by
    show Ov (D * E ^ 0) (b * (n * e) ^ 0) (p k)
    simpa using hp k hk
  | t + 1, k, hk => by
    have := ov_step (fun i hi => ov_run hp hM t i hi) hM hk
    have e1 : D * E ^ (t + 1) = D * E ^ t * E := by rw [Nat.pow_succ, Nat.mul_assoc]
    have e2 : b * (n * e) ^ (t + 1) = n * (b * (n * e) ^ t * e) := by
      rw [Nat.pow_succ]
      generalize (n * e) ^ t = X
      rw [Nat.mul_comm n (b * X * e), Nat.mul_assoc (b * X) e n, ← Nat.mul_assoc b X (n * e), Nat.mul_comm e n]
    rw [e1, e2]
    exact this
/-- the rows of a walk -/
def wM (fs : Nat → List Int) : Nat → Nat → Rat := fun i k => fq (fs i) k
/-- the product of all denominators -/
def denW (fs : Nat → List Int) (n : Nat) : Nat → Nat
  | 0 => 1
  | i + 1 => denW fs n i * denP (fs i) n
theorem denW_pos {fs : Nat → List Int} {n : Nat} : ∀ {m : Nat}, (∀ i, i < m → AllVF (fs i) n) → 0 < denW fs n m
  | 0, _ => Nat.one_pos
  | m + 1, h => Nat.mul_pos (denW_pos fun i hi => h i (by omega)) (denP_pos (h m (by omega)))
theorem denW_le {fs : Nat → List Int} {n : Nat} : ∀ {m : Nat}, (∀ i, i < m → AllVF (fs i) n) → denW fs n m ≤ (1000000000000000000 ^ n) ^ m
  | 0, _ => Nat.le_refl _
  | m + 1, h => by
    rw [Nat.pow_succ]
    exact Nat.mul_le_mul (denW_le fun i hi => h i (by omega)) (denP_le (h m (by omega)))
theorem denW_dvd {fs : Nat → List Int} {n : Nat} : ∀ {m i k : Nat}, i < m → k < n → ((fs i).getD (2 * k + 1) 0).toNat ∣ denW fs n m
  | 0, _, _, h, _ => absurd h (Nat.not_lt_zero _)
  | m + 1, i, k, h, hk => by
    rcases Nat.lt_or_ge i m with h1 | h1
    · exact Nat.dvd_trans (denW_dvd h1 hk) (Nat.dvd_mul_right _ _)
    · obtain rfl : i = m := by omega
      exact Nat.dvd_trans (denP_dvd hk) (Nat.dvd_mul_left _ _)
theorem ov_wM {fs : Nat → List Int} {n m i k : Nat} (h : ∀ i, i < m → AllVF (fs i) n) (hi : i < m) (hk : k < n) : Ov (denW fs n m) 1000000000000000000 (wM fs i k) := ov_vf (h i hi k hk) (denW_dvd hi hk)
end Go.Proofs.YtionognmgcabbaaGreat.Ratio

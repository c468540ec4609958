/- The text of a stream, of the program; the law. -/
import Derived.Test.YtjajemdeioabkaaDoorStTx
import Derived.Test.YtjajemdeioabkaaDoorOpenT
namespace Go.Proofs.YtjajemdeioabkaaDoor.StTx
open Go.RowKit Go.Proofs.YtjajemdeioabkaaDoor Go.Proofs.YtjajemdeioabkaaDoor.Base Go.Proofs.YtjajemdeioabkaaDoor.Mem Go.Proofs.YtjajemdeioabkaaDoor.Dec Go.Proofs.YtjajemdeioabkaaDoor.Str Go.Proofs.YtjajemdeioabkaaDoor.Take
set_option linter.unusedVariables false
set_option maxHeartbeats 2000000 in
set_option maxRecDepth 100000 in
theorem streamText_any (K W T m f a s : Int) (w : World) (hp : Pow w.heap.size w) (hv : streamB K W T m f a s = true) :
    Calls Tryd.prog 23 #[.agg #[.int .i64 K, .int .i64 W, .int .i64 T, .int .i64 m, .int .i64 f, .int .i64 a, .int .i64 s]] w fun e w' => e = .returned (.string (tx (textS K W T m f a s))) ∧ Below w.heap.size w w' := by
  by_cases hK : K = 0
  · subst hK
    obtain ⟨WX, hWX⟩ : ∃ WX, WX = ((w.alloc (.cells #[.int .i64 0, .int .i64 W, .int .i64 T, .int .i64 m, .int .i64 f, .int .i64 a, .int .i64 s] 33)).alloc (.cells #[.int .i64 W, .int .i64 T, .int .i64 s] 2)) := ⟨_, rfl⟩
    have b0 : Below w.heap.size w WX := by rw [hWX]; exact ((Below.refl _ _).alloc (Nat.le_refl _) _).alloc (by simp) _
    obtain ⟨WB, hWB⟩ : ∃ WB, WB = w.heap.size + 1 := ⟨_, rfl⟩
    have HX : Hid (RdI WX WX.heap.size (some ⟨WB, 0, none⟩) [W, T, s]) := Lib.hid (by rw [hWX, hWB]; have := rd3 (w.alloc (.cells #[.int .i64 0, .int .i64 W, .int .i64 T, .int .i64 m, .int .i64 f, .int .i64 a, .int .i64 s] 33)) W T s; simp only [World.size_alloc] at this ⊢; exact this)
    have HF : Hid (Fit [W, T, s]) := Lib.hid (fit3 (by simp [streamB] at hv; exact hv.2))
    have HR : Hid (textS 0 W T m f a s = joinTo [114] [W, T, s] 3) := Lib.hid (by simp [textS])
    have HPX := Lib.hid (fun w' (h : Below WX.heap.size WX w') => (show Pow WX.heap.size w' from fun w2 h2 => hp w2 (b0.trans ((h.trans h2).mono b0.size))))
    have HPX : Hid (Pow WX.heap.size WX) := Lib.hid (HPX.out WX (Below.refl _ _))
    have HB0 := Lib.hid b0
    have HWX := Lib.hid hWX
    have hWB2 := hWB
    clear hp hv b0 hWX
    go_enter Tryd.func23, Tryd.ntmps23
    go_wp2
    rw [← HWX.out]
    rw [← hWB]
    clear hWB hWB2
    go_loopw [4, 33] (fun o i wr => ∃ k : Nat, k ≤ 3 ∧ i = .int .i64 (k : Int) ∧ o = .string (tx (joinTo [114] [W, T, s] k)) ∧ Hid (Below WX.heap.size WX wr)) (fun _ i _ => 3 - (intOf i).toNat)
    case atStart => exact ⟨0, Nat.zero_le _, rfl, rfl, Lib.hid (Below.refl _ _)⟩
    case round =>
      obtain ⟨k, hk, rfl, rfl, HB⟩ := hrel
      by_cases hlt : k < 3
      · obtain ⟨b, off, eb, hbB, hc⟩ := HX.out (by simp)
        cases eb
        have g0 := (HB.out.cell (p := ⟨WB, 0 + k, none⟩) hbB).trans (hc k (by simpa using hlt))
        rw [Nat.zero_add] at g0
        obtain ⟨u, d, o, a1, a2, e1, e2, e3, e4, r1, r2, e5⟩ := joinStep HF.out [114] (by decide) k (by simpa using hlt)
        have HD := Lib.hid (decimal_any u (by omega) WX.heap.size wr (HPX.out.on HB.out) HB.out.size)
        have hws := HB.out.size
        rw [e3] at HD
        rw [e1] at g0
        have E5 := Lib.hid e5
        rw [e4]
        clear hc e1 e3 e4 e5
        go_wp2_with (go_at_call 35; refine HD.out.mono ?_; rintro e w1 ⟨rfl, hb1⟩)
        go_roundw
        case rel => exact ⟨k + 1, hlt, by go_num, by rw [E5.out], Lib.hid (HB.out.trans (hb1.mono hws))⟩
        case measure => simp [intOf]; omega
      · obtain rfl : k = 3 := by omega
        go_wp2
        go_ret
        exact ⟨HR.out.symm ▸ rfl, HB0.out.trans (HB.out.mono HB0.out.size)⟩
  · have hK1 : K = 1 := by
      by_cases h : K = 1
      · exact h
      · simp [streamB, hK, h] at hv
    subst hK1
    clear hK
    obtain ⟨WX, hWX⟩ : ∃ WX, WX = (((w.alloc (.cells #[.int .i64 1, .int .i64 W, .int .i64 T, .int .i64 m, .int .i64 f, .int .i64 a, .int .i64 s] 33)).alloc (.cells #[.int .i64 W, .int .i64 T, .int .i64 s] 2)).alloc (.cells #[.int .i64 m, .int .i64 f, .int .i64 a, .int .i64 s] 2)).drew := ⟨_, rfl⟩
    have b0 : Below w.heap.size w WX := by rw [hWX]; exact ((((Below.refl _ _).alloc (Nat.le_refl _) _).alloc (by simp) _).alloc (by simp; omega) _).drew
    obtain ⟨WB, hWB⟩ : ∃ WB, WB = w.heap.size + 1 + 1 := ⟨_, rfl⟩
    have HX : Hid (RdI WX WX.heap.size (some ⟨WB, 0, none⟩) [m, f, a, s]) := Lib.hid (by
      rw [hWX, hWB]
      have := (rd4 ((w.alloc (.cells #[.int .i64 1, .int .i64 W, .int .i64 T, .int .i64 m, .int .i64 f, .int .i64 a, .int .i64 s] 33)).alloc (.cells #[.int .i64 W, .int .i64 T, .int .i64 s] 2)) m f a s).below ((Below.refl _ _).drew) (Nat.le_refl _)
      have e : ∀ W : World, W.drew.heap.size = W.heap.size := fun _ => rfl
      simp only [World.size_alloc, e] at this ⊢
      exact this)
    have HF : Hid (Fit [m, f, a, s]) := Lib.hid (fit4 (by simp [streamB] at hv; exact hv.2))
    have HR : Hid (textS 1 W T m f a s = joinTo [99] [m, f, a, s] 4) := Lib.hid (by simp [textS])
    have HPX : Hid (Pow WX.heap.size WX) := Lib.hid (fun w2 h2 => hp w2 (b0.trans (h2.mono b0.size)))
    have HB0 := Lib.hid b0
    have HWX := Lib.hid hWX
    clear hp hv b0 hWX
    go_enter Tryd.func23, Tryd.ntmps23
    go_wp2
    go_region
    rw [← HWX.out]
    rw [← hWB]
    clear hWB
    go_wp2
    go_loopw [4, 33] (fun o i wr => ∃ k : Nat, k ≤ 4 ∧ i = .int .i64 (k : Int) ∧ o = .string (tx (joinTo [99] [m, f, a, s] k)) ∧ Hid (Below WX.heap.size WX wr)) (fun _ i _ => 4 - (intOf i).toNat)
    case atStart => exact ⟨0, Nat.zero_le _, rfl, rfl, Lib.hid (Below.refl _ _)⟩
    case round =>
      obtain ⟨k, hk, rfl, rfl, HB⟩ := hrel
      by_cases hlt : k < 4
      · obtain ⟨b, off, eb, hbB, hc⟩ := HX.out (by simp)
        cases eb
        have g0 := (HB.out.cell (p := ⟨WB, 0 + k, none⟩) hbB).trans (hc k (by simpa using hlt))
        rw [Nat.zero_add] at g0
        obtain ⟨u, d, o, a1, a2, e1, e2, e3, e4, r1, r2, e5⟩ := joinStep HF.out [99] (by decide) k (by simpa using hlt)
        have HD := Lib.hid (decimal_any u (by omega) WX.heap.size wr (HPX.out.on HB.out) HB.out.size)
        have hws := HB.out.size
        rw [e3] at HD
        rw [e1] at g0
        have E5 := Lib.hid e5
        rw [e4]
        clear hc e1 e3 e4 e5
        go_wp2_with (go_at_call 35; refine HD.out.mono ?_; rintro e w1 ⟨rfl, hb1⟩)
        go_roundw
        case rel => exact ⟨k + 1, hlt, by go_num, by rw [E5.out], Lib.hid (HB.out.trans (hb1.mono hws))⟩
        case measure => simp [intOf]; omega
      · obtain rfl : k = 4 := by omega
        go_wp2
        go_ret
        exact ⟨HR.out.symm ▸ rfl, HB0.out.trans (HB.out.mono HB0.out.size)⟩
set_option maxHeartbeats 1000000 in
theorem implText_any (K W T m f a s : Int) (w : World) (hp : Pow w.heap.size w) : Calls Tryd.prog 8 #[.agg #[.int .i64 K, .int .i64 W, .int .i64 T, .int .i64 m, .int .i64 f, .int .i64 a, .int .i64 s]] w (TxRet K W T m f a s w) := by
  have b0 : Below w.heap.size w (w.alloc (.cells #[.int .i64 K, .int .i64 W, .int .i64 T, .int .i64 m, .int .i64 f, .int .i64 a, .int .i64 s] 33)) := (Below.refl _ _).alloc (Nat.le_refl _) _
  have HT := Lib.hid (fun (h : streamB K W T m f a s = true) w1 (h1 : Below w.heap.size w w1) => streamText_any K W T m f a s w1 (fun w2 h2 => hp w2 (h1.trans (h2.mono h1.size))) h)
  have HV := Lib.hid (fun w => validStream_any K W T m f a s w)
  clear hp
  unfold TxRet
  cases hv : streamB K W T m f a s
  · rw [hv] at HV
    go_enter Tryd.func8, Tryd.ntmps8
    go_wp2_with fail
    refine (HV.out _).mono ?_
    rintro e w1 ⟨rfl, b1⟩
    go_wp2
    go_ret2
    exact ⟨rfl, Base.Below.boxed b1⟩
  · rw [hv] at HV
    have HT2 := Lib.hid (HT.out hv)
    clear HT
    generalize tx (textS K W T m f a s) = R at *
    go_enter Tryd.func8, Tryd.ntmps8
    go_wp2_with fail
    refine (HV.out _).mono ?_
    rintro e w1 ⟨rfl, b1⟩
    have b2 := Base.Below.boxed b1
    have d0 : w1.cell? ⟨w.heap.size, 0, none⟩ = some (.int .i64 K) := box_cells b1 0
    have d1 : w1.cell? ⟨w.heap.size, 1, none⟩ = some (.int .i64 W) := box_cells b1 1
    have d2 : w1.cell? ⟨w.heap.size, 2, none⟩ = some (.int .i64 T) := box_cells b1 2
    have d3 : w1.cell? ⟨w.heap.size, 3, none⟩ = some (.int .i64 m) := box_cells b1 3
    have d4 : w1.cell? ⟨w.heap.size, 4, none⟩ = some (.int .i64 f) := box_cells b1 4
    have d5 : w1.cell? ⟨w.heap.size, 5, none⟩ = some (.int .i64 a) := box_cells b1 5
    have d6 : w1.cell? ⟨w.heap.size, 6, none⟩ = some (.int .i64 s) := box_cells b1 6
    go_wp2_with fail
    refine (HT2.out w1 b2).mono ?_
    rintro e w2 ⟨rfl, b3⟩
    go_wp2
    go_ret2
    exact ⟨rfl, Base.Below.nextA b2 b3⟩
set_option maxHeartbeats 1000000 in
theorem exactText_any (K W T m f a s : Int) (w : World) (hp : Pow w.heap.size w) :
    Calls Tryd.prog 3 #[.agg #[.int .i64 K, .int .i64 W, .int .i64 T, .int .i64 m, .int .i64 f, .int .i64 a, .int .i64 s]] w fun e w' => e = .returned (.bool true) ∧ Below w.heap.size w w' := by
  have HP := Lib.hid hp
  clear hp
  go_enter Tryd.func3, Tryd.ntmps3
  go_wp2_with fail
  refine (toStream_any K W T m f a s _).mono ?_
  rintro e w1 ⟨rfl, b1⟩
  go_wp2_with fail
  refine (specText_any K W T m f a s _).mono ?_
  rintro e w2 ⟨rfl, b2⟩
  have hb := Base.Below.nextA b1 b2
  have hb2 := Base.Below.boxed hb
  have d0 : w2.cell? ⟨w.heap.size, 0, none⟩ = some (.int .i64 K) := box_cells hb 0
  have d1 : w2.cell? ⟨w.heap.size, 1, none⟩ = some (.int .i64 W) := box_cells hb 1
  have d2 : w2.cell? ⟨w.heap.size, 2, none⟩ = some (.int .i64 T) := box_cells hb 2
  have d3 : w2.cell? ⟨w.heap.size, 3, none⟩ = some (.int .i64 m) := box_cells hb 3
  have d4 : w2.cell? ⟨w.heap.size, 4, none⟩ = some (.int .i64 f) := box_cells hb 4
  have d5 : w2.cell? ⟨w.heap.size, 5, none⟩ = some (.int .i64 a) := box_cells hb 5
  have d6 : w2.cell? ⟨w.heap.size, 6, none⟩ = some (.int .i64 s) := box_cells hb 6
  generalize hR : (if streamB K W T m f a s = true then tx (textS K W T m f a s) else { data := #[] }) = R at *
  generalize hok : streamB K W T m f a s = ok at *
  have HR := Lib.hid hR
  have HO := Lib.hid hok
  have HB2 := Lib.hid hb2
  have hbb : (ok != ok) = false := by simp
  clear hR hok b1 b2 hb hb2
  go_wp2_with fail
  refine (toStream_any K W T m f a s _).mono ?_
  rintro e w3 ⟨rfl, b3⟩
  have b4 := Base.Below.nextA HB2.out b3
  have HI := Lib.hid (implText_any K W T m f a s w3 (fun w5 h5 => HP.out w5 (b4.trans (h5.mono b4.size))))
  have HB4 := Lib.hid b4
  unfold TxRet at HI
  rw [HO.out, HR.out] at HI
  clear b3 b4 d0 d1 d2 d3 d4 d5 d6
  go_wp2_with fail
  refine HI.out.mono ?_
  rintro e w5 ⟨rfl, b5⟩
  go_wp2
  go_ret
  exact ⟨rfl, Base.Below.nextA HB4.out b5⟩
theorem exactText_v {w : World} {v : Value} (h : Open.IsStream v) (hp : Pow w.heap.size w) : Calls Tryd.prog 3 #[v] w fun e w' => e = .returned (.bool true) ∧ Below w.heap.size w w' := by
  obtain ⟨K, W, T, m, f, a, s, rfl⟩ := h.ex
  exact exactText_any K W T m f a s w hp
end Go.Proofs.YtjajemdeioabkaaDoor.StTx

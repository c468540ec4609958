/- A lab in which a name that is not there is given a stream, at its place. -/
import Derived.Test.YtgipnbeipfhekaaGreatDoorMgFnL12
import Derived.Test.YtgipnbeipfhekaaGreatDoorMgFnL16
import Derived.Test.YtgipnbeipfhekaaGreatDoorMgFnL00
set_option linter.unusedVariables false
set_option linter.unusedSimpArgs false
namespace Go.Proofs.YtgipnbeipfhekaaGreatDoor
namespace LcW
open Go.RowKit Base Mem MemS LabM LabV StM CarM LcA LcC LcI LcM
open Take (SBox)
theorem bsGo_le (less : Nat → Bool) : ∀ (f lo hi : Nat), lo ≤ hi → Lib.bsGo less f lo hi ≤ hi
 | 0, lo, hi, h => h
 | f + 1, lo, hi, h => by
  unfold Lib.bsGo
  split
  ·split
   ·exact bsGo_le less f _ _ (by omega)
   ·exact Nat.le_trans (bsGo_le less f _ _ (by omega)) (by omega)
  ·exact h
theorem pos_le (ss : List ByteArray) (x : ByteArray) : posS ss x ≤ ss.length := bsGo_le _ _ _ _ (Nat.zero_le _)
theorem one_texts (ss : List ByteArray) : ∀ u ∈ texts ss, u.oneCell' = true := fun u hu => by
 obtain ⟨s, _, rfl⟩ := List.mem_map.1 hu
 rfl
theorem one_ints (xs : List Int) : ∀ u ∈ ints xs, u.oneCell' = true := fun u hu => by
 obtain ⟨s, _, rfl⟩ := List.mem_map.1 hu
 rfl
theorem own_none {w : World} {B n c sz : Nat} {e : TypeId} {A : Option Addr} {xs : List Value} (hO : w.ownsRow B e sz (.slice A n c) n xs) : (A = none ∧ n = 0) ∨ ∃ g, A = some ⟨g, 0, none⟩ := by
 rcases hO.2 with ⟨hv, h0⟩ | ⟨g, cap, cur, hv, _⟩
 ·injection hv with e1; exact .inl ⟨e1, h0⟩
 ·injection hv with e1; exact .inr ⟨g, e1⟩
theorem insT_any (A : Option Addr) (n c B vb p : Nat) (xs : List Value) (x : Value) (w : World) (hO : w.ownsRow B 9 1 (.slice A n c) n xs) (hB : B ≤ w.heap.size) (hn : n ≤ 1000) (hp : p ≤ n) (hx : x.oneCell' = true) (h1 : ∀ u ∈ xs, u.oneCell' = true)
  (hv : Blk.Blk w vb 9 #[x]) (hne : ∀ g, A = some ⟨g, 0, none⟩ → vb ≠ g) :
  Calls Tryz.prog 185 #[.slice A n c, .int .i64 (p : Int), .slice (some ⟨vb, 0, none⟩) 1 1] w fun e w' => ∃ A' c', e = .returned (.slice A' (n + 1) c') ∧ w'.ownsRow B 9 1 (.slice A' (n + 1) c') (n + 1) (xs.take p ++ [x] ++ xs.drop p) ∧ w.grownBy w' (Value.slice A n c).ownBlock := by
 have hxl : xs.length = n := by simpa using hO.1
 by_cases h : p = n
 ·subst h
  rw [List.take_of_length_le (by omega), List.drop_of_length_le (by omega), List.append_nil]
  exact insT_end A p c B vb xs [x] w hO hB hn rfl (by simpa using hx) (blkNews hv)
 ·rcases own_none hO with ⟨rfl, h0⟩ | ⟨g, rfl⟩
  ·omega
  ·exact insT_mid g n c B vb p xs x w hO hB hn (by omega) hx h1 hv (hne g rfl)
theorem insS_any (A : Option Addr) (n c B vb p : Nat) (xs news : List Value) (w : World) (hO : w.ownsRow B 29 7 (.slice A n c) n xs) (hB : B ≤ w.heap.size) (hn : n ≤ 1000) (hp : p ≤ n) (hl : news.length = 7) (hx : ∀ u ∈ news, u.oneCell' = true) (h1 : ∀ u ∈ xs, u.oneCell' = true)
  (hv : Blk.Blk w vb 29 news.toArray) (hne : ∀ g, A = some ⟨g, 0, none⟩ → vb ≠ g) :
  Calls Tryz.prog 186 #[.slice A n c, .int .i64 (p : Int), .slice (some ⟨vb, 0, none⟩) 1 1] w fun e w' => ∃ A' c', e = .returned (.slice A' (n + 1) c') ∧ w'.ownsRow B 29 7 (.slice A' (n + 1) c') (n + 1) (xs.take (p * 7) ++ news ++ xs.drop (p * 7)) ∧ w.grownBy w' (Value.slice A n c).ownBlock := by
 have hxl : xs.length = n * 7 := hO.1
 by_cases h : p = n
 ·subst h
  rw [List.take_of_length_le (by omega), List.drop_of_length_le (by omega), List.append_nil]
  exact insS_end A p c B vb xs news w hO hB hn hl hx (by have := blkNews hv; simpa using this)
 ·rcases own_none hO with ⟨rfl, h0⟩ | ⟨g, rfl⟩
  ·omega
  ·exact insS_mid g n c B vb p xs news w hO hB hn (by omega) hl hx h1 hv (hne g rfl)
set_option maxHeartbeats 4000000 in
set_option maxRecDepth 100000 in
theorem with_ins (L : Lb) (v : Value) (x : ByteArray) (r : St) (w : World) (h : LabAt w v L) (hl : L.1.length = L.2.length) (hn : L.1.length ≤ 6) (hh : hasS L.1 x = false) (hsz : ∀ i, i < L.1.length → (L.1.getD i ByteArray.empty).size ≤ 9223372036854775807) (hsx : x.size ≤ 9223372036854775807) :
  Calls Tryz.prog 139 #[v, .string x, r.val] w fun e w' => ∃ v', e = .returned (.tuple #[v', .bool (labR (withR L x r))]) ∧ LabOwn w.heap.size w' v' (withR L x r) ∧ Below w.heap.size w w' := by
 obtain ⟨p, hpv⟩ : ∃ p, p = posS L.1 x := ⟨_, rfl⟩
 have hp1 : p ≤ L.1.length := by rw [hpv]; exact pos_le _ _
 have HR : Hid (withR L x r = (L.1.take p ++ x :: L.1.drop p, L.2.take p ++ r :: L.2.drop p)) := J (by unfold withR; rw [hh, hpv]; rfl)
 rw [HR.out]
 obtain ⟨nl, hnl⟩ : ∃ nl, nl = L.2.take p ++ r :: L.2.drop p := ⟨_, rfl⟩
 obtain ⟨ns, hns⟩ : ∃ ns, ns = L.1.take p ++ x :: L.1.drop p := ⟨_, rfl⟩
 have hfl : ints (flat nl) = (ints (flat L.2)).take (p * 7) ++ [.int .i64 r.K, .int .i64 r.W, .int .i64 r.T, .int .i64 r.m, .int .i64 r.f, .int .i64 r.a, .int .i64 r.s] ++ (ints (flat L.2)).drop (p * 7) := by rw [hnl, flat_ins, Nat.mul_comm p 7]; simp [ints, St.l, List.map_take, List.map_drop]
 have htx : texts ns = (texts L.1).take p ++ [.string x] ++ (texts L.1).drop p := by rw [hns]; simp [texts, List.map_take, List.map_drop]
 have hll2 : nl.length = L.2.length + 1 := by rw [hnl]; simp; omega
 have hll1 : ns.length = L.1.length + 1 := by rw [hns]; simp; omega
 have hsn : ∀ i, i < ns.length → (ns.getD i ByteArray.empty).size ≤ 9223372036854775807 := fun i hi => by
  have hm : ∀ t ∈ ns, t.size ≤ 9223372036854775807 := fun t ht => by
   have hL : ∀ u ∈ L.1, u.size ≤ 9223372036854775807 := fun u hu => by
    obtain ⟨j, hj, e⟩ := List.getElem_of_mem hu
    have := hsz j hj
    rw [List.getD_eq_getElem?_getD, List.getElem?_eq_getElem hj, e] at this
    exact this
   rw [hns] at ht
   rcases List.mem_append.1 ht with h | h
   ·exact hL _ (List.mem_of_mem_take h)
   ·rcases List.mem_cons.1 h with h | h
    ·rw [h]; exact hsx
    ·exact hL _ (List.mem_of_mem_drop h)
  rw [List.getD_eq_getElem?_getD, List.getElem?_eq_getElem hi]
  exact hm _ (List.getElem_mem hi)
 rw [← hnl, ← hns]
 obtain ⟨ok, hok⟩ : ∃ ok, ok = labR (ns, nl) := ⟨_, rfl⟩
 rw [← hok]
 have hv0 := h
 obtain ⟨A, c, A', c', rfl, hx, hy, _⟩ := h
 obtain ⟨W3, hW3⟩ : ∃ W3, W3 = ((w.alloc (.cells #[.slice A L.1.length c, .slice A' L.2.length c'] 53)).alloc (.cells #[.int .i64 r.K, .int .i64 r.W, .int .i64 r.T, .int .i64 r.m, .int .i64 r.f, .int .i64 r.a, .int .i64 r.s] 29)).alloc (.cells #[.slice none 0 0, .slice none 0 0] 53) := ⟨_, rfl⟩
 have b3 : Below w.heap.size w W3 := by rw [hW3]; exact (((Below.refl _ _).alloc (Nat.le_refl _) _).alloc (by simp) _).alloc (by simp; omega) _
 have hz3 : W3.heap.size = w.heap.size + 3 := by rw [hW3]; simp
 have KS : SBox W3 (w.heap.size + 1) r.K r.W r.T r.m r.f r.a r.s := by
  have := SBox.new (w.alloc (.cells #[.slice A L.1.length c, .slice A' L.2.length c'] 53)) r.K r.W r.T r.m r.f r.a r.s
  rw [World.size_alloc] at this
  rw [hW3]; exact this.below ((Below.refl _ _).alloc (Nat.le_refl _) _) (by simp)
 have KR : Blk.Blk W3 (w.heap.size + 2) 53 #[.slice none 0 0, .slice none 0 0] := by rw [hW3]; exact Blk.Blk.newAt _ _ (by simp)
 have HCl := J (labClone_any L (.agg #[.slice A L.1.length c, .slice A' L.2.length c']) W3 (hv0.below b3) (by omega) (by omega))
 have HW := J hW3
 have HLL := J hl
 clear hW3 hx hy hl hv0
 obtain ⟨K, W, T, m, f, a, s⟩ := r
 unfold St.val
 dsimp only at KS HW ⊢
 go_enter Tryz.func139, Tryz.ntmps139
 go_wp2_with fail
 rw [← HW.out]
 refine HCl.out.mono ?_
 rintro e w1 ⟨v1, rfl, ⟨A1, c1, A2, c2, rfl, o1, o2⟩, b1⟩
 obtain ⟨W4, hW4⟩ : ∃ W4, W4 = w1.alloc (.cells #[.slice A1 L.1.length c1, .slice A2 L.2.length c2] 53) := ⟨_, rfl⟩
 have b4 : Below w1.heap.size w1 W4 := by rw [hW4]; exact (Below.refl _ _).alloc (Nat.le_refl _) _
 have KT : Blk.Blk W4 w1.heap.size 53 #[.slice A1 L.1.length c1, .slice A2 L.2.length c2] := by rw [hW4]; exact Blk.Blk.new _ _ _
 have b34 := Base.Below.nextA b1 b4
 have hz4 : W4.heap.size = w1.heap.size + 1 := by rw [hW4]; simp
 have p1 := ownsRow_below o1 b4
 have p2 := ownsRow_below o2 b4
 have HSr := J (search_any A1 c1 W4.heap.size L.1 x W4 (OwnT.rd p1) (by omega))
 rw [hh, ← hpv] at HSr
 have HW4 := J hW4
 have KS4 := KS.below b34 KS.lt
 have KR4 := KR.belowS b34
 have B4 := Base.Below.nextA b3 b34
 have hz1 := b1.size
 clear hW4 b4 b34 b1 o1 o2 KS KR b3 HCl HW
 go_wp2_with fail
 rw [← HW4.out]
 refine HSr.out.mono ?_
 rintro e w2 ⟨rfl, hb2⟩
 have KS5 := KS4.below hb2 KS4.lt
 have KR := J (KR4.belowS hb2)
 have KT := J (KT.belowS hb2)
 have HB := J (Base.Below.nextA B4 hb2)
 have q1 := ownsRow_below p1 hb2
 have q2 := ownsRow_below p2 hb2
 have hz2 := hb2.size
 clear KS4 KR4 B4 p1 p2 hb2 HSr HW4
 have Q1 := J q1
 have Q2 := J q2
 have KS : Hid (Blk.Blk w2 (w.heap.size + 1) 29 #[.int .i64 K, .int .i64 W, .int .i64 T, .int .i64 m, .int .i64 f, .int .i64 a, .int .i64 s]) := J KS5
 have HZ3 : Hid (W3.heap.size ≤ w2.heap.size) := J (by omega)
 have HW3 : Hid (w.heap.size ≤ W3.heap.size) := J (by omega)
 have HZW : Hid (w.heap.size ≤ w2.heap.size) := J (by omega)
 have HNE : Hid (¬ W3.heap.size ≤ w.heap.size + 1) := J (by omega)
 have HN1 : Hid (L.1.length ≤ 1000) := J (by omega)
 have HN2 : Hid (L.2.length ≤ 1000) := J (by have := HLL.out; omega)
 have HP1 : Hid (p ≤ L.1.length) := J hp1
 have HP2 : Hid (p ≤ L.2.length) := J (by have := HLL.out; omega)
 have HG1 : Hid (∀ g, A1 = some ⟨g, 0, none⟩ → g < w2.heap.size) := J (fun g e => (ownsRow_block Q1.out (g := g) (by rw [e]; rfl)).choose_spec.2.2)
 have HG2 : Hid (∀ g, A2 = some ⟨g, 0, none⟩ → g < w2.heap.size) := J (fun g e => (ownsRow_block Q2.out (g := g) (by rw [e]; rfl)).choose_spec.2.2)
 have HFL := J hfl
 have HTX := J htx
 have HL2 := J hll2
 have HL1 := J hll1
 have HSN := J hsn
 have HOK := J hok
 have H13 : Hid (w1.heap.size ≠ w.heap.size + 2) := J (by omega)
 have H14 : Hid (w.heap.size ≤ w1.heap.size) := J (by omega)
 clear q1 q2 KS5 hnl hns hfl htx hll1 hll2 hsn hsz hsx hok hh hpv hp1 HR hz1 hz2 hz3
 go_wp2_with fail
 obtain ⟨S, hSE⟩ : ∃ S : World → Prop, S = fun w' => w'.cell? ⟨w1.heap.size, 0, none⟩ = some (.slice A1 L.1.length c1) ∧ w'.cell? ⟨w1.heap.size, 1, none⟩ = some (.slice A2 L.2.length c2) ∧ w'.cell? ⟨w.heap.size + 1, 0, none⟩ = some (.int .i64 K) ∧ w'.cell? ⟨w.heap.size + 1, 1, none⟩ = some (.int .i64 W) ∧ w'.cell? ⟨w.heap.size + 1, 2, none⟩ = some (.int .i64 T) ∧ w'.cell? ⟨w.heap.size + 1, 3, none⟩ = some (.int .i64 m) ∧ w'.cell? ⟨w.heap.size + 1, 4, none⟩ = some (.int .i64 f) ∧ w'.cell? ⟨w.heap.size + 1, 5, none⟩ = some (.int .i64 a) ∧ w'.cell? ⟨w.heap.size + 1, 6, none⟩ = some (.int .i64 s) := ⟨_, rfl⟩
 have HSE := J hSE
 have HSA : Hid (∀ V, Blk.Blk V w1.heap.size 53 #[.slice A1 L.1.length c1, .slice A2 L.2.length c2] → Blk.Blk V (w.heap.size + 1) 29 #[.int .i64 K, .int .i64 W, .int .i64 T, .int .i64 m, .int .i64 f, .int .i64 a, .int .i64 s] → S V) := J (fun V h1 h2 => by rw [hSE]; exact ⟨h1.at 0 rfl, h1.at 1 rfl, h2.at 0 rfl, h2.at 1 rfl, h2.at 2 rfl, h2.at 3 rfl, h2.at 4 rfl, h2.at 5 rfl, h2.at 6 rfl⟩)
 clear hSE
 refine Late.start S [13, 14, 15] 16 (by kernel_rfl) (HSA.out _ KT.out KS.out) rfl (fun hS => ?_)
 refine Late.take (i := 0) (v := ?_) (by rfl) (by kernel_rfl) (by kernel_rfl) (by kernel_rfl) (by intro _ _ _ h; exact h) (by kernel_rfl) (by kernel_rfl) (Or.inl ⟨by rfl, ?_⟩) hS ?_
 rotate_left
 ·(intro W' hW'; rw [HSE.out] at hW'; obtain ⟨q0, q1, y0, y1, y2, y3, y4, y5, y6⟩ := hW'; go_simp; (try with_reducible rfl))
 try simp only [Act.put, List.setIfInBounds_toArray, List.set_cons_zero, List.set_cons_succ]
 refine Late.take (i := 1) (v := ?_) (by rfl) (by kernel_rfl) (by kernel_rfl) (by kernel_rfl) (by intro _ _ _ h; exact h) (by kernel_rfl) (by kernel_rfl) (Or.inl ⟨by rfl, ?_⟩) hS ?_
 rotate_left
 ·(intro W' hW'; rw [HSE.out] at hW'; obtain ⟨q0, q1, y0, y1, y2, y3, y4, y5, y6⟩ := hW'; go_simp; (try with_reducible rfl))
 try simp only [Act.put, List.setIfInBounds_toArray, List.set_cons_zero, List.set_cons_succ]
 refine Late.take (i := 2) (v := ?_) (by rfl) (by kernel_rfl) (by kernel_rfl) (by kernel_rfl) (by intro _ _ _ h; exact h) (by kernel_rfl) (by kernel_rfl) (Or.inl ⟨by rfl, ?_⟩) hS ?_
 rotate_left
 ·(intro W' hW'; rw [HSE.out] at hW'; obtain ⟨q0, q1, y0, y1, y2, y3, y4, y5, y6⟩ := hW'; go_simp; (try with_reducible rfl))
 try simp only [Act.put, List.setIfInBounds_toArray, List.set_cons_zero, List.set_cons_succ]
 refine Late.take (i := 3) (v := ?_) (by rfl) (by kernel_rfl) (by kernel_rfl) (by kernel_rfl) (by intro _ _ _ h; exact h) (by kernel_rfl) (by kernel_rfl) (Or.inl ⟨by rfl, ?_⟩) hS ?_
 rotate_left
 ·(intro W' hW'; rw [HSE.out] at hW'; obtain ⟨q0, q1, y0, y1, y2, y3, y4, y5, y6⟩ := hW'; go_simp; (try with_reducible rfl))
 try simp only [Act.put, List.setIfInBounds_toArray, List.set_cons_zero, List.set_cons_succ]
 refine Late.take (i := 6) (v := ?_) (by rfl) (by kernel_rfl) (by kernel_rfl) (by kernel_rfl) (by intro _ _ _ h; exact h) (by kernel_rfl) (by kernel_rfl) (Or.inl ⟨by rfl, ?_⟩) hS ?_
 rotate_left
 ·(intro W' hW'; rw [HSE.out] at hW'; obtain ⟨q0, q1, y0, y1, y2, y3, y4, y5, y6⟩ := hW'; go_simp; (try with_reducible rfl))
 try simp only [Act.put, List.setIfInBounds_toArray, List.set_cons_zero, List.set_cons_succ]
 refine Late.take (i := 7) (v := ?_) (by rfl) (by kernel_rfl) (by kernel_rfl) (by kernel_rfl) (by intro _ _ _ h; exact h) (by kernel_rfl) (by kernel_rfl) (Or.inl ⟨by rfl, ?_⟩) hS ?_
 rotate_left
 ·(intro W' hW'; rw [HSE.out] at hW'; obtain ⟨q0, q1, y0, y1, y2, y3, y4, y5, y6⟩ := hW'; go_simp; (try with_reducible rfl))
 try simp only [Act.put, List.setIfInBounds_toArray, List.set_cons_zero, List.set_cons_succ]
 refine Late.take (i := 8) (v := ?_) (by rfl) (by kernel_rfl) (by kernel_rfl) (by kernel_rfl) (by intro _ _ _ h; exact h) (by kernel_rfl) (by kernel_rfl) (Or.inl ⟨by rfl, ?_⟩) hS ?_
 rotate_left
 ·(intro W' hW'; rw [HSE.out] at hW'; obtain ⟨q0, q1, y0, y1, y2, y3, y4, y5, y6⟩ := hW'; go_simp; (try with_reducible rfl))
 try simp only [Act.put, List.setIfInBounds_toArray, List.set_cons_zero, List.set_cons_succ]
 refine Late.take (i := 9) (v := ?_) (by rfl) (by kernel_rfl) (by kernel_rfl) (by kernel_rfl) (by intro _ _ _ h; exact h) (by kernel_rfl) (by kernel_rfl) (Or.inl ⟨by rfl, ?_⟩) hS ?_
 rotate_left
 ·(intro W' hW'; rw [HSE.out] at hW'; obtain ⟨q0, q1, y0, y1, y2, y3, y4, y5, y6⟩ := hW'; go_simp; (try with_reducible rfl))
 try simp only [Act.put, List.setIfInBounds_toArray, List.set_cons_zero, List.set_cons_succ]
 refine Late.two (i := 4) (i' := 10) (by kernel_rfl) (by rfl) (by rfl) (fun K' hK => ?_) (fun K' hK => ?_)
 go_simp
 refine hK.out _ _ (fun _ => HSA.out _ (KT.out.alloc _) (KS.out.alloc _)) (fun hS' => ?_)
 have hS := hS' (by decide)
 clear hS' hK
 clear K'
 try simp only [Act.put, List.setIfInBounds_toArray, List.set_cons_zero, List.set_cons_succ]
 refine Late.two (i := 5) (i' := 10) (by kernel_rfl) (by rfl) (by rfl) (fun K' hK => ?_) (fun K' hK => ?_)
 go_simp
 have QX := J (show Below w2.heap.size w2 ((w2.alloc (.cells #[.string x] 9)).drew) from ((Below.refl _ _).alloc (Nat.le_refl _) _).drew)
 have QZ := J (QX.out.size)
 refine (insT_any A1 L.1.length c1 W3.heap.size (w2.heap.size) p (texts L.1) (.string x) ((w2.alloc (.cells #[.string x] 9)).drew) (ownsRow_below Q1.out QX.out) (Nat.le_trans HZ3.out QZ.out) HN1.out HP1.out rfl (one_texts _) (Blk.Blk.new w2 _ _) (fun g e => by have := HG1.out g e; omega)).mono ?_
 rintro e w5 ⟨A5, c5, rfl, o5, g5⟩
 have PA := ownsRow_below Q1.out QX.out
 have KT5 := J (blkFar (KT.out.belowS QX.out) PA g5)
 have KR5 := J (blkFar (KR.out.belowS QX.out) PA g5)
 have KS5 := J (blkFar (KS.out.belowS QX.out) PA g5)
 have Q2' := J (LvT.rowKept (ownsRow_below Q2.out QX.out) PA (by decide) g5)
 have O5 := J o5
 have HB5 := J (HB.out.trans ((QX.out.mono HZW.out).trans (grown_below g5 (fun q e => Nat.le_trans HW3.out (ownsRow_block PA e).choose_spec.2.1) (Nat.le_trans HZW.out QZ.out))))
 have hz5 : w2.heap.size ≤ w5.heap.size := Nat.le_trans QZ.out g5.size
 skip
 clear o5 g5 PA
 clear QX QZ
 go_simp
 refine hK.out _ _ (fun _ => HSA.out _ (KT5.out) (KS5.out)) (fun hS' => ?_)
 have hS := hS' (by decide)
 clear hS' hK
 clear K'
 try simp only [Act.put, List.setIfInBounds_toArray, List.set_cons_zero, List.set_cons_succ]
 refine Late.take (i := 12) (v := ?_) (by rfl) (by kernel_rfl) (by kernel_rfl) (by kernel_rfl) (by intro _ _ _ h; exact h) (by kernel_rfl) (by kernel_rfl) (Or.inl ⟨by rfl, ?_⟩) hS ?_
 rotate_left
 ·(intro W' hW'; rw [HSE.out] at hW'; obtain ⟨q0, q1, y0, y1, y2, y3, y4, y5, y6⟩ := hW'; go_simp; (try with_reducible rfl))
 try simp only [Act.put, List.setIfInBounds_toArray, List.set_cons_zero, List.set_cons_succ]
 refine Late.one (i := 10) (by kernel_rfl) (by rfl) (fun K' hK => ?_)
 go_simp
 refine hK.out _ _ (fun _ => HSA.out _ (KT5.out.alloc _) (KS5.out.alloc _)) (fun hS' => ?_)
 have hS := hS' (by decide)
 clear hS' hK
 clear K'
 try simp only [Act.put, List.setIfInBounds_toArray, List.set_cons_zero, List.set_cons_succ]
 refine Late.one (i := 11) (by kernel_rfl) (by rfl) (fun K' hK => ?_)
 go_simp
 have QY := J (show Below w5.heap.size w5 (w5.alloc (.cells #[.int .i64 K, .int .i64 W, .int .i64 T, .int .i64 m, .int .i64 f, .int .i64 a, .int .i64 s] 29)) from ((Below.refl _ _).alloc (Nat.le_refl _) _))
 have QZ := J (QY.out.size)
 refine (insS_any A2 L.2.length c2 W3.heap.size (w5.heap.size) p (ints (flat L.2)) [.int .i64 K, .int .i64 W, .int .i64 T, .int .i64 m, .int .i64 f, .int .i64 a, .int .i64 s] (w5.alloc (.cells #[.int .i64 K, .int .i64 W, .int .i64 T, .int .i64 m, .int .i64 f, .int .i64 a, .int .i64 s] 29)) (ownsRow_below Q2'.out QY.out) (Nat.le_trans HZ3.out (Nat.le_trans hz5 QZ.out)) HN2.out HP2.out rfl (by simp [Value.oneCell']) (one_ints _) (Blk.Blk.new w5 _ _) (fun g e => by have := HG2.out g e; omega)).mono ?_
 rintro e w6 ⟨A6, c6, rfl, o6, g6⟩
 have PB := ownsRow_below Q2'.out QY.out
 have KT6 := J (blkFar (KT5.out.belowS QY.out) PB g6)
 have KR6 := J (blkFar (KR5.out.belowS QY.out) PB g6)
 have KS6 := J ((KS5.out.belowS QY.out).kept g6 (fun e => HNE.out (ownsRow_block PB e).choose_spec.2.1))
 have O1 := J (LvT.rowKept (ownsRow_below O5.out QY.out) PB (by decide) g6)
 have O2 := J o6
 have HB6 := J (HB5.out.trans ((QY.out.mono HB5.out.size).trans (grown_below g6 (fun q e => Nat.le_trans HW3.out (ownsRow_block PB e).choose_spec.2.1) (Nat.le_trans HB5.out.size QZ.out))))
 clear o6 g6 PB
 clear QY QZ
 go_simp
 refine hK.out _ _ (fun _ => HSA.out _ (KT6.out) (KS6.out)) (fun hS' => ?_)
 have hS := hS' (by decide)
 clear hS' hK
 clear K'
 try simp only [Act.put, List.setIfInBounds_toArray, List.set_cons_zero, List.set_cons_succ]
 have s0 := KT6.out.at 0 (v := .slice A1 L.1.length c1) rfl
 have s1 := KT6.out.at 1 (v := .slice A2 L.2.length c2) rfl
 have s2 := KT6.out.frz 0
 have s3 := KT6.out.frz 1
 refine Late.one (i := 13) (by kernel_rfl) (by rfl) (fun K' hK => ?_)
 go_simp
 refine hK.out _ _ (fun h => absurd h (by decide)) (fun _ => ?_)
 clear hK
 clear K'
 try simp only [Act.put, List.setIfInBounds_toArray, List.set_cons_zero, List.set_cons_succ]
 refine Late.one (i := 14) (by kernel_rfl) (by rfl) (fun K' hK => ?_)
 go_simp
 refine hK.out _ _ (fun h => absurd h (by decide)) (fun _ => ?_)
 clear hK
 clear K'
 try simp only [Act.put, List.setIfInBounds_toArray, List.set_cons_zero, List.set_cons_succ]
 refine Late.one (i := 15) (by kernel_rfl) (by rfl) (fun K' hK => ?_)
 go_simp
 refine hK.out _ _ (fun h => absurd h (by decide)) (fun _ => ?_)
 clear hK
 clear K'
 try simp only [Act.put, List.setIfInBounds_toArray, List.set_cons_zero, List.set_cons_succ]
 refine Late.done (by kernel_rfl) ?_ _
 clear s0 s1 s2 s3 hS
 rotate_left
 go_simp
 refine hK.out _ _ (fun _ => HSA.out _ ((KT.out.alloc _).alloc _) ((KS.out.alloc _).alloc _)) (fun hS' => ?_)
 have hS := hS' (by decide)
 clear hS' hK
 clear K'
 try simp only [Act.put, List.setIfInBounds_toArray, List.set_cons_zero, List.set_cons_succ]
 refine Late.one (i := 5) (by kernel_rfl) (by rfl) (fun K' hK => ?_)
 go_simp
 have QX := J (show Below w2.heap.size w2 (((w2.alloc (.cells #[.string x] 9)).alloc (.cells #[.int .i64 K, .int .i64 W, .int .i64 T, .int .i64 m, .int .i64 f, .int .i64 a, .int .i64 s] 29)).drew) from (((Below.refl _ _).alloc (Nat.le_refl _) _).alloc (by simp) _).drew)
 have QZ := J (QX.out.size)
 refine (insT_any A1 L.1.length c1 W3.heap.size (w2.heap.size) p (texts L.1) (.string x) (((w2.alloc (.cells #[.string x] 9)).alloc (.cells #[.int .i64 K, .int .i64 W, .int .i64 T, .int .i64 m, .int .i64 f, .int .i64 a, .int .i64 s] 29)).drew) (ownsRow_below Q1.out QX.out) (Nat.le_trans HZ3.out QZ.out) HN1.out HP1.out rfl (one_texts _) ((Blk.Blk.new w2 _ _).alloc _) (fun g e => by have := HG1.out g e; omega)).mono ?_
 rintro e w5 ⟨A5, c5, rfl, o5, g5⟩
 have PA := ownsRow_below Q1.out QX.out
 have KT5 := J (blkFar (KT.out.belowS QX.out) PA g5)
 have KR5 := J (blkFar (KR.out.belowS QX.out) PA g5)
 have KS5 := J (blkFar (KS.out.belowS QX.out) PA g5)
 have Q2' := J (LvT.rowKept (ownsRow_below Q2.out QX.out) PA (by decide) g5)
 have O5 := J o5
 have HB5 := J (HB.out.trans ((QX.out.mono HZW.out).trans (grown_below g5 (fun q e => Nat.le_trans HW3.out (ownsRow_block PA e).choose_spec.2.1) (Nat.le_trans HZW.out QZ.out))))
 have hz5 : w2.heap.size ≤ w5.heap.size := Nat.le_trans QZ.out g5.size
 (have KN := J (blkFar (show Blk.Blk (((w2.alloc (.cells #[.string x] 9)).alloc (.cells #[.int .i64 K, .int .i64 W, .int .i64 T, .int .i64 m, .int .i64 f, .int .i64 a, .int .i64 s] 29)).drew) (w2.heap.size + 1) _ _ from Blk.Blk.newAt _ _ (by simp)) PA g5))
 clear o5 g5 PA
 clear QX QZ
 go_simp
 refine hK.out _ _ (fun _ => HSA.out _ (KT5.out) (KS5.out)) (fun hS' => ?_)
 have hS := hS' (by decide)
 clear hS' hK
 clear K'
 try simp only [Act.put, List.setIfInBounds_toArray, List.set_cons_zero, List.set_cons_succ]
 refine Late.take (i := 12) (v := ?_) (by rfl) (by kernel_rfl) (by kernel_rfl) (by kernel_rfl) (by intro _ _ _ h; exact h) (by kernel_rfl) (by kernel_rfl) (Or.inl ⟨by rfl, ?_⟩) hS ?_
 rotate_left
 ·(intro W' hW'; rw [HSE.out] at hW'; obtain ⟨q0, q1, y0, y1, y2, y3, y4, y5, y6⟩ := hW'; go_simp; (try with_reducible rfl))
 try simp only [Act.put, List.setIfInBounds_toArray, List.set_cons_zero, List.set_cons_succ]
 refine Late.one (i := 11) (by kernel_rfl) (by rfl) (fun K' hK => ?_)
 go_simp
 have QY := J (show Below w5.heap.size w5 (w5) from Below.refl _ _)
 have QZ := J (QY.out.size)
 refine (insS_any A2 L.2.length c2 W3.heap.size ((w2.heap.size + 1)) p (ints (flat L.2)) [.int .i64 K, .int .i64 W, .int .i64 T, .int .i64 m, .int .i64 f, .int .i64 a, .int .i64 s] (w5) (ownsRow_below Q2'.out QY.out) (Nat.le_trans HZ3.out (Nat.le_trans hz5 QZ.out)) HN2.out HP2.out rfl (by simp [Value.oneCell']) (one_ints _) KN.out (fun g e => by have := HG2.out g e; omega)).mono ?_
 rintro e w6 ⟨A6, c6, rfl, o6, g6⟩
 have PB := ownsRow_below Q2'.out QY.out
 have KT6 := J (blkFar (KT5.out.belowS QY.out) PB g6)
 have KR6 := J (blkFar (KR5.out.belowS QY.out) PB g6)
 have KS6 := J ((KS5.out.belowS QY.out).kept g6 (fun e => HNE.out (ownsRow_block PB e).choose_spec.2.1))
 have O1 := J (LvT.rowKept (ownsRow_below O5.out QY.out) PB (by decide) g6)
 have O2 := J o6
 have HB6 := J (HB5.out.trans ((QY.out.mono HB5.out.size).trans (grown_below g6 (fun q e => Nat.le_trans HW3.out (ownsRow_block PB e).choose_spec.2.1) (Nat.le_trans HB5.out.size QZ.out))))
 clear o6 g6 PB
 clear QY QZ
 go_simp
 refine hK.out _ _ (fun _ => HSA.out _ (KT6.out) (KS6.out)) (fun hS' => ?_)
 have hS := hS' (by decide)
 clear hS' hK
 clear K'
 try simp only [Act.put, List.setIfInBounds_toArray, List.set_cons_zero, List.set_cons_succ]
 have s0 := KT6.out.at 0 (v := .slice A1 L.1.length c1) rfl
 have s1 := KT6.out.at 1 (v := .slice A2 L.2.length c2) rfl
 have s2 := KT6.out.frz 0
 have s3 := KT6.out.frz 1
 refine Late.one (i := 13) (by kernel_rfl) (by rfl) (fun K' hK => ?_)
 go_simp
 refine hK.out _ _ (fun h => absurd h (by decide)) (fun _ => ?_)
 clear hK
 clear K'
 try simp only [Act.put, List.setIfInBounds_toArray, List.set_cons_zero, List.set_cons_succ]
 refine Late.one (i := 14) (by kernel_rfl) (by rfl) (fun K' hK => ?_)
 go_simp
 refine hK.out _ _ (fun h => absurd h (by decide)) (fun _ => ?_)
 clear hK
 clear K'
 try simp only [Act.put, List.setIfInBounds_toArray, List.set_cons_zero, List.set_cons_succ]
 refine Late.one (i := 15) (by kernel_rfl) (by rfl) (fun K' hK => ?_)
 go_simp
 refine hK.out _ _ (fun h => absurd h (by decide)) (fun _ => ?_)
 clear hK
 clear K'
 try simp only [Act.put, List.setIfInBounds_toArray, List.set_cons_zero, List.set_cons_succ]
 refine Late.done (by kernel_rfl) ?_ _
 clear s0 s1 s2 s3 hS
 rotate_left
 go_simp
 refine hK.out _ _ (fun _ => HSA.out _ (KT.out.alloc _) (KS.out.alloc _)) (fun hS' => ?_)
 have hS := hS' (by decide)
 clear hS' hK
 clear K'
 try simp only [Act.put, List.setIfInBounds_toArray, List.set_cons_zero, List.set_cons_succ]
 refine Late.one (i := 4) (by kernel_rfl) (by rfl) (fun K' hK => ?_)
 go_simp
 refine hK.out _ _ (fun _ => HSA.out _ ((KT.out.alloc _).alloc _) ((KS.out.alloc _).alloc _)) (fun hS' => ?_)
 have hS := hS' (by decide)
 clear hS' hK
 clear K'
 try simp only [Act.put, List.setIfInBounds_toArray, List.set_cons_zero, List.set_cons_succ]
 refine Late.one (i := 5) (by kernel_rfl) (by rfl) (fun K' hK => ?_)
 go_simp
 have QX := J (show Below w2.heap.size w2 (((w2.alloc (.cells #[.int .i64 K, .int .i64 W, .int .i64 T, .int .i64 m, .int .i64 f, .int .i64 a, .int .i64 s] 29)).alloc (.cells #[.string x] 9)).drew) from (((Below.refl _ _).alloc (Nat.le_refl _) _).alloc (by simp) _).drew)
 have QZ := J (QX.out.size)
 refine (insT_any A1 L.1.length c1 W3.heap.size ((w2.heap.size + 1)) p (texts L.1) (.string x) (((w2.alloc (.cells #[.int .i64 K, .int .i64 W, .int .i64 T, .int .i64 m, .int .i64 f, .int .i64 a, .int .i64 s] 29)).alloc (.cells #[.string x] 9)).drew) (ownsRow_below Q1.out QX.out) (Nat.le_trans HZ3.out QZ.out) HN1.out HP1.out rfl (one_texts _) (Blk.Blk.newAt _ _ (by simp)) (fun g e => by have := HG1.out g e; omega)).mono ?_
 rintro e w5 ⟨A5, c5, rfl, o5, g5⟩
 have PA := ownsRow_below Q1.out QX.out
 have KT5 := J (blkFar (KT.out.belowS QX.out) PA g5)
 have KR5 := J (blkFar (KR.out.belowS QX.out) PA g5)
 have KS5 := J (blkFar (KS.out.belowS QX.out) PA g5)
 have Q2' := J (LvT.rowKept (ownsRow_below Q2.out QX.out) PA (by decide) g5)
 have O5 := J o5
 have HB5 := J (HB.out.trans ((QX.out.mono HZW.out).trans (grown_below g5 (fun q e => Nat.le_trans HW3.out (ownsRow_block PA e).choose_spec.2.1) (Nat.le_trans HZW.out QZ.out))))
 have hz5 : w2.heap.size ≤ w5.heap.size := Nat.le_trans QZ.out g5.size
 (have KN := J (blkFar (show Blk.Blk (((w2.alloc (.cells #[.int .i64 K, .int .i64 W, .int .i64 T, .int .i64 m, .int .i64 f, .int .i64 a, .int .i64 s] 29)).alloc (.cells #[.string x] 9)).drew) w2.heap.size _ _ from (Blk.Blk.new w2 _ _).alloc _) PA g5))
 clear o5 g5 PA
 clear QX QZ
 go_simp
 refine hK.out _ _ (fun _ => HSA.out _ (KT5.out) (KS5.out)) (fun hS' => ?_)
 have hS := hS' (by decide)
 clear hS' hK
 clear K'
 try simp only [Act.put, List.setIfInBounds_toArray, List.set_cons_zero, List.set_cons_succ]
 refine Late.take (i := 12) (v := ?_) (by rfl) (by kernel_rfl) (by kernel_rfl) (by kernel_rfl) (by intro _ _ _ h; exact h) (by kernel_rfl) (by kernel_rfl) (Or.inl ⟨by rfl, ?_⟩) hS ?_
 rotate_left
 ·(intro W' hW'; rw [HSE.out] at hW'; obtain ⟨q0, q1, y0, y1, y2, y3, y4, y5, y6⟩ := hW'; go_simp; (try with_reducible rfl))
 try simp only [Act.put, List.setIfInBounds_toArray, List.set_cons_zero, List.set_cons_succ]
 refine Late.one (i := 11) (by kernel_rfl) (by rfl) (fun K' hK => ?_)
 go_simp
 have QY := J (show Below w5.heap.size w5 (w5) from Below.refl _ _)
 have QZ := J (QY.out.size)
 refine (insS_any A2 L.2.length c2 W3.heap.size (w2.heap.size) p (ints (flat L.2)) [.int .i64 K, .int .i64 W, .int .i64 T, .int .i64 m, .int .i64 f, .int .i64 a, .int .i64 s] (w5) (ownsRow_below Q2'.out QY.out) (Nat.le_trans HZ3.out (Nat.le_trans hz5 QZ.out)) HN2.out HP2.out rfl (by simp [Value.oneCell']) (one_ints _) KN.out (fun g e => by have := HG2.out g e; omega)).mono ?_
 rintro e w6 ⟨A6, c6, rfl, o6, g6⟩
 have PB := ownsRow_below Q2'.out QY.out
 have KT6 := J (blkFar (KT5.out.belowS QY.out) PB g6)
 have KR6 := J (blkFar (KR5.out.belowS QY.out) PB g6)
 have KS6 := J ((KS5.out.belowS QY.out).kept g6 (fun e => HNE.out (ownsRow_block PB e).choose_spec.2.1))
 have O1 := J (LvT.rowKept (ownsRow_below O5.out QY.out) PB (by decide) g6)
 have O2 := J o6
 have HB6 := J (HB5.out.trans ((QY.out.mono HB5.out.size).trans (grown_below g6 (fun q e => Nat.le_trans HW3.out (ownsRow_block PB e).choose_spec.2.1) (Nat.le_trans HB5.out.size QZ.out))))
 clear o6 g6 PB
 clear QY QZ
 go_simp
 refine hK.out _ _ (fun _ => HSA.out _ (KT6.out) (KS6.out)) (fun hS' => ?_)
 have hS := hS' (by decide)
 clear hS' hK
 clear K'
 try simp only [Act.put, List.setIfInBounds_toArray, List.set_cons_zero, List.set_cons_succ]
 have s0 := KT6.out.at 0 (v := .slice A1 L.1.length c1) rfl
 have s1 := KT6.out.at 1 (v := .slice A2 L.2.length c2) rfl
 have s2 := KT6.out.frz 0
 have s3 := KT6.out.frz 1
 refine Late.one (i := 13) (by kernel_rfl) (by rfl) (fun K' hK => ?_)
 go_simp
 refine hK.out _ _ (fun h => absurd h (by decide)) (fun _ => ?_)
 clear hK
 clear K'
 try simp only [Act.put, List.setIfInBounds_toArray, List.set_cons_zero, List.set_cons_succ]
 refine Late.one (i := 14) (by kernel_rfl) (by rfl) (fun K' hK => ?_)
 go_simp
 refine hK.out _ _ (fun h => absurd h (by decide)) (fun _ => ?_)
 clear hK
 clear K'
 try simp only [Act.put, List.setIfInBounds_toArray, List.set_cons_zero, List.set_cons_succ]
 refine Late.one (i := 15) (by kernel_rfl) (by rfl) (fun K' hK => ?_)
 go_simp
 refine hK.out _ _ (fun h => absurd h (by decide)) (fun _ => ?_)
 clear hK
 clear K'
 try simp only [Act.put, List.setIfInBounds_toArray, List.set_cons_zero, List.set_cons_succ]
 refine Late.done (by kernel_rfl) ?_ _
 clear s0 s1 s2 s3 hS
 rotate_left
 all_goals
  obtain ⟨W7, hW7⟩ : ∃ W7, W7 = (w6.setCell ⟨w1.heap.size, 0, none⟩ (.slice A5 (L.1.length + 1) c5)).setCell ⟨w1.heap.size, 1, none⟩ (.slice A6 (L.2.length + 1) c6) := ⟨_, rfl⟩
  have HW7 := J hW7
  clear KT KR HB KS Q1 Q2 HSA HSE KT5 KR5 KS5 Q2' O5 HB5
  have KT : Hid (Blk.Blk W7 w1.heap.size 53 #[.slice A5 (L.1.length + 1) c5, .slice A6 (L.2.length + 1) c6]) := J (by rw [hW7]; exact (KT6.out.setTo 0 (.slice A5 (L.1.length + 1) c5) rfl).setTo 1 (.slice A6 (L.2.length + 1) c6) rfl)
  have KR : Hid (Blk.Blk W7 (w.heap.size + 2) 53 #[.slice none 0 0, .slice none 0 0]) := J (by rw [hW7]; exact (KR6.out.other _ H13.out).other _ H13.out)
  have HB : Hid (Below w.heap.size w W7) := J (by rw [hW7]; exact (HB6.out.setCell (p := ⟨w1.heap.size, 0, none⟩) H14.out _).setCell (p := ⟨w1.heap.size, 1, none⟩) H14.out _)
  have P1 : W7.ownsRow W3.heap.size 9 1 (.slice A5 (L.1.length + 1) c5) (L.1.length + 1) ((texts L.1).take p ++ [.string x] ++ (texts L.1).drop p) := by rw [hW7]; exact ownsRow_setCell_below' O1.out KT6.out 0 (.slice A5 (L.1.length + 1) c5) 1 (.slice A6 (L.2.length + 1) c6)
  have P2 : W7.ownsRow W3.heap.size 29 7 (.slice A6 (L.2.length + 1) c6) (L.2.length + 1) ((ints (flat L.2)).take (p * 7) ++ [.int .i64 K, .int .i64 W, .int .i64 T, .int .i64 m, .int .i64 f, .int .i64 a, .int .i64 s] ++ (ints (flat L.2)).drop (p * 7)) := by rw [hW7]; exact ownsRow_setCell_below' O2.out KT6.out 0 (.slice A5 (L.1.length + 1) c5) 1 (.slice A6 (L.2.length + 1) c6)
  rw [← HTX.out] at P1
  rw [← HFL.out] at P2
  have O1 := J (ownsRow_base P1 HW3.out)
  have O2 := J (ownsRow_base P2 HW3.out)
  have HV : Hid (∀ W, Below W7.heap.size W7 W → Calls Tryz.prog 26 #[.agg #[.slice A5 (L.1.length + 1) c5, .slice A6 (L.2.length + 1) c6]] W fun e w' => e = .returned (.bool ok) ∧ Below W.heap.size W w') := J (fun W hW => by
   have k1 := ownsRow_below O1.out hW
   have k2 := ownsRow_below O2.out hW
   rw [← HL1.out] at k1
   rw [← HL2.out] at k2
   have k := implLab_any A5 A6 c5 c6 W.heap.size nl.length ns (flat nl) W (OwnT.rd k1) (OwnS.rd k2) (Nat.le_refl _) HSN.out (by have := HL1.out; have := HN1.out; omega) (by have := HL2.out; have := HN2.out; omega)
   rw [HL1.out, show labB ns nl.length (flat nl) = ok from HOK.out.symm, HL2.out] at k
   exact k)
  have HY : Hid (∀ (W : World), (W.ownsRow w.heap.size 9 1 (.slice A5 (L.1.length + 1) c5) (L.1.length + 1) (texts ns) ∧ W.ownsRow w.heap.size 29 7 (.slice A6 (L.2.length + 1) c6) (L.2.length + 1) (ints (flat nl)) ∧ Below w.heap.size w W) → ∃ v', Ending.returned (.tuple #[.agg #[.slice A5 (L.1.length + 1) c5, .slice A6 (L.2.length + 1) c6], .bool ok]) = .returned (.tuple #[v', .bool ok]) ∧ LabOwn w.heap.size W v' (ns, nl) ∧ Below w.heap.size w W) := J fun W hh2 => ⟨_, rfl, ⟨A5, c5, A6, c6, by rw [HL1.out, HL2.out], by rw [HL1.out]; exact hh2.1, by rw [HL2.out]; exact hh2.2.1⟩, hh2.2.2⟩
  clear P1 P2 hW7 KT6 KR6 KS6 HB6 hz5
  go_wp2_with fail
  rw [← HW7.out]
  refine Rel.wp_region_rel 3 (by kernel_rfl) (by kernel_rfl) (fun F hF => ?_)
  simp only [List.take_succ_cons, List.take_zero, List.drop_succ_cons, List.drop_zero, Rel.putL] at hF ⊢
  have HF := J hF
  clear hF
  have uv := @Rel.upon_value Tryz.prog
  have ue := @Rel.upon_enter Tryz.prog
  apply Rel.rel_pure
  apply Exists.intro
  refine ⟨fun vs wq hq hdp R hR => ?_, ?_⟩
  ·(rw [HF.out, Rel.stepAt_eq]; clear hdp; have x0 := (KT.out.belowS hq).at 0 (v := .slice A5 (L.1.length + 1) c5) rfl; have x1 := (KT.out.belowS hq).at 1 (v := .slice A6 (L.2.length + 1) c6) rfl; go_simp; exact hR)
  apply Rel.rel_pure
  apply Exists.intro
  refine ⟨fun vs wq hq hdp R hR => ?_, ?_⟩
  ·(rw [HF.out, Rel.stepAt_eq]; clear hdp; have x0 := (KT.out.belowS hq).at 0 (v := .slice A5 (L.1.length + 1) c5) rfl; have x1 := (KT.out.belowS hq).at 1 (v := .slice A6 (L.2.length + 1) c6) rfl; go_simp; exact hR)
  apply Rel.rel_same
  apply Exists.intro
  refine ⟨fun vs wq hq hdp => ?_, ?_⟩
  ·(rw [HF.out, Rel.stepAt_eq]; have qd1 : vs 1 = _ := Rel.dep hdp 1 (by kernel_rfl); clear hdp; skip; go_simp; refine (HV.out wq hq).mono ?_; rintro e w7 ⟨rfl, hb⟩; exact ⟨_, rfl, rfl, hb⟩)
  refine Rel.rel_end (fun vs wq hq hall => ?_)
  rw [HF.out]
  have qe0 : vs 0 = _ := Rel.fin hall 0 (by decide)
  have qe1 : vs 1 = _ := Rel.fin hall 1 (by decide)
  have qe2 : vs 2 = _ := Rel.fin hall 2 (by decide)
  clear hall HF uv ue
  have KR2 := KR.out.belowS hq
  have HB2 := Base.Below.nextA HB.out hq
  have r0 := KR2.at 0 (v := .slice none 0 0) rfl
  have r1 := KR2.at 1 (v := .slice none 0 0) rfl
  have f0 := KR2.frz 0
  have f1 := KR2.frz 1
  have KK := (KR2.setTo 0 (.slice A5 (L.1.length + 1) c5) rfl).setTo 1 (.slice A6 (L.2.length + 1) c6) rfl
  have k0 := KK.at 0 (v := .slice A5 (L.1.length + 1) c5) rfl
  have k1 := KK.at 1 (v := .slice A6 (L.2.length + 1) c6) rfl
  have HFIN := J (And.intro (ownsRow_setCell_below' (ownsRow_below O1.out hq) KR2 0 (.slice A5 (L.1.length + 1) c5) 1 (.slice A6 (L.2.length + 1) c6)) (And.intro (ownsRow_setCell_below' (ownsRow_below O2.out hq) KR2 0 (.slice A5 (L.1.length + 1) c5) 1 (.slice A6 (L.2.length + 1) c6)) ((HB2.setCell (p := ⟨w.heap.size + 2, 0, none⟩) (by simp) (.slice A5 (L.1.length + 1) c5)).setCell (p := ⟨w.heap.size + 2, 1, none⟩) (by simp) (.slice A6 (L.2.length + 1) c6))))
  clear KK KR2 HB2 hq qe1
  go_wp2
  refine bodyPost_ret (v := .tuple #[.agg #[.slice A5 (L.1.length + 1) c5, .slice A6 (L.2.length + 1) c6], .bool ok]) (by simp [results, Tryz.results139, go_sem, k0, k1]) rfl ?_
  exact HY.out _ ⟨HFIN.out.1, HFIN.out.2.1, HFIN.out.2.2⟩
end LcW
namespace LcG
open Go.RowKit Base Mem MemS LabM LabV StM Dec Val Rd CarM LcA LcC
open Take (SBox set7)
theorem withC_any {L : Lb} {x : ByteArray} (r : St) (hl : L.1.length = L.2.length) (hn : L.1.length ≤ 6) (hsz : ∀ i, i < L.1.length → (L.1.getD i ByteArray.empty).size ≤ 9223372036854775807) (hsx : x.size ≤ 9223372036854775807) : WithC L x r := by
 cases hh : hasS L.1 x with
 | true => exact withC_at r hl hn hh hsz
 | false => exact fun v w h => LcW.with_ins L v x r w h hl hn hh hsz hsx
noncomputable def srcR (L : Lb) (c b : Tx) : Option St := if c = wSet then (rdO b).map toSt else findR L (tx b)
def GiveRet (L : Lb) (nm : ByteArray) (src : Option St) (v : Value) (w : World) (e : Ending) (w' : World) : Prop :=
 (src = none → e = .returned (.tuple #[v, .string ⟨#[]⟩, .bool false]) ∧ Below w.heap.size w w') ∧ (∀ r, src = some r → ∃ v', e = .returned (.tuple #[v', .string ⟨#[111, 107]⟩, .bool (labR (withR L nm r))]) ∧ LabAt w' v' (withR L nm r) ∧ Below w.heap.size w w')
theorem GiveRet.no {L : Lb} {nm : ByteArray} {v : Value} {w w' : World} {e : Ending} (h : e = .returned (.tuple #[v, .string ⟨#[]⟩, .bool false]) ∧ Below w.heap.size w w') : GiveRet L nm none v w e w' := ⟨fun _ => h, fun r h2 => by cases h2⟩
theorem GiveRet.yes {L : Lb} {nm : ByteArray} {v : Value} {r : St} {w w' : World} {e : Ending} (h : ∃ v', e = .returned (.tuple #[v', .string ⟨#[111, 107]⟩, .bool (labR (withR L nm r))]) ∧ LabAt w' v' (withR L nm r) ∧ Below w.heap.size w w') : GiveRet L nm (some r) v w e w' := ⟨fun h2 => (by cases h2), fun r2 h2 => by injection h2 with h2; subst h2; exact h⟩
set_option maxHeartbeats 4000000 in
set_option maxRecDepth 100000 in
theorem give_any {L : Lb} {c0 b : Tx} {nm : ByteArray} (hc : c0 = wSet ∨ c0 = wCopy) (hl : L.1.length = L.2.length) (hn : L.1.length ≤ 6) (hsz : b.length ≤ 1048576) (hW : ∀ r, WithC L nm r) (v : Value) (w : World) (h : LabAt w v L) (ht : Tabs w) :
  Calls Tryz.prog 87 #[v, .string (tx c0), .string nm, .string (tx b)] w (GiveRet L nm (srcR L c0 b) v w) := by
 have hv := h
 obtain ⟨A, c, A', c', rfl, hx, hy, _⟩ := h
 obtain ⟨W2, hW2⟩ : ∃ W2, W2 = (w.alloc (.cells #[.slice A L.1.length c, .slice A' L.2.length c'] 53)).alloc (.cells #[.slice none 0 0, .slice none 0 0] 53) := ⟨_, rfl⟩
 have b2 : Below w.heap.size w W2 := by rw [hW2]; exact ((Below.refl _ _).alloc (Nat.le_refl _) _).alloc (by simp) _
 have KL : Hid (Blk.Blk W2 w.heap.size 53 #[.slice A L.1.length c, .slice A' L.2.length c']) := J (by rw [hW2]; exact (Blk.Blk.new w _ _).alloc _)
 have KR : Hid (Blk.Blk W2 (w.heap.size + 1) 53 #[.slice none 0 0, .slice none 0 0]) := J (by rw [hW2]; exact Blk.Blk.newAt _ _ (by simp))
 have hv2 := hv.below b2
 have HF := J (find_ex L (.agg #[.slice A L.1.length c, .slice A' L.2.length c']) (tx b) W2 hv2 hl hn)
 have HV := J hv2
 have HB := J b2
 have HW := J hW2
 have HRd := J (fun W (hb : Below w.heap.size w W) => implRead_any (tx b) (by rw [size_tx]; exact hsz) W (ht.on hb).1 (ht.on hb).2.1 (ht.on hb).2.2)
 rw [list_tx] at HRd
 have HWC := J hW
 clear hW hv hx hy hW2 b2 hv2 ht hl hsz
 rcases hc with rfl | rfl
 ·cases hr : rdO b with
  | none =>
   have hs : srcR L wSet b = none := by unfold srcR; rw [if_pos rfl, hr]; rfl
   rw [hs, show tx wSet = (⟨#[115, 101, 116]⟩ : ByteArray) from rfl]
   have HRR := J hr
   generalize (findR L (tx b)).isSome = bb at HF
   clear hs hr
   generalize tx b = wd at *
   go_enter Tryz.func87, Tryz.ntmps87
   go_wp2_with fail
   rw [← HW.out]
   refine HF.out.mono ?_
   rintro e w1 ⟨r0, rfl, _, b1⟩
   have KL1 := J (KL.out.belowS b1)
   have KR1 := J (KR.out.belowS b1)
   have HV1 := J (HV.out.below b1)
   have HB1 := J (Base.Below.nextA HB.out b1)
   clear b1 KL KR HV HB HF HW
   obtain ⟨K, W, T, m, f, a, s⟩ := r0
   unfold St.val
   dsimp only
   obtain ⟨W3, hW3⟩ : ∃ W3, W3 = w1.alloc (.cells #[.int .i64 K, .int .i64 W, .int .i64 T, .int .i64 m, .int .i64 f, .int .i64 a, .int .i64 s] 29) := ⟨_, rfl⟩
   have b3 : Below w1.heap.size w1 W3 := by rw [hW3]; exact (Below.refl _ _).alloc (Nat.le_refl _) _
   have KS : SBox W3 w1.heap.size K W T m f a s := by rw [hW3]; exact SBox.new _ _ _ _ _ _ _ _
   have hz1 := HB1.out.size
   have hk1 := KR1.out.lt
   go_wp2_with fail
   rw [← hW3]
   refine (HRd.out W3 (Base.Below.nextA HB1.out b3)).mono ?_
   intro e w4 hrd
   have hr2 := hrd.2.1 HRR.out
   subst hr2
   have b4 := hrd.2.2
   have b34 := Base.Below.nextA b3 b4
   have KL4 := KL1.out.belowS b34
   have KR4 := KR1.out.belowS b34
   have KS4 := KS.below b4 KS.lt
   have HB4 := J (Base.Below.nextA HB1.out b34)
   have HV4 := HV1.out.below b34
   have S8 := KS4.set7 0 0 0 0 0 0 0
   have x0 := (KS4).c0; have x1 := (KS4).c1; have x2 := (KS4).c2; have x3 := (KS4).c3; have x4 := (KS4).c4; have x5 := (KS4).c5; have x6 := (KS4).c6
   have z0 := (KS4).frz 0; have z1 := (KS4).frz 1; have z2 := (KS4).frz 2; have z3 := (KS4).frz 3; have z4 := (KS4).frz 4; have z5 := (KS4).frz 5; have z6 := (KS4).frz 6
   obtain ⟨W5, hW5⟩ : ∃ W5, W5 = set7 w4 w1.heap.size 0 0 0 0 0 0 0 := ⟨_, rfl⟩
   rw [← hW5] at S8
   have gs : w4.grownBy W5 (some w1.heap.size) := by rw [hW5]; exact Take.grown_set7 _ _ _ _ _ _ _ _ _
   have KL5 := J (KL4.kept gs (fun e => by injection e with e; omega))
   have KR5 := J (KR4.kept gs (fun e => by injection e with e; omega))
   have HB5 := J (HB4.out.trans (grown_below (B := w.heap.size) gs (fun q e => by injection e with e; omega) (by have := HB4.out.size; omega)))
   have HV5 := J (HV1.out.below (b34.trans (grown_below (B := w1.heap.size) gs (fun q e => by injection e with e; omega) (by have := b34.size; omega))))
   have HS8 := J S8
   have HW5 := J hW5
   unfold set7 at HW5
   clear hrd b4 b34 b3 KL4 KR4 KS4 HV4 S8 gs hW5 KS hW3 KL1 KR1 HV1 HB1 HRd HRR HB4
   have e0 := KL5.out.at 0 (v := .slice A L.1.length c) rfl
   have e1 := KL5.out.at 1 (v := .slice A' L.2.length c') rfl
   have r0 := KR5.out.at 0 (v := .slice none 0 0) rfl
   have r1 := KR5.out.at 1 (v := .slice none 0 0) rfl
   have f0 := KR5.out.frz 0
   have f1 := KR5.out.frz 1
   have KK := (KR5.out.setTo 0 (.slice A L.1.length c) rfl).setTo 1 (.slice A' L.2.length c') rfl
   have k0 := KK.at 0 (v := .slice A L.1.length c) rfl
   have k1 := KK.at 1 (v := .slice A' L.2.length c') rfl
   have HFIN := J ((HB5.out.setCell (p := ⟨w.heap.size + 1, 0, none⟩) (Nat.le_succ _) (.slice A L.1.length c)).setCell (p := ⟨w.heap.size + 1, 1, none⟩) (Nat.le_succ _) (.slice A' L.2.length c'))
   rw [HW5.out] at e0 e1 r0 r1 f0 f1 k0 k1 HFIN
   clear KK HW5 KL5 KR5 HB5 HS8 HWC HV5
   go_wp2
   refine bodyPost_ret (v := .tuple #[.agg #[.slice A L.1.length c, .slice A' L.2.length c'], .string ⟨#[]⟩, .bool false]) (by simp [results, Tryz.results87, go_sem, k0, k1]) rfl ?_
   exact .no ⟨rfl, HFIN.out⟩
  | some q7 =>
   obtain ⟨q, hq⟩ : ∃ q, q = toSt q7 := ⟨_, rfl⟩
   have hs : srcR L wSet b = some q := by unfold srcR; rw [if_pos rfl, hr]; rw [hq]; rfl
   rw [hs, show tx wSet = (⟨#[115, 101, 116]⟩ : ByteArray) from rfl]
   have HRR := J hr
   generalize (findR L (tx b)).isSome = bb at HF
   clear hs hr
   generalize tx b = wd at *
   go_enter Tryz.func87, Tryz.ntmps87
   go_wp2_with fail
   rw [← HW.out]
   refine HF.out.mono ?_
   rintro e w1 ⟨r0, rfl, _, b1⟩
   have KL1 := J (KL.out.belowS b1)
   have KR1 := J (KR.out.belowS b1)
   have HV1 := J (HV.out.below b1)
   have HB1 := J (Base.Below.nextA HB.out b1)
   clear b1 KL KR HV HB HF HW
   obtain ⟨K, W, T, m, f, a, s⟩ := r0
   unfold St.val
   dsimp only
   obtain ⟨W3, hW3⟩ : ∃ W3, W3 = w1.alloc (.cells #[.int .i64 K, .int .i64 W, .int .i64 T, .int .i64 m, .int .i64 f, .int .i64 a, .int .i64 s] 29) := ⟨_, rfl⟩
   have b3 : Below w1.heap.size w1 W3 := by rw [hW3]; exact (Below.refl _ _).alloc (Nat.le_refl _) _
   have KS : SBox W3 w1.heap.size K W T m f a s := by rw [hW3]; exact SBox.new _ _ _ _ _ _ _ _
   have hz1 := HB1.out.size
   have hk1 := KR1.out.lt
   go_wp2_with fail
   rw [← hW3]
   refine (HRd.out W3 (Base.Below.nextA HB1.out b3)).mono ?_
   intro e w4 hrd
   obtain ⟨hr1, hr2⟩ := hrd.1 q.K q.W q.T q.m q.f q.a q.s (by rw [HRR.out, hq]; rfl)
   subst hr2
   clear hr1
   have b4 := hrd.2.2
   have b34 := Base.Below.nextA b3 b4
   have KL4 := KL1.out.belowS b34
   have KR4 := KR1.out.belowS b34
   have KS4 := KS.below b4 KS.lt
   have HB4 := J (Base.Below.nextA HB1.out b34)
   have HV4 := HV1.out.below b34
   have S8 := KS4.set7 q.K q.W q.T q.m q.f q.a q.s
   have x0 := (KS4).c0; have x1 := (KS4).c1; have x2 := (KS4).c2; have x3 := (KS4).c3; have x4 := (KS4).c4; have x5 := (KS4).c5; have x6 := (KS4).c6
   have z0 := (KS4).frz 0; have z1 := (KS4).frz 1; have z2 := (KS4).frz 2; have z3 := (KS4).frz 3; have z4 := (KS4).frz 4; have z5 := (KS4).frz 5; have z6 := (KS4).frz 6
   obtain ⟨W5, hW5⟩ : ∃ W5, W5 = set7 w4 w1.heap.size q.K q.W q.T q.m q.f q.a q.s := ⟨_, rfl⟩
   rw [← hW5] at S8
   have gs : w4.grownBy W5 (some w1.heap.size) := by rw [hW5]; exact Take.grown_set7 _ _ _ _ _ _ _ _ _
   have KL5 := J (KL4.kept gs (fun e => by injection e with e; omega))
   have KR5 := J (KR4.kept gs (fun e => by injection e with e; omega))
   have HB5 := J (HB4.out.trans (grown_below (B := w.heap.size) gs (fun q e => by injection e with e; omega) (by have := HB4.out.size; omega)))
   have HV5 := J (HV1.out.below (b34.trans (grown_below (B := w1.heap.size) gs (fun q e => by injection e with e; omega) (by have := b34.size; omega))))
   have HS8 := J S8
   have HW5 := J hW5
   unfold set7 at HW5
   clear hrd b4 b34 b3 KL4 KR4 KS4 HV4 S8 gs hW5 KS hW3 KL1 KR1 HV1 HB1 HRd HRR HB4
   have HC := J (HWC.out q (.agg #[.slice A L.1.length c, .slice A' L.2.length c']) W5 HV5.out)
   have e0 := KL5.out.at 0 (v := .slice A L.1.length c) rfl
   have e1 := KL5.out.at 1 (v := .slice A' L.2.length c') rfl
   have hs8 := HS8.out
   have y0 := (hs8).c0; have y1 := (hs8).c1; have y2 := (hs8).c2; have y3 := (hs8).c3; have y4 := (hs8).c4; have y5 := (hs8).c5; have y6 := (hs8).c6
   clear hq
   unfold St.val at HC
   generalize q.K = K' at *
   generalize q.W = W' at *
   generalize q.T = T' at *
   generalize q.m = m' at *
   generalize q.f = f' at *
   generalize q.a = a' at *
   generalize q.s = s' at *
   rw [HW5.out] at e0 e1 y0 y1 y2 y3 y4 y5 y6
   clear hs8 HWC HV5
   go_wp2_with fail
   rw [← HW5.out]
   refine HC.out.mono ?_
   rintro e w6 ⟨v6, rfl, hv6, b6⟩
   have hv7 := hv6
   obtain ⟨A7, c7, A8, c8, rfl, _, _⟩ := hv6
   have KR6 := KR5.out.belowS b6
   have HB6 := Base.Below.nextA HB5.out b6
   have hk6 := KR6.lt
   have r0 := KR6.at 0 (v := .slice none 0 0) rfl
   have r1 := KR6.at 1 (v := .slice none 0 0) rfl
   have f0 := KR6.frz 0
   have f1 := KR6.frz 1
   obtain ⟨ok, hok⟩ : ∃ ok, ok = labR (withR L nm q) := ⟨_, rfl⟩
   have HOK := J hok
   have KK := ((KR6.setTo 0 (.slice A7 (withR L nm q).1.length c7) rfl).setTo 1 (.slice A8 (withR L nm q).2.length c8) rfl).alloc (.cells #[.slice A7 (withR L nm q).1.length c7, .slice A8 (withR L nm q).2.length c8] 53)
   have k0 := KK.at 0 (v := .slice A7 (withR L nm q).1.length c7) rfl
   have k1 := KK.at 1 (v := .slice A8 (withR L nm q).2.length c8) rfl
   have hvf := (ownPut hv7 (b := w.heap.size + 1) (by have := KR5.out.lt; omega) (.slice A7 (withR L nm q).1.length c7) (.slice A8 (withR L nm q).2.length c8)).at.below ((Below.refl _ _).alloc (Nat.le_refl _) (.cells #[.slice A7 (withR L nm q).1.length c7, .slice A8 (withR L nm q).2.length c8] 53))
   have HFIN := J (And.intro hvf (((HB6.setCell (p := ⟨w.heap.size + 1, 0, none⟩) (Nat.le_succ _) (.slice A7 (withR L nm q).1.length c7)).setCell (p := ⟨w.heap.size + 1, 1, none⟩) (Nat.le_succ _) (.slice A8 (withR L nm q).2.length c8)).alloc (by have := HB6.size; simp; omega) (.cells #[.slice A7 (withR L nm q).1.length c7, .slice A8 (withR L nm q).2.length c8] 53)))
   rw [← hok]
   clear hv7 KR6 HB6 KK hvf b6 HC HW5 KL5 KR5 HB5 HS8 e0 e1 y0 y1 y2 y3 y4 y5 y6 x0 x1 x2 x3 x4 x5 x6 z0 z1 z2 z3 z4 z5 z6 hok
   go_wp2
   refine bodyPost_ret (v := .tuple #[.agg #[.slice A7 (withR L nm q).1.length c7, .slice A8 (withR L nm q).2.length c8], .string ⟨#[111, 107]⟩, .bool ok]) (by simp [results, Tryz.results87, go_sem, k0, k1]) rfl ?_
   exact .yes ⟨_, by rw [HOK.out], HFIN.out.1, HFIN.out.2⟩
 ·cases hr : findR L (tx b) with
  | none =>
   have hs : srcR L wCopy b = none := by unfold srcR; rw [if_neg (by decide), hr]
   rw [hs, show tx wCopy = (⟨#[99, 111, 112, 121]⟩ : ByteArray) from rfl]
   rw [hr] at HF
   dsimp only [Option.isSome] at HF
   clear HRd
   clear hs hr
   generalize tx b = wd at *
   go_enter Tryz.func87, Tryz.ntmps87
   go_wp2_with fail
   rw [← HW.out]
   refine HF.out.mono ?_
   rintro e w1 ⟨r0, rfl, _, b1⟩
   have KL1 := J (KL.out.belowS b1)
   have KR1 := J (KR.out.belowS b1)
   have HV1 := J (HV.out.below b1)
   have HB1 := J (Base.Below.nextA HB.out b1)
   clear b1 KL KR HV HB HF HW
   obtain ⟨K, W, T, m, f, a, s⟩ := r0
   unfold St.val
   dsimp only
   have hk1 := KR1.out.lt
   have b3 : Below w1.heap.size w1 (w1.alloc (.cells #[.int .i64 K, .int .i64 W, .int .i64 T, .int .i64 m, .int .i64 f, .int .i64 a, .int .i64 s] 29)) := (Below.refl _ _).alloc (Nat.le_refl _) _
   have e0 := (KL1.out.belowS b3).at 0 (v := .slice A L.1.length c) rfl
   have e1 := (KL1.out.belowS b3).at 1 (v := .slice A' L.2.length c') rfl
   have r0 := (KR1.out.belowS b3).at 0 (v := .slice none 0 0) rfl
   have r1 := (KR1.out.belowS b3).at 1 (v := .slice none 0 0) rfl
   have f0 := (KR1.out.belowS b3).frz 0
   have f1 := (KR1.out.belowS b3).frz 1
   have g0 := KR1.out.at 0 (v := .slice none 0 0) rfl
   have g1 := KR1.out.at 1 (v := .slice none 0 0) rfl
   have h0 := KR1.out.frz 0
   have h1 := KR1.out.frz 1
   have KK := ((KR1.out.setTo 0 (.slice A L.1.length c) rfl).setTo 1 (.slice A' L.2.length c') rfl).alloc (.cells #[.int .i64 K, .int .i64 W, .int .i64 T, .int .i64 m, .int .i64 f, .int .i64 a, .int .i64 s] 29)
   have k0 := KK.at 0 (v := .slice A L.1.length c) rfl
   have k1 := KK.at 1 (v := .slice A' L.2.length c') rfl
   have HFIN := J (((HB1.out.setCell (p := ⟨w.heap.size + 1, 0, none⟩) (Nat.le_succ _) (.slice A L.1.length c)).setCell (p := ⟨w.heap.size + 1, 1, none⟩) (Nat.le_succ _) (.slice A' L.2.length c')).alloc (by have := HB1.out.size; simp; omega) (.cells #[.int .i64 K, .int .i64 W, .int .i64 T, .int .i64 m, .int .i64 f, .int .i64 a, .int .i64 s] 29))
   clear KK KL1 KR1 HB1 HWC HV1 b3
   go_wp2
   refine bodyPost_ret (v := .tuple #[.agg #[.slice A L.1.length c, .slice A' L.2.length c'], .string ⟨#[]⟩, .bool false]) (by simp [results, Tryz.results87, go_sem, k0, k1]) rfl ?_
   exact .no ⟨rfl, HFIN.out⟩
  | some q =>
   have hs : srcR L wCopy b = some q := by unfold srcR; rw [if_neg (by decide), hr]
   rw [hs, show tx wCopy = (⟨#[99, 111, 112, 121]⟩ : ByteArray) from rfl]
   rw [hr] at HF
   dsimp only [Option.isSome] at HF
   clear HRd
   clear hs hr
   generalize tx b = wd at *
   go_enter Tryz.func87, Tryz.ntmps87
   go_wp2_with fail
   rw [← HW.out]
   refine HF.out.mono ?_
   rintro e w1 ⟨r0, rfl, hr0, b1⟩
   obtain rfl := hr0 _ rfl
   have KL1 := J (KL.out.belowS b1)
   have KR1 := J (KR.out.belowS b1)
   have HV1 := J (HV.out.below b1)
   have HB1 := J (Base.Below.nextA HB.out b1)
   clear b1 KL KR HV HB HF HW
   obtain ⟨K, W, T, m, f, a, s⟩ := r0
   unfold St.val
   dsimp only
   obtain ⟨W3, hW3⟩ : ∃ W3, W3 = w1.alloc (.cells #[.int .i64 K, .int .i64 W, .int .i64 T, .int .i64 m, .int .i64 f, .int .i64 a, .int .i64 s] 29) := ⟨_, rfl⟩
   have b3 : Below w1.heap.size w1 W3 := by rw [hW3]; exact (Below.refl _ _).alloc (Nat.le_refl _) _
   have KS : SBox W3 w1.heap.size K W T m f a s := by rw [hW3]; exact SBox.new _ _ _ _ _ _ _ _
   have hz1 := HB1.out.size
   have hk1 := KR1.out.lt
   have KL5 := J (KL1.out.belowS b3)
   have KR5 := J (KR1.out.belowS b3)
   have HB5 := J (Base.Below.nextA HB1.out b3)
   have HV5 := J (HV1.out.below b3)
   have HS8 := J KS
   obtain ⟨W5, hW5⟩ : ∃ W5, W5 = W3 := ⟨_, rfl⟩
   have HW5 := J (hW5.trans hW3)
   rw [← hW5] at KL5 KR5 HB5 HV5 HS8
   have g0 := KR1.out.at 0 (v := .slice none 0 0) rfl
   have g1 := KR1.out.at 1 (v := .slice none 0 0) rfl
   have h0 := KR1.out.frz 0
   have h1 := KR1.out.frz 1
   clear b3 KS hW3 hW5 KL1 KR1 HV1 HB1
   have HC := J (HWC.out ⟨K, W, T, m, f, a, s⟩ (.agg #[.slice A L.1.length c, .slice A' L.2.length c']) W5 HV5.out)
   have e0 := KL5.out.at 0 (v := .slice A L.1.length c) rfl
   have e1 := KL5.out.at 1 (v := .slice A' L.2.length c') rfl
   have hs8 := HS8.out
   have y0 := (hs8).c0; have y1 := (hs8).c1; have y2 := (hs8).c2; have y3 := (hs8).c3; have y4 := (hs8).c4; have y5 := (hs8).c5; have y6 := (hs8).c6
   obtain ⟨q, hq⟩ : ∃ q, q = (⟨K, W, T, m, f, a, s⟩ : St) := ⟨_, rfl⟩
   unfold St.val at HC
   dsimp only at HC
   rw [← hq] at HC
   have HQ := J hq
   clear hq
   rw [HW5.out] at e0 e1 y0 y1 y2 y3 y4 y5 y6
   clear hs8 HWC HV5
   go_wp2_with fail
   rw [← HW5.out]
   refine HC.out.mono ?_
   rintro e w6 ⟨v6, rfl, hv6, b6⟩
   have hv7 := hv6
   obtain ⟨A7, c7, A8, c8, rfl, _, _⟩ := hv6
   have KR6 := KR5.out.belowS b6
   have HB6 := Base.Below.nextA HB5.out b6
   have hk6 := KR6.lt
   have r0 := KR6.at 0 (v := .slice none 0 0) rfl
   have r1 := KR6.at 1 (v := .slice none 0 0) rfl
   have f0 := KR6.frz 0
   have f1 := KR6.frz 1
   obtain ⟨ok, hok⟩ : ∃ ok, ok = labR (withR L nm q) := ⟨_, rfl⟩
   have HOK := J hok
   have KK := ((KR6.setTo 0 (.slice A7 (withR L nm q).1.length c7) rfl).setTo 1 (.slice A8 (withR L nm q).2.length c8) rfl).alloc (.cells #[.slice A7 (withR L nm q).1.length c7, .slice A8 (withR L nm q).2.length c8] 53)
   have k0 := KK.at 0 (v := .slice A7 (withR L nm q).1.length c7) rfl
   have k1 := KK.at 1 (v := .slice A8 (withR L nm q).2.length c8) rfl
   have hvf := (ownPut hv7 (b := w.heap.size + 1) (by have := KR5.out.lt; omega) (.slice A7 (withR L nm q).1.length c7) (.slice A8 (withR L nm q).2.length c8)).at.below ((Below.refl _ _).alloc (Nat.le_refl _) (.cells #[.slice A7 (withR L nm q).1.length c7, .slice A8 (withR L nm q).2.length c8] 53))
   have HFIN := J (And.intro hvf (((HB6.setCell (p := ⟨w.heap.size + 1, 0, none⟩) (Nat.le_succ _) (.slice A7 (withR L nm q).1.length c7)).setCell (p := ⟨w.heap.size + 1, 1, none⟩) (Nat.le_succ _) (.slice A8 (withR L nm q).2.length c8)).alloc (by have := HB6.size; simp; omega) (.cells #[.slice A7 (withR L nm q).1.length c7, .slice A8 (withR L nm q).2.length c8] 53)))
   clear hv7 KR6 HB6 KK hvf b6 HC HW5 KL5 KR5 HB5 HS8 e0 e1 y0 y1 y2 y3 y4 y5 y6  hok
   go_wp2
   refine bodyPost_ret (v := .tuple #[.agg #[.slice A7 (withR L nm q).1.length c7, .slice A8 (withR L nm q).2.length c8], .string ⟨#[111, 107]⟩, .bool (labR (withR L nm q))]) (by simp [results, Tryz.results87, go_sem, k0, k1]) rfl ?_
   obtain ⟨hf1, hf2⟩ := HFIN.out
   have hok := HOK.out
   have hq := HQ.out
   clear HQ HOK HFIN
   subst hq
   exact .yes ⟨_, rfl, hf1, hf2⟩
end LcG
namespace LcM
open Go.RowKit Base Mem MemS LabM LabV StM CarM LcA
theorem spl_del {l xs zs : List Value} {N a s K : Nat} (hx : l.take N = xs) (hN : N = K + s) (ha : a ≤ K) (hl : N ≤ l.length) (hz : zs.length = s) : (spl (spl l a (xs.drop (a + s))) K zs).take K = xs.take a ++ xs.drop (a + s) := by
 have hxl : xs.length = N := by rw [← hx, List.length_take]; omega
 have e1 : l.take a = xs.take a := by rw [← hx, List.take_take, Nat.min_eq_left (by omega)]
 have hdl : (xs.drop (a + s)).length = K - a := by rw [List.length_drop, hxl]; omega
 have hta : (xs.take a).length = a := by rw [List.length_take]; omega
 obtain ⟨D, hD⟩ : ∃ D, D = xs.drop (a + s) := ⟨_, rfl⟩
 rw [← hD] at hdl ⊢
 have e2 : (spl l a D).take K = xs.take a ++ D := by
  unfold spl
  rw [e1, List.take_append_of_le_length (by simp; omega), List.take_of_length_le (by simp; omega)]
 rw [spl, e2, List.append_assoc, List.take_append_of_le_length (by simp; omega), List.take_of_length_le (by simp; omega)]
theorem own_del {w : World} {B g k c p sz : Nat} {e : TypeId} {xs zs : List Value} (hO : w.ownsRow B e sz (.slice (some ⟨g, 0, none⟩) (k + 1) c) (k + 1) xs) (hp : p ≤ k) (hz : zs.length = sz) :
  ((w.drew.setCells g (p * sz) (xs.drop (p * sz + sz))).setCells g (k * sz) zs).ownsRow B e sz (.slice (some ⟨g, 0, none⟩) k c) k (xs.take (p * sz) ++ xs.drop (p * sz + sz)) ∧
  w.grownBy ((w.drew.setCells g (p * sz) (xs.drop (p * sz + sz))).setCells g (k * sz) zs) (some g) := by
 have hlx := hO.1
 rcases hO.2 with ⟨h', _⟩ | ⟨g', cap, cur, h', hb, hg, hnc, hcm, hcs, htake⟩
 ·simp at h'
 ·simp only [Value.slice.injEq, Option.some.injEq, Addr.mk.injEq, and_true, true_and] at h'
  obtain ⟨rfl, rfl⟩ := h'
  have hpn : p * sz ≤ k * sz := Nat.mul_le_mul_right _ hp
  have hk1 : (k + 1) * sz = k * sz + sz := Nat.succ_mul _ _
  have hcn : (k + 1) * sz ≤ c * sz := Nat.mul_le_mul_right _ hnc
  have hdl : (xs.drop (p * sz + sz)).length = k * sz - p * sz := by rw [List.length_drop, hlx, hk1]; omega
  have h1 := heap_setCells g e (xs.drop (p * sz + sz)) (p * sz) w.drew cur hg (by omega)
  have hl1 : (spl cur.toList (p * sz) (xs.drop (p * sz + sz))).length = c * sz := by rw [spl_len (by simp only [Array.length_toList]; omega)]; simpa using hcs
  have h2 := heap_setCells g e zs (k * sz) _ _ h1 (by simp only [List.size_toArray]; rw [hl1]; omega)
  refine ⟨⟨by rw [List.length_append, List.length_take, hdl]; omega, .inr ⟨g, c, _, rfl, hb, h2, by omega, hcm, by simp; rw [spl_len (by rw [hl1]; omega), hl1], ?_⟩⟩, ?_⟩
  ·exact spl_del htake hk1 hpn (by simp only [Array.length_toList]; omega) hz
  ·exact grown_trans (grown_trans (show w.grownBy w.drew (some g) from ⟨rfl, rfl, rfl, Nat.le_refl _, fun _ _ _ => rfl⟩) (grown_setCells g _ _ w.drew)) (grown_setCells g _ _ _)
theorem step_append_runI {P : Program} {ops : Array Oper} {o : Oper} {a : Act} {w : World} {K : Act → World → Prop} {Q : Exit → Act → World → Prop} {E : Prop}
  (hg : o.guard = none) (d x : Operand) (dT sT : TypeId) (hop : o.op = Op.call { callee := Callee.builtin Builtin.append, args := #[d, x], argTypes := #[dT, sT] })
  (v u : Value) (hd : a.eval d = v) (hx : a.eval x = u) {v' : Value} {w' : World} (hr : (Builtin.append_ #[dT, sT] o.type #[v, u]).run P w = .ok v' w') (hK : K (a.put o.dst v') w') :
  if Region.wanted o (yielded ops a.tmps) = true then Oper.wp P o a w K Q else E := by
 have hw : Region.wanted o (yielded ops a.tmps) = true := by simp [Region.wanted, hg]
 rw [if_pos hw]
 unfold Oper.wp
 simp [execOp, hop, resolve, invoke, builtin, hd, hx, hr, Result.andThen]
 exact hK
theorem clrT (W : World) (ty : TypeId) (g o cc : Nat) (hc : ∀ j, j < 1 → (W.cell? ⟨g, o + j, none⟩).isSome = true) (hf : ∀ j, j < 1 → W.frozen? ⟨g, o + j, none⟩ = false) : (Builtin.clear_ #[50] ty #[.slice (some ⟨g, o, none⟩) 1 cc]).run Tryz.prog W = .ok (.tuple #[]) (W.setCells g o [.string ByteArray.empty]) := by
 have hst := run_storeCells_cells (P := Tryz.prog) g o [.string ByteArray.empty] 0 W (fun j hj => by rw [Nat.add_zero]; exact hc j hj) (fun j hj => by rw [Nat.add_zero]; exact hf j hj) (by simp [Value.oneCell'])
 simp only [Nat.add_zero] at hst
 have hv : (zeroValue 9).run Tryz.prog W = .ok (.string ByteArray.empty) W := by
  obtain ⟨i0, hi, hz0, hz1, hz2⟩ := info_parts infoT
  simp [zeroValue, typeInfo, hi, hz0]
 have hz : (Builtin.zeroCells (Value.cells (.string ByteArray.empty)) 1).toList = [.string ByteArray.empty] := by simp [Builtin.zeroCells, Value.cells, List.range, List.range.loop]
 simp [Builtin.clear_, run_underlying Tryz.underlying50, hv]
 rw [hz, hst]
 rfl
set_option maxHeartbeats 4000000 in
set_option maxRecDepth 100000 in
theorem delT (g k c B p : Nat) (xs : List Value) (w : World) (hO : w.ownsRow B 9 1 (.slice (some ⟨g, 0, none⟩) (k + 1) c) (k + 1) xs) (hB : B ≤ w.heap.size) (hn : k ≤ 1000) (hp : p ≤ k) (h1 : ∀ u ∈ xs, u.oneCell' = true) :
  Calls Tryz.prog 187 #[.slice (some ⟨g, 0, none⟩) (k + 1) c, .int .i64 (p : Int), .int .i64 ((p : Int) + 1)] w fun e w' => e = .returned (.slice (some ⟨g, 0, none⟩) k c) ∧ w'.ownsRow B 9 1 (.slice (some ⟨g, 0, none⟩) k c) k (xs.take (p) ++ xs.drop (p + 1)) ∧ w.grownBy w' (some g) := by
 obtain ⟨k1, k2, k3, k4, k5⟩ := own_cells hO
 have hxl : xs.length = (k + 1) * 1 := hO.1
 have hm5 : maxLen = 9223372036854775807 := by unfold maxLen; omega
 have hdl : (xs.drop (p + 1)).length = (k - p) * 1 := by rw [List.length_drop, hxl]; omega
 obtain ⟨i0, hi0, hz0, hzs, hzb⟩ := info_parts infoT
 have hap : ∀ ty sc, (Builtin.append_ #[50, 50] ty #[.slice (some ⟨g, 0, none⟩) p c, .slice (some ⟨g, (p + 1), none⟩) (k - p) sc]).run Tryz.prog w.drew = .ok (.slice (some ⟨g, 0, none⟩) k c) (w.drew.setCells g (p) (xs.drop (p + 1))) := fun ty sc => by
  have h := run_append_room_cells (P := Tryz.prog) w.drew 50 ty 9 i0 Tryz.underlying50 hi0 g 0 p c ⟨g, (p + 1), none⟩ (k - p) sc (xs.drop (p + 1)) (by rw [hzs]; exact hdl)
   (fun j v hj => by rw [Addr.add_lit]; have := k1 (p + 1 + j) v (by rwa [List.getElem?_drop] at hj); rw [show (p + 1) + j = p + 1 + j by omega]; exact this) (fun v hv => h1 v (List.mem_of_mem_drop hv)) (by omega) (fun j hj => by rw [hzs]; exact k2 _ (by omega)) (fun j hj => k3 _)
  rw [hzs, Nat.zero_add, show p + (k - p) = k by omega] at h
  rw [Nat.mul_one] at h
  exact h
 obtain ⟨W1, hW1⟩ : ∃ W1, W1 = w.drew.setCells g (p) (xs.drop (p + 1)) := ⟨_, rfl⟩
 have hk2 : ∀ j, j < c * 1 → (w.cell? ⟨g, j, none⟩).isSome = true := k2
 have hcl : ∀ ty cc, (Builtin.clear_ #[50] ty #[.slice (some ⟨g, k, none⟩) 1 cc]).run Tryz.prog W1 = .ok (.tuple #[]) (W1.setCells g (k) [.string ByteArray.empty]) := fun ty cc => by
  skip
  exact clrT W1 ty g (k) cc (fun j hj => by rw [hW1]; exact Go.Proofs.isSome_setCells g (xs.drop (p + 1)) (p) w.drew (fun t ht => hk2 _ (by omega)) _ (hk2 _ (by omega))) (fun j hj => by rw [hW1, World.frozen?_setCells]; exact k3 _)
 have hd := own_del (zs := [.string ByteArray.empty]) hO hp rfl
 simp only [Nat.mul_one] at hd k2
 rw [← hW1] at hap hd
 have hap0 : k = p → ∀ ty a sc, (Builtin.append_ #[50, 50] ty #[.slice (some ⟨g, 0, none⟩) p c, .slice (some a) 0 sc]).run Tryz.prog w.drew = .ok (.slice (some ⟨g, 0, none⟩) k c) W1 := fun hkp ty a sc => by
  have h := run_append_room_cells (P := Tryz.prog) w.drew 50 ty 9 i0 Tryz.underlying50 hi0 g 0 p c a 0 sc [] (by simp) (fun j v hj => by simp at hj) (fun v hv => by simp at hv) (by omega) (fun j hj => by simp at hj) (fun j hj => by simp at hj)
  rw [h, hW1, List.drop_of_length_le (by omega), hkp]
  rfl
 have HD := J hd
 have mixed : Tryz.prog.follows .mixedOrders = true := by kernel_rfl
 have hw1 : IntKind.i64.wrap ((p : Int) + 1) = (p : Int) + 1 := by rw [IntKind.wrap_i64]; omega
 have hb1 : (0 : Int) ≤ (p : Int) + 1 := by omega
 have hk0 : (k : Int) ≤ (k : Int) + 1 := by omega
 have hb2 : ¬ (p : Int) = (p : Int) + 1 := by omega
 have hb3 : (p : Int) + 1 ≤ (k : Int) + 1 := by omega
 have htn : ((p : Int) + 1).toNat = p + 1 := by omega
 have hpk : p ≤ k := hp
 have hpk1 : p + 1 ≤ k + 1 := by omega
 have hpc : p ≤ c := by omega
 have hkc : k ≤ c := by omega
 have hkc1 : k + 1 ≤ c := k4
 have hc1 : ¬ c = k := by omega
 have hc2 : ¬ c = p := by omega
 have hc63 : c ≤ 9223372036854775807 := by omega
 clear k1 k2 k3 hk2 hxl hdl h1 hi0 hz0 hzs hzb
 by_cases hcp : c = p + 1
 ·have hkp : k = p := by omega
  subst hkp
  subst hcp
  have hap0 := hap0
  clear hO hd hW1
  go_enter Tryz.func187, Tryz.ntmps187
  go_wp2
  go_region_law_o (refine step_append_runI rfl _ _ 50 50 rfl (.slice (some ⟨g, 0, none⟩) k (k + 1)) (.slice (some ⟨g, 0, none⟩) 0 0) (by simp [Act.eval, Act.put]) (by simp [Act.eval, Act.put]) (hap0 trivial 50 ⟨g, 0, none⟩ 0) ?_)
  go_wp2
  go_ret
  exact ⟨rfl, HD.out.1, HD.out.2⟩
 ·have HCP := J hcp
  clear hO hW1 hd hap0
  go_enter Tryz.func187, Tryz.ntmps187
  go_wp2
  go_region_law_o (refine step_append_runI rfl _ _ 50 50 rfl (.slice (some ⟨g, 0, none⟩) p c) (.slice (some ⟨g, (p + 1), none⟩) (k - p) (c - (p + 1))) (by simp [Act.eval, Act.put]) (by simp [Act.eval, Act.put]) (hap 50 (c - (p + 1))) ?_)
  go_wp2
  go_ret
  exact ⟨rfl, HD.out.1, HD.out.2⟩
theorem clrS (W : World) (ty : TypeId) (g o cc : Nat) (hc : ∀ j, j < 7 → (W.cell? ⟨g, o + j, none⟩).isSome = true) (hf : ∀ j, j < 7 → W.frozen? ⟨g, o + j, none⟩ = false) : (Builtin.clear_ #[51] ty #[.slice (some ⟨g, o, none⟩) 1 cc]).run Tryz.prog W = .ok (.tuple #[]) (W.setCells g o [.int .i64 0, .int .i64 0, .int .i64 0, .int .i64 0, .int .i64 0, .int .i64 0, .int .i64 0]) := by
 have hst := run_storeCells_cells (P := Tryz.prog) g o [.int .i64 0, .int .i64 0, .int .i64 0, .int .i64 0, .int .i64 0, .int .i64 0, .int .i64 0] 0 W (fun j hj => by rw [Nat.add_zero]; exact hc j hj) (fun j hj => by rw [Nat.add_zero]; exact hf j hj) (by simp [Value.oneCell'])
 simp only [Nat.add_zero] at hst
 have hv : (zeroValue 29).run Tryz.prog W = .ok (.agg #[.int .i64 0, .int .i64 0, .int .i64 0, .int .i64 0, .int .i64 0, .int .i64 0, .int .i64 0]) W := by
  obtain ⟨i0, hi, hz0, hz1, hz2⟩ := info_parts infoSt7
  simp [zeroValue, typeInfo, hi, hz0]
 have hz : (Builtin.zeroCells (Value.cells (.agg #[.int .i64 0, .int .i64 0, .int .i64 0, .int .i64 0, .int .i64 0, .int .i64 0, .int .i64 0])) 1).toList = [.int .i64 0, .int .i64 0, .int .i64 0, .int .i64 0, .int .i64 0, .int .i64 0, .int .i64 0] := by simp [Builtin.zeroCells, Value.cells, List.range, List.range.loop]
 simp [Builtin.clear_, run_underlying Tryz.underlying51, hv]
 rw [hz, hst]
 rfl
set_option maxHeartbeats 4000000 in
set_option maxRecDepth 100000 in
theorem delS (g k c B p : Nat) (xs : List Value) (w : World) (hO : w.ownsRow B 29 7 (.slice (some ⟨g, 0, none⟩) (k + 1) c) (k + 1) xs) (hB : B ≤ w.heap.size) (hn : k ≤ 1000) (hp : p ≤ k) (h1 : ∀ u ∈ xs, u.oneCell' = true) :
  Calls Tryz.prog 188 #[.slice (some ⟨g, 0, none⟩) (k + 1) c, .int .i64 (p : Int), .int .i64 ((p : Int) + 1)] w fun e w' => e = .returned (.slice (some ⟨g, 0, none⟩) k c) ∧ w'.ownsRow B 29 7 (.slice (some ⟨g, 0, none⟩) k c) k (xs.take (p * 7) ++ xs.drop (p * 7 + 7)) ∧ w.grownBy w' (some g) := by
 obtain ⟨k1, k2, k3, k4, k5⟩ := own_cells hO
 have hxl : xs.length = (k + 1) * 7 := hO.1
 have hm5 : maxLen = 9223372036854775807 := by unfold maxLen; omega
 have hdl : (xs.drop (p * 7 + 7)).length = (k - p) * 7 := by rw [List.length_drop, hxl]; omega
 obtain ⟨i0, hi0, hz0, hzs, hzb⟩ := info_parts infoSt7
 have hap : ∀ ty sc, (Builtin.append_ #[51, 51] ty #[.slice (some ⟨g, 0, none⟩) p c, .slice (some ⟨g, (p + 1) * 7, none⟩) (k - p) sc]).run Tryz.prog w.drew = .ok (.slice (some ⟨g, 0, none⟩) k c) (w.drew.setCells g (p * 7) (xs.drop (p * 7 + 7))) := fun ty sc => by
  have h := run_append_room_cells (P := Tryz.prog) w.drew 51 ty 29 i0 Tryz.underlying51 hi0 g 0 p c ⟨g, (p + 1) * 7, none⟩ (k - p) sc (xs.drop (p * 7 + 7)) (by rw [hzs]; exact hdl)
   (fun j v hj => by rw [Addr.add_lit]; have := k1 (p * 7 + 7 + j) v (by rwa [List.getElem?_drop] at hj); rw [show (p + 1) * 7 + j = p * 7 + 7 + j by omega]; exact this) (fun v hv => h1 v (List.mem_of_mem_drop hv)) (by omega) (fun j hj => by rw [hzs]; exact k2 _ (by omega)) (fun j hj => k3 _)
  rw [hzs, Nat.zero_add, show p + (k - p) = k by omega] at h
  exact h
 obtain ⟨W1, hW1⟩ : ∃ W1, W1 = w.drew.setCells g (p * 7) (xs.drop (p * 7 + 7)) := ⟨_, rfl⟩
 have hk2 : ∀ j, j < c * 7 → (w.cell? ⟨g, j, none⟩).isSome = true := k2
 have hcl : ∀ ty cc, (Builtin.clear_ #[51] ty #[.slice (some ⟨g, k * 7, none⟩) 1 cc]).run Tryz.prog W1 = .ok (.tuple #[]) (W1.setCells g (k * 7) [.int .i64 0, .int .i64 0, .int .i64 0, .int .i64 0, .int .i64 0, .int .i64 0, .int .i64 0]) := fun ty cc => by
  skip
  exact clrS W1 ty g (k * 7) cc (fun j hj => by rw [hW1]; exact Go.Proofs.isSome_setCells g (xs.drop (p * 7 + 7)) (p * 7) w.drew (fun t ht => hk2 _ (by omega)) _ (hk2 _ (by omega))) (fun j hj => by rw [hW1, World.frozen?_setCells]; exact k3 _)
 have hd := own_del (zs := [.int .i64 0, .int .i64 0, .int .i64 0, .int .i64 0, .int .i64 0, .int .i64 0, .int .i64 0]) hO hp rfl
 rw [← hW1] at hap hd
 have hap0 : k = p → ∀ ty a sc, (Builtin.append_ #[51, 51] ty #[.slice (some ⟨g, 0, none⟩) p c, .slice (some a) 0 sc]).run Tryz.prog w.drew = .ok (.slice (some ⟨g, 0, none⟩) k c) W1 := fun hkp ty a sc => by
  have h := run_append_room_cells (P := Tryz.prog) w.drew 51 ty 29 i0 Tryz.underlying51 hi0 g 0 p c a 0 sc [] (by simp) (fun j v hj => by simp at hj) (fun v hv => by simp at hv) (by omega) (fun j hj => by simp at hj) (fun j hj => by simp at hj)
  rw [h, hW1, List.drop_of_length_le (by omega), hkp]
  rfl
 have HD := J hd
 have mixed : Tryz.prog.follows .mixedOrders = true := by kernel_rfl
 have hw1 : IntKind.i64.wrap ((p : Int) + 1) = (p : Int) + 1 := by rw [IntKind.wrap_i64]; omega
 have hb1 : (0 : Int) ≤ (p : Int) + 1 := by omega
 have hk0 : (k : Int) ≤ (k : Int) + 1 := by omega
 have hb2 : ¬ (p : Int) = (p : Int) + 1 := by omega
 have hb3 : (p : Int) + 1 ≤ (k : Int) + 1 := by omega
 have htn : ((p : Int) + 1).toNat = p + 1 := by omega
 have hpk : p ≤ k := hp
 have hpk1 : p + 1 ≤ k + 1 := by omega
 have hpc : p ≤ c := by omega
 have hkc : k ≤ c := by omega
 have hkc1 : k + 1 ≤ c := k4
 have hc1 : ¬ c = k := by omega
 have hc2 : ¬ c = p := by omega
 have hc63 : c ≤ 9223372036854775807 := by omega
 clear k1 k2 k3 hk2 hxl hdl h1 hi0 hz0 hzs hzb
 by_cases hcp : c = p + 1
 ·have hkp : k = p := by omega
  subst hkp
  subst hcp
  have hap0 := hap0
  clear hO hd hW1
  go_enter Tryz.func188, Tryz.ntmps188
  go_wp2
  go_region_law_o (refine step_append_runI rfl _ _ 51 51 rfl (.slice (some ⟨g, 0, none⟩) k (k + 1)) (.slice (some ⟨g, 0, none⟩) 0 0) (by simp [Act.eval, Act.put]) (by simp [Act.eval, Act.put]) (hap0 trivial 51 ⟨g, 0, none⟩ 0) ?_)
  go_wp2
  go_ret
  exact ⟨rfl, HD.out.1, HD.out.2⟩
 ·have HCP := J hcp
  clear hO hW1 hd hap0
  go_enter Tryz.func188, Tryz.ntmps188
  go_wp2
  go_region_law_o (refine step_append_runI rfl _ _ 51 51 rfl (.slice (some ⟨g, 0, none⟩) p c) (.slice (some ⟨g, (p + 1) * 7, none⟩) (k - p) (c - (p + 1))) (by simp [Act.eval, Act.put]) (by simp [Act.eval, Act.put]) (hap 51 (c - (p + 1))) ?_)
  go_wp2
  go_ret
  exact ⟨rfl, HD.out.1, HD.out.2⟩
end LcM
end Go.Proofs.YtgipnbeipfhekaaGreatDoor

/- l11Set: a stream is laid into a lab under a name. -/
import Derived.Test.YtgipnbeipfhekaaGreatDoorMgFnL11
import Derived.Test.YtgipnbeipfhekaaGreatDoorMgFnL04
import Derived.Test.YtgipnbeipfhekaaGreatDoorMgFnL03
import Derived.Deep.AppendLies
import Derived.Deep.CutRange
import Derived.Test.YtgipnbeipfhekaaGreatDoorMgFnL00
set_option linter.unusedVariables false
set_option linter.unusedSimpArgs false
set_option maxRecDepth 100000
set_option maxHeartbeats 8000000
namespace Go.Proofs.YtgipnbeipfhekaaGreatDoor
namespace Set
open Go.RowKit Base Mem LabM LabV MemS Find SetA Str
structure LabAt (w : World) (b : Nat) (ss : List ByteArray) (fs : List Int) (A A' : Option Addr) (c c' : Nat) : Prop where
 c0 : w.cell? ⟨b, 0, none⟩ = some (.slice A ss.length c)
 c1 : w.cell? ⟨b, 1, none⟩ = some (.slice A' ss.length c')
 z0 : w.frozen? ⟨b, 0, none⟩ = false
 z1 : w.frozen? ⟨b, 1, none⟩ = false
 lt : b < w.heap.size
 len : fs.length = 7 * ss.length
 cap : ss.length ≤ c ∧ ss.length ≤ c'
 six : ss.length ≤ 6
 rd : RdT w w.heap.size A ss
 rs : RdS w w.heap.size A' ss.length fs
 emp : ss.length = 0 → A = none ∧ A' = none ∧ c = 0 ∧ c' = 0
 abv : ∀ g off, A = some ⟨g, off, none⟩ → b < g ∧ off = 0
 abv' : ∀ g off, A' = some ⟨g, off, none⟩ → b < g ∧ off = 0
 fz' : ∀ g off i, A' = some ⟨g, off, none⟩ → w.frozen? ⟨g, i, none⟩ = false
 ty : ∀ g off sub, A = some ⟨g, off, sub⟩ → ∃ cs fr, w.heap[g]? = some (.cells cs 9 fr)
 ty' : ∀ g off sub, A' = some ⟨g, off, sub⟩ → ∃ cs fr, w.heap[g]? = some (.cells cs 29 fr)
theorem blk_lt {w : World} {b : Nat} {o : Obj} (h : w.heap[b]? = some o) : b < w.heap.size := by
 rcases Nat.lt_or_ge b w.heap.size with hlt | hge
 ·exact hlt
 ·rw [Array.getElem?_eq_none hge] at h; cases h
theorem ty_set {w : World} {g : Nat} {t : TypeId} (h : ∃ cs fr, w.heap[g]? = some (.cells cs t fr)) (p : Addr) (x : Value) : ∃ cs fr, (w.setCell p x).heap[g]? = some (.cells cs t fr) := by
 obtain ⟨cs, fr, h1⟩ := h
 by_cases hp : p.block = g
 ·subst hp
  unfold World.setCell
  simp only [Array.getElem?_modify, if_true, h1, Option.map_some]
  exact ⟨_, _, rfl⟩
 ·refine ⟨cs, fr, ?_⟩
  unfold World.setCell
  simp only [Array.getElem?_modify, if_neg hp, h1]
def Lab (w : World) (b : Nat) (ss : List ByteArray) (fs : List Int) : Prop := ∃ A A' c c', LabAt w b ss fs A A' c c'
theorem LabAt.below {w w' : World} {b : Nat} {ss : List ByteArray} {fs : List Int} {A A' : Option Addr} {c c' : Nat} (h : LabAt w b ss fs A A' c c') (hb : Below w.heap.size w w') : LabAt w' b ss fs A A' c c' :=
 ⟨(hb.cell (p := ⟨b, 0, none⟩) h.lt).trans h.c0, (hb.cell (p := ⟨b, 1, none⟩) h.lt).trans h.c1, (hb.frozen (p := ⟨b, 0, none⟩) h.lt).trans h.z0, (hb.frozen (p := ⟨b, 1, none⟩) h.lt).trans h.z1, Nat.lt_of_lt_of_le h.lt hb.size, h.len, h.cap, h.six, (h.rd.below hb (Nat.le_refl _)).more hb.size, (h.rs.below hb (Nat.le_refl _)).more hb.size, h.emp, h.abv, h.abv', fun g off i e => by
  by_cases h0 : ss.length = 0
  ·rw [(h.emp h0).2.1] at e; cases e
  ·obtain ⟨q, o, e2, hlt, _⟩ := h.rs (by omega)
   rw [e] at e2
   injection e2 with e2
   injection e2 with e2 _ _
   subst e2
   exact (hb.frozen (p := ⟨g, i, none⟩) hlt).trans (h.fz' g off i e), fun g off sub e => (h.ty g off sub e).imp fun cs => Exists.imp fun fr hh => (hb.block g (blk_lt hh)).trans hh, fun g off sub e => (h.ty' g off sub e).imp fun cs => Exists.imp fun fr hh => (hb.block g (blk_lt hh)).trans hh⟩
theorem lab_of {w : World} {b B B' n : Nat} {ss : List ByteArray} {fs : List Int} {v v' : Value} (o : w.ownsRow B 9 1 v n (texts ss)) (o' : w.ownsRow B' 29 7 v' n (ints fs)) (hn : ss.length = n) (hp : 0 < n) (h6 : n ≤ 6) (hB : b < B) (hB' : b < B')
  (c0 : w.cell? ⟨b, 0, none⟩ = some v) (c1 : w.cell? ⟨b, 1, none⟩ = some v') (z0 : w.frozen? ⟨b, 0, none⟩ = false) (z1 : w.frozen? ⟨b, 1, none⟩ = false) : Lab w b ss fs := by
 subst hn
 have e1 : OwnT w B v ss := o
 have e2 : OwnS w B' v' ss.length fs := o'
 have hl := e2.len
 rcases o.2 with ⟨_, h0⟩ | ⟨g, cap, cur, rfl, hbg, hg, hnc, _⟩
 ·omega
 rcases o'.2 with ⟨_, h0⟩ | ⟨g', cap', cur', rfl, hbg', hg', hnc', _⟩
 ·omega
 exact ⟨_, _, _, _, c0, c1, z0, z1, block_lt_of_cell c0, hl, ⟨hnc, hnc'⟩, h6, e1.rd, e2.rd, fun h => absurd h (by omega), fun q off e => by cases e; exact ⟨Nat.lt_of_lt_of_le hB hbg, rfl⟩, fun q off e => by cases e; exact ⟨Nat.lt_of_lt_of_le hB' hbg', rfl⟩, fun q off i e => by cases e; simp [World.frozen?, hg'], fun q off sub e => by cases e; exact ⟨_, _, hg⟩, fun q off sub e => by cases e; exact ⟨_, _, hg'⟩⟩
def Laid (ss : List ByteArray) (fs : List Int) (x : ByteArray) (xs : List Int) (ss' : List ByteArray) (fs' : List Int) : Prop :=
 (ss' = ss ∧ fs'.length = fs.length) ∨ (nameB x = true ∧ ∃ k, k ≤ ss.length ∧ ss' = ss.take k ++ x :: ss.drop k ∧ fs' = fs.take (7 * k) ++ xs ++ fs.drop (7 * k))
def LaidX (ss : List ByteArray) (fs : List Int) (x : ByteArray) (xs : List Int) (r : Bool) (ss' : List ByteArray) (fs' : List Int) : Prop :=
 (r = true ∧ ∃ k, k < ss.length ∧ ss.getD k ByteArray.empty = x ∧ ss' = ss ∧ fs'.length = fs.length ∧ fs' = fs.take (7 * k) ++ xs ++ fs.drop (7 * k + 7)) ∨
 ((∀ i, i < ss.length → ss.getD i ByteArray.empty ≠ x) ∧ ((r = false ∧ ss' = ss ∧ fs' = fs ∧ (nameB x = false ∨ ss.length = 6)) ∨
  (r = true ∧ nameB x = true ∧ ss.length < 6 ∧ ∃ k, k ≤ ss.length ∧ (∀ j, j < k → lessS (ss.getD j ByteArray.empty) x = true) ∧ (k < ss.length → lessS (ss.getD k ByteArray.empty) x = false) ∧ ss' = ss.take k ++ x :: ss.drop k ∧ fs' = fs.take (7 * k) ++ xs ++ fs.drop (7 * k))))
theorem LaidX.laid {ss : List ByteArray} {fs : List Int} {x : ByteArray} {xs : List Int} {r : Bool} {ss' : List ByteArray} {fs' : List Int} (h : LaidX ss fs x xs r ss' fs') : Laid ss fs x xs ss' fs' := by
 rcases h with ⟨_, k, _, _, h1, h2, _⟩ | ⟨_, ⟨_, h1, h2, _⟩ | ⟨_, hn, _, k, hk, _, _, h1, h2⟩⟩
 ·exact .inl ⟨h1, h2⟩
 ·exact .inl ⟨h1, by rw [h2]⟩
 ·exact .inr ⟨hn, k, hk, h1, h2⟩
def SetRet (b : Nat) (ss : List ByteArray) (fs : List Int) (x : ByteArray) (xs : List Int) (w : World) (e : Ending) (w' : World) : Prop :=
 ∃ (r : Bool) (ss' : List ByteArray) (fs' : List Int), e = .returned (.bool r) ∧ LaidX ss fs x xs r ss' fs' ∧ Lab w' b ss' fs' ∧ Below b w w'
def PlaceSt (ss : List ByteArray) (x : ByteArray) (i : Value) : Prop := ∃ k : Nat, k ≤ ss.length ∧ i = .int .i64 k ∧ Hid (∀ j, j < k → lessS (ss.getD j ByteArray.empty) x = true)
theorem len_take {ss : List ByteArray} {k : Nat} (hk : k ≤ ss.length) : (texts (ss.take k)).length = k * 1 := by simp [texts]; omega
theorem ones_texts (ss : List ByteArray) : ∀ u ∈ texts ss, u.oneCell' = true := fun u hu => by
 obtain ⟨s, _, rfl⟩ := List.mem_map.1 hu
 rfl
theorem room {n k : Nat} (hk : k ≤ n) (h6 : n ≤ 6) : 0 + k ≤ maxLen ∧ (0 + k) * 16 ≤ 140737488355328 := by simp only [maxLen]; omega
theorem behind_take {w1 W : World} {ss : List ByteArray} {g k : Nat} (hk : k ≤ ss.length) (hc : ∀ k, k < ss.length → w1.cell? ⟨g, k, none⟩ = some (.string (ss.getD k ByteArray.empty))) (hg : g < w1.heap.size) (hb : Below w1.heap.size w1 W) : Behind W (some ⟨g, 0, none⟩) (texts (ss.take k)) := by
 refine .inr ⟨_, rfl, fun j u hj => ?_⟩
 have hl : j < k := by
  have := (List.getElem?_eq_some_iff.1 hj).1
  simp [texts] at this
  omega
 rw [add_off, Nat.zero_add, hb.cell (p := ⟨g, j, none⟩) hg, hc j (by omega)]
 have : (texts (ss.take k))[j]? = some (.string (ss.getD j ByteArray.empty)) := by simp [texts, List.getD, hl, show j < ss.length by omega]
 rw [this] at hj
 exact hj
theorem own_at {w : World} {base : Nat} {e : TypeId} {size n g : Nat} {v : Value} {xs : List Value} (h : w.ownsRow base e size v n xs) (hg : v.ownBlock = some g) : base ≤ g := by
 obtain ⟨_, _, h, _⟩ := ownsRow_block h hg
 exact h
theorem own7 (W : World) {B ad : Nat} (hB : B ≤ W.heap.size) (had : W.heap.size = ad) : (W.alloc (.cells #[] 29)).ownsRow B 29 7 (.slice (some ⟨ad, 0, none⟩) 0 0) 0 [] := by
 subst had
 have := World.ownsRow_lit (e := 29) (size := 7) (base := B) W #[] 0 hB (by simp [maxLen]) (by simp)
 simpa using this
theorem len_take7 {fs : List Int} {n k : Nat} (hk : k ≤ n) (hl : fs.length = 7 * n) : (ints (fs.take (7 * k))).length = k * 7 := by rw [ints_len, List.length_take]; omega
theorem ones_ints (fs : List Int) : ∀ u ∈ ints fs, u.oneCell' = true := fun u hu => by
 obtain ⟨s, _, rfl⟩ := List.mem_map.1 hu
 rfl
theorem room7 {n k : Nat} (hk : k ≤ n) (h6 : n ≤ 6) : 0 + k ≤ maxLen ∧ (0 + k) * 56 ≤ 140737488355328 ∧ 0 + k + 1 ≤ maxLen ∧ (0 + k + 1) * 56 ≤ 140737488355328 := by simp only [maxLen]; omega
theorem behind_take7 {w1 W : World} {fs : List Int} {g n k : Nat} (hk : k ≤ n) (hl : fs.length = 7 * n) (hc : ∀ k, k < 7 * n → w1.cell? ⟨g, k, none⟩ = some (.int .i64 (fs.getD k 0))) (hg : g < w1.heap.size) (hb : Below w1.heap.size w1 W) : Behind W (some ⟨g, 0, none⟩) (ints (fs.take (7 * k))) := by
 refine .inr ⟨_, rfl, fun j u hj => ?_⟩
 have hl' : j < 7 * k := by
  have := (List.getElem?_eq_some_iff.1 hj).1
  rw [ints_len, List.length_take] at this
  omega
 rw [add_off, Nat.zero_add, hb.cell (p := ⟨g, j, none⟩) hg, hc j (by omega)]
 have : (ints (fs.take (7 * k)))[j]? = some (.int .i64 (fs.getD j 0)) := by simp [ints, List.getD, hl', show j < fs.length by omega]
 rw [this] at hj
 exact hj
theorem nx2 (w : World) (E X : Obj) : ((w.alloc E).alloc X).drew.heap[w.heap.size + 1]? = some X := by
 have h := heap_alloc_new (w.alloc E) X
 rw [World.size_alloc] at h
 exact h
theorem nx3 (w : World) (E X : Obj) : ((w.alloc X).alloc E).drew.heap[w.heap.size]? = some X := (Below.heap_alloc (w.alloc X) E _ (by simp)).trans (heap_alloc_new w X)
theorem behind_drop {w1 W : World} {ss : List ByteArray} {g k : Nat} (hk : k ≤ ss.length) (hc : ∀ k, k < ss.length → w1.cell? ⟨g, k, none⟩ = some (.string (ss.getD k ByteArray.empty))) (hg : g < w1.heap.size) (hb : Below w1.heap.size w1 W) : Behind W (some ⟨g, k, none⟩) (texts (ss.drop k)) := by
 refine .inr ⟨_, rfl, fun j u hj => ?_⟩
 have hl : k + j < ss.length := by
  have := (List.getElem?_eq_some_iff.1 hj).1
  simp [texts] at this
  omega
 rw [add_off, hb.cell (p := ⟨g, k + j, none⟩) hg, hc (k + j) hl]
 have : (texts (ss.drop k))[j]? = some (.string (ss.getD (k + j) ByteArray.empty)) := by simp [texts, List.getD, hl]
 rw [this] at hj
 exact hj
theorem behind_drop7 {w1 W : World} {fs : List Int} {g n k : Nat} (hk : k ≤ n) (hl : fs.length = 7 * n) (hc : ∀ k, k < 7 * n → w1.cell? ⟨g, k, none⟩ = some (.int .i64 (fs.getD k 0))) (hg : g < w1.heap.size) (hb : Below w1.heap.size w1 W) : Behind W (some ⟨g, k * 7, none⟩) (ints (fs.drop (7 * k))) := by
 refine .inr ⟨_, rfl, fun j u hj => ?_⟩
 have hl' : k * 7 + j < 7 * n := by
  have := (List.getElem?_eq_some_iff.1 hj).1
  rw [ints_len, List.length_drop] at this
  omega
 rw [add_off, hb.cell (p := ⟨g, k * 7 + j, none⟩) hg, hc _ hl']
 have : (ints (fs.drop (7 * k)))[j]? = some (.int .i64 (fs.getD (k * 7 + j) 0)) := by simp [ints, List.getD, show 7 * k + j = k * 7 + j by omega, show k * 7 + j < fs.length by omega]
 rw [this] at hj
 exact hj
theorem cell_set_same {W : World} {b q : Nat} {v : Value} (u : Value) (h : W.cell? ⟨b, q, none⟩ = some v) : (W.setCell ⟨b, q, none⟩ u).cell? ⟨b, q, none⟩ = some u := by
 go_simp
theorem cell_set_other {W : World} {b q r : Nat} {v : Value} (u : Value) (h : W.cell? ⟨b, r, none⟩ = some v) (hne : q ≠ r) : (W.setCell ⟨b, q, none⟩ u).cell? ⟨b, r, none⟩ = some v := by
 go_simp
theorem behind_set {W : World} {A : Option Addr} {g off b q : Nat} {u : Value} {news : List Value} (h : Behind W (some ⟨g, off, none⟩) news) (hne : g ≠ b) : Behind (W.setCell ⟨b, q, none⟩ u) (some ⟨g, off, none⟩) news := by
 rcases h with ⟨_, e⟩ | ⟨ad, e, h⟩
 ·cases e
 ·cases e
  refine .inr ⟨_, rfl, fun j v hj => ?_⟩
  rw [← h j v hj, add_off]
  exact World.cell?_of_block (Below.heap_setCell W ⟨b, q, none⟩ u g hne)
theorem behind_end {W : World} {ad : Addr} {news : List Value} (h : news = []) : Behind W (some ad) news := .inr ⟨_, rfl, fun j u hj => by rw [h] at hj; simp at hj⟩
theorem len_drop {ss : List ByteArray} {k n : Nat} (hn : ss.length = n) : (texts (ss.drop k)).length = (n - k) * 1 := by simp [texts, hn]
theorem len_drop7 {fs : List Int} {n k : Nat} (hl : fs.length = 7 * n) : (ints (fs.drop (7 * k))).length = (n - k) * 7 := by rw [ints_len, List.length_drop]; omega
theorem room_all {n k : Nat} (hk : k ≤ n) (h6 : n ≤ 6) : 0 + k + 1 + (n - k) ≤ maxLen ∧ (0 + k + 1 + (n - k)) * 16 ≤ 140737488355328 ∧ (0 + k + 1 + (n - k)) * 56 ≤ 140737488355328 := by simp only [maxLen]; omega
theorem set_fin {w w1 w3 w8 : World} {b k : Nat} {ss : List ByteArray} {fs xs : List Int} {x : ByteArray} {V7 V8 u : Value} (hk : k ≤ ss.length) (h6 : ss.length < 6) (hl : fs.length = 7 * ss.length) (hx : xs.length = 7)
  (o : w8.ownsRow w1.heap.size 9 1 V7 (0 + k + 1 + (ss.length - k)) ([] ++ texts (ss.take k) ++ [.string x] ++ texts (ss.drop k)))
  (o' : w8.ownsRow w3.heap.size 29 7 V8 (0 + k + 1 + (ss.length - k)) ([] ++ ints (fs.take (7 * k)) ++ ints xs ++ ints (fs.drop (7 * k)))) (hb1 : b < w1.heap.size) (hb3 : b < w3.heap.size)
  (c80 : w8.cell? ⟨b, 0, none⟩ = some V7) (c81 : w8.cell? ⟨b, 1, none⟩ = some u) (z80 : w8.frozen? ⟨b, 0, none⟩ = false) (z81 : w8.frozen? ⟨b, 1, none⟩ = false) (hB : Below b w w8) :
  Lab (w8.setCell ⟨b, 1, none⟩ V8) b (ss.take k ++ x :: ss.drop k) (fs.take (7 * k) ++ xs ++ fs.drop (7 * k)) ∧ Below b w (w8.setCell ⟨b, 1, none⟩ V8) := by
 have e1 : [] ++ texts (ss.take k) ++ [.string x] ++ texts (ss.drop k) = texts (ss.take k ++ x :: ss.drop k) := by simp [texts]
 have e2 : [] ++ ints (fs.take (7 * k)) ++ ints xs ++ ints (fs.drop (7 * k)) = ints (fs.take (7 * k) ++ xs ++ fs.drop (7 * k)) := by simp [ints]
 rw [e1] at o
 rw [e2] at o'
 exact ⟨lab_of (ownsRow_setCell_below o hb1 _) (ownsRow_setCell_below o' hb3 _) (by simp; omega) (by omega) (by omega) hb1 hb3 (cell_set_other _ c80 (by decide)) (cell_set_same _ c81) ((World.frozen?_setCell _ _ _ _).trans z80) ((World.frozen?_setCell _ _ _ _).trans z81), hB.setCell (Nat.le_refl _) _⟩
def CutS (w3 : World) (k : Nat) (fs xs : List Int) (v : Value) (wx : World) : Prop := wx.ownsRow w3.heap.size 29 7 v (0 + k + 1) ([] ++ ints (fs.take (7 * k)) ++ ints xs) ∧ Below w3.heap.size w3 wx
def putL (g : Nat) : Nat → List Int → World → World
 | _, [], w => w
 | o, x :: xs, w => putL g (o + 1) xs (w.setCell ⟨g, o, none⟩ (.int .i64 x))
theorem putL_cell (g : Nat) : ∀ (xs : List Int) (o : Nat) (w : World), (∀ j, j < xs.length → ∃ v, w.cell? ⟨g, o + j, none⟩ = some v) → ∀ i v, w.cell? ⟨g, i, none⟩ = some v →
  (putL g o xs w).cell? ⟨g, i, none⟩ = some (if o ≤ i ∧ i < o + xs.length then .int .i64 (xs.getD (i - o) 0) else v)
 | [], o, w, _, i, v, h => by
  rw [if_neg (by simp)]; exact h
 | x :: xs, o, w, hc, i, v, h => by
  have h0 := hc 0 (by simp)
  obtain ⟨v0, h0⟩ := h0
  have hc2 : ∀ j, j < xs.length → ∃ v, (w.setCell ⟨g, o, none⟩ (.int .i64 x)).cell? ⟨g, o + 1 + j, none⟩ = some v := fun j hj => by
   obtain ⟨u, hu⟩ := hc (j + 1) (by simp; omega)
   rw [show o + (j + 1) = o + 1 + j by omega] at hu
   exact ⟨u, cell_set_other _ hu (by omega)⟩
  rw [putL]
  by_cases e : i = o
  ·subst e
   rw [putL_cell g xs (i + 1) _ hc2 i _ (cell_set_same _ h), if_neg (by omega), if_pos ⟨Nat.le_refl _, by simp⟩, Nat.sub_self]; rfl
  ·rw [putL_cell g xs (o + 1) _ hc2 i v (cell_set_other _ h (fun h2 => e h2.symm))]
   by_cases h3 : o ≤ i ∧ i < o + (x :: xs).length
   ·rw [if_pos h3, if_pos ⟨by omega, by have := h3.2; simp at this; omega⟩, show i - o = (i - (o + 1)) + 1 by omega]; rfl
   ·rw [if_neg h3, if_neg (fun h4 => h3 ⟨by omega, by simp; omega⟩)]
theorem putL_grown (g : Nat) : ∀ (xs : List Int) (o : Nat) (w : World), w.grownBy (putL g o xs w) (some g)
 | [], _, w => ⟨rfl, rfl, rfl, Nat.le_refl _, fun _ _ _ => rfl⟩
 | x :: xs, o, w => grown_trans (Src.grown_setCell w ⟨g, o, none⟩ _) (putL_grown g xs (o + 1) _)
theorem putL_size (g : Nat) : ∀ (xs : List Int) (o : Nat) (w : World), (putL g o xs w).heap.size = w.heap.size
 | [], _, _ => rfl
 | x :: xs, o, w => by rw [putL, putL_size g xs]; simp
theorem putL_frozen (g : Nat) (p : Addr) : ∀ (xs : List Int) (o : Nat) (w : World), (putL g o xs w).frozen? p = w.frozen? p
 | [], _, _ => rfl
 | x :: xs, o, w => by rw [putL, putL_frozen g p xs]; exact World.frozen?_setCell _ _ _ _
theorem putL_ty {g : Nat} {t : TypeId} : ∀ {w : World}, (∃ cs fr, w.heap[g]? = some (.cells cs t fr)) → ∀ (q o : Nat) (xs : List Int), ∃ cs fr, (putL q o xs w).heap[g]? = some (.cells cs t fr) := fun {w} h q o xs => by
 induction xs generalizing o w with
 | nil => exact h
 | cons x r ih => exact ih (ty_set h ⟨q, o, none⟩ (.int .i64 x)) (o + 1)
theorem lab_put {w : World} {b k g' : Nat} {ss : List ByteArray} {fs xs : List Int} {A : Option Addr} {c c' : Nat} (h : LabAt w b ss fs A (some ⟨g', 0, none⟩) c c') (hk : k < ss.length) (hx : xs.length = 7) :
  LabAt (putL g' (k * 7) xs w) b ss (fs.take (7 * k) ++ xs ++ fs.drop (7 * k + 7)) A (some ⟨g', 0, none⟩) c c' := by
 have hbg := (h.abv' _ _ rfl).1
 have hg := putL_grown g' xs (k * 7) w
 have hl := h.len
 obtain ⟨q, o, e, hq, hcs⟩ := h.rs (by omega)
 injection e with e
 injection e with e1 e2 _
 subst e1 e2
 have hne : some g' ≠ some b := fun e => by injection e with e; omega
 have hcell : ∀ i, (putL g' (k * 7) xs w).cell? ⟨b, i, none⟩ = w.cell? ⟨b, i, none⟩ := fun i => World.cell?_of_block (a := ⟨b, i, none⟩) (hg.block b h.lt (fun e => hne e.symm))
 refine ⟨(hcell 0).trans h.c0, (hcell 1).trans h.c1, (putL_frozen _ _ _ _ _).trans h.z0, (putL_frozen _ _ _ _ _).trans h.z1, by rw [putL_size]; exact h.lt, ?_, h.cap, h.six, ?_, ?_, fun h0 => absurd h0 (by omega), h.abv, h.abv', fun g off i e => (putL_frozen _ _ _ _ _).trans (h.fz' g off i e), fun g off sub e => putL_ty (h.ty g off sub e) _ _ _ , fun g off sub e => putL_ty (h.ty' g off sub e) _ _ _⟩
 ·rw [List.length_append, List.length_append, List.length_take, List.length_drop, hx]; omega
 ·intro h0
  obtain ⟨qn, on, rfl, hqn, hcn⟩ := h.rd h0
  obtain ⟨_, rfl⟩ := h.abv _ _ rfl
  have hd : qn ≠ g' := fun e => by
   subst e
   have a1 := hcn 0 h0
   have a2 := hcs 0 (by omega)
   rw [a1] at a2
   cases a2
  exact ⟨qn, 0, rfl, by rw [putL_size]; exact hqn, fun i hi => (World.cell?_of_block (a := ⟨qn, 0 + i, none⟩) (hg.block qn hqn (fun e => hd (by injection e)))).trans (hcn i hi)⟩
 ·intro h0
  refine ⟨g', 0, rfl, by rw [putL_size]; exact hq, fun i hi => ?_⟩
  have ht : (fs.take (7 * k)).length = 7 * k := by rw [List.length_take]; omega
  rw [Nat.zero_add, putL_cell g' xs (k * 7) w (fun j hj => ⟨_, by have := hcs (k * 7 + j) (by omega); rwa [Nat.zero_add] at this⟩) i _ (by have := hcs i hi; rwa [Nat.zero_add] at this)]
  congr 1
  by_cases h3 : k * 7 ≤ i ∧ i < k * 7 + xs.length
  ·rw [if_pos h3, List.append_assoc, List.getD_eq_getElem?_getD (l := _ ++ _), List.getElem?_append_right (by rw [ht]; omega), ht, List.getElem?_append_left (by omega), ← List.getD_eq_getElem?_getD, Nat.mul_comm k 7]
  ·rw [if_neg h3]
   by_cases h4 : i < 7 * k
   ·rw [List.append_assoc, List.getD_eq_getElem?_getD (l := _ ++ _), List.getElem?_append_left (by rw [ht]; exact h4), List.getElem?_take_of_lt h4, ← List.getD_eq_getElem?_getD]
   ·rw [List.getD_eq_getElem?_getD (l := _ ++ _), List.getElem?_append_right (by rw [List.length_append, ht]; omega), List.length_append, ht, List.getElem?_drop, ← List.getD_eq_getElem?_getD]
    congr 2
    omega
theorem set_empty (b : Nat) (x : ByteArray) (K V T m f a s : Int) (w : World) (h : LabAt w b [] [] none none 0 0) (hx : x.size ≤ 1000) :
  Calls Tryz.prog 111 #[.pointer (some ⟨b, 0, none⟩), .string x, .agg #[.int .i64 K, .int .i64 V, .int .i64 T, .int .i64 m, .int .i64 f, .int .i64 a, .int .i64 s]] w (SetRet b [] [] x [K, V, T, m, f, a, s] w) := by
 obtain ⟨ix, hix, xz0, xz1, xz2⟩ := info_parts infoT
 obtain ⟨i7, ki, kz0, kz1, kz2⟩ := info_parts infoSt7
 have h0 : w.cell? ⟨b, 0, none⟩ = some (.slice none 0 0) := h.c0
 have h1 : w.cell? ⟨b, 1, none⟩ = some (.slice none 0 0) := h.c1
 have z0 := h.z0
 have z1 := h.z1
 have hlt := h.lt
 have hsix : ([] : List ByteArray).length ≤ 6 := by decide
 obtain ⟨w1, hw1⟩ : ∃ w1, w1 = w.alloc (.cells #[.int .i64 K, .int .i64 V, .int .i64 T, .int .i64 m, .int .i64 f, .int .i64 a, .int .i64 s] 29) := ⟨_, rfl⟩
 have b1 : Below w.heap.size w w1 := by rw [hw1]; exact (Below.refl _ _).alloc (Nat.le_refl _) _
 have h01 : w1.cell? ⟨b, 0, none⟩ = some (.slice none 0 0) := (b1.cell (p := ⟨b, 0, none⟩) hlt).trans h0
 have HF := J (find_any b 0 w.heap.size none [] x w1 h01 (fun h0 => absurd h0 (by decide)) (by decide))
 have HL := J (show Lab w1 b [] [] from ⟨_, _, _, _, h.below b1⟩)
 have HB1 := J (b1.mono (Nat.le_of_lt hlt))
 have HN := J (fun w => specName_any x (by omega) w)
 have h0' : w1.cell? ⟨b, 0, none⟩ = some (.slice none 0 0) := (b1.cell (p := ⟨b, 0, none⟩) hlt).trans h0
 have h1' : w1.cell? ⟨b, 1, none⟩ = some (.slice none 0 0) := (b1.cell (p := ⟨b, 1, none⟩) hlt).trans h1
 have z0' : w1.frozen? ⟨b, 0, none⟩ = false := (b1.frozen (p := ⟨b, 0, none⟩) hlt).trans z0
 have z1' : w1.frozen? ⟨b, 1, none⟩ = false := (b1.frozen (p := ⟨b, 1, none⟩) hlt).trans z1
 have hW1z : w1.heap.size = w.heap.size + 1 := by rw [hw1]; simp
 have hb1 : b < w1.heap.size := by omega
 have HW1 := J hw1
 have H0 := J h0'
 have H1 := J h1'
 have Z0 := J z0'
 have Z1 := J z1'
 have HLen := J (show ([] : List Int).length = 7 * ([] : List ByteArray).length from rfl)
 have XBox : Hid (Take.SBox w1 w.heap.size K V T m f a s) := J (by rw [hw1]; exact Take.SBox.new _ _ _ _ _ _ _ _)
 have hx1 : w.heap.size < w1.heap.size := by omega
 have HWZ := J hW1z
 have hk : 0 ≤ ([] : List ByteArray).length := Nat.le_refl _
 have h6' : ([] : List ByteArray).length < 6 := by decide
 clear h h01 b1 hw1 h0 h1 z0 z1 hW1z
 go_enter Tryz.func111, Tryz.ntmps111
 go_wp2_with fail
 rw [← HW1.out]
 refine HF.out.mono ?_
 rintro e w2 ⟨r, rfl, hr, rfl⟩
 rcases hr with ⟨rfl, hno⟩ | ⟨k, hk, rfl, hkx⟩
 ·clear hno
  go_wp2_with fail
  refine (HN.out _).mono ?_
  rintro e w3 ⟨rfl, rfl⟩
  cases hnb : nameB x
  ·go_wp2
   go_ret
   exact ⟨false, [], [], rfl, .inr ⟨fun i hi => absurd hi (Nat.not_lt_zero i), .inl ⟨rfl, rfl, rfl, .inl hnb⟩⟩, HL.out, HB1.out⟩
  ·go_wp2_with fail
   refine wp_loop_rounds 1 ?_
   rw [rounds_succ]
   have O1 := J (World.ownsRow_lit (e := 9) (size := 1) (base := w1.heap.size) w1 #[] 0 (Nat.le_refl _) (by simp [maxLen]) (by simp))
   have B1 := J ((Below.refl w1.heap.size w1).alloc (Nat.le_refl _) (.cells #[] 9))
   go_wp2_with (first
    | (at_builtin; refine wpList_append_gen rfl (.tmp 54) (.tmp 60) 50 9 rfl w1.heap.size ix (.string ByteArray.empty) 1 16 Tryz.underlying50 hix xz0 xz1 xz2 rfl (by decide) _ 0 [] rfl O1.out none 0 _ (texts (([] : List ByteArray).take 0)) rfl (len_take hk) (.inl ⟨rfl, rfl⟩) (ones_texts _) (room hk hsix).1 (room hk hsix).2 (by simp only [World.size_alloc]; omega) ?_; intro v2 w2 o2 gr2; have b2 := B1.out.grown gr2 (by simp only [World.size_alloc]; omega) (fun q e => by cases e; exact Nat.le_refl _); have s2 : w1.heap.size < w2.heap.size := Nat.lt_of_lt_of_le (by simp only [World.size_alloc]; omega) gr2.size; have B2 := J b2; have O2 := J (ownsRow_below o2 ((Below.refl _ _).alloc (Nat.le_refl _) (.cells #[.string x] 9))); have B2' := J (b2.alloc (Nat.le_of_lt s2) (.cells #[.string x] 9)); have c20 := (b2.cell (p := ⟨b, 0, none⟩) hb1).trans H0.out; have c21 := (b2.cell (p := ⟨b, 1, none⟩) hb1).trans H1.out; clear o2 gr2 b2 h0' h1' z0' z1')
    | (at_builtin; refine wpList_append_own_at _ rfl (.tmp 61) (.tmp 63) 50 rfl w1.heap.size 9 ix (.string ByteArray.empty) 1 16 Tryz.underlying50 hix xz0 xz1 xz2 rfl (by decide) _ _ _ rfl O2.out ⟨w2.heap.size, 0, none⟩ 1 1 [.string x] rfl rfl (news_one _ _ _ (by simp)) (fun u hu => by simp at hu; subst hu; rfl) (by simp only [maxLen]; omega) (by omega) (by simp only [World.size_alloc]; omega) ?_; intro v3 w3 o3 gr3 _ _; have b3 := B2'.out.grown gr3 (by simp only [World.size_alloc]; omega) (fun q e => own_at O2.out e); have s3 : w1.heap.size ≤ w3.heap.size := b3.size; have B3 := J b3; have O3 := J o3; have c30 := (b3.cell (p := ⟨b, 0, none⟩) hb1).trans H0.out; have c31 := (b3.cell (p := ⟨b, 1, none⟩) hb1).trans H1.out; clear o3 gr3 b3 c20 c21))
   have HB13 := J (fun W (h : Below w3.heap.size w3 W) => B3.out.trans (h.mono s3))
   have hxx : w.heap.size < w3.heap.size := by omega
   have ux := XBox.out.below B3.out hx1
   have x0 := (ux).c0; have x1 := (ux).c1; have x2 := (ux).c2; have x3 := (ux).c3; have x4 := (ux).c4; have x5 := (ux).c5; have x6 := (ux).c6
   have hb3 : b < w3.heap.size := by omega
   have UX3 := J ux
   clear ux
   go_cut [10] from 65 to 75 (fun s10 wx => CutS w3 0 ([] : List Int) [K, V, T, m, f, a, s] s10 wx)
   case first =>
    go_region_law (first
     | (refine step_append_gen rfl (.tmp 65) (.tmp 71) 51 29 rfl w3.heap.size i7 _ 7 56 Tryz.underlying51 ki kz0 kz1 kz2 rfl (by decide) (.slice (some ⟨w3.heap.size, 0, none⟩) 0 0) 0 [] rfl ((own7 w3 (Nat.le_refl _) rfl).drew) none 0 _ (ints (([] : List Int).take (7 * 0))) rfl (len_take7 hk HLen.out) (.inl ⟨rfl, rfl⟩) (ones_ints _) (room7 hk hsix).1 (room7 hk hsix).2.1 (((Below.refl w3.heap.size w3).alloc (Nat.le_refl _) (.cells #[] 29)).drew).size ?_; intro v5 w5 o5 gr5; have b5 := (((Below.refl w3.heap.size w3).alloc (Nat.le_refl _) (.cells #[] 29)).drew).grown gr5 (((Below.refl w3.heap.size w3).alloc (Nat.le_refl _) (.cells #[] 29)).drew).size (fun q e => own_at ((own7 w3 (Nat.le_refl _) rfl).drew) e); skip; have B5 := J b5; have O5 := J o5; have hs5 := b5.size; have y0 := (UX3.out.below b5 hxx).c0; have y1 := (UX3.out.below b5 hxx).c1; have y2 := (UX3.out.below b5 hxx).c2; have y3 := (UX3.out.below b5 hxx).c3; have y4 := (UX3.out.below b5 hxx).c4; have y5 := (UX3.out.below b5 hxx).c5; have y6 := (UX3.out.below b5 hxx).c6; clear b5 o5 gr5)
     | (refine step_append_gen rfl (.tmp 65) (.tmp 71) 51 29 rfl w3.heap.size i7 _ 7 56 Tryz.underlying51 ki kz0 kz1 kz2 rfl (by decide) (.slice (some ⟨w3.heap.size, 0, none⟩) 0 0) 0 [] rfl ((ownsRow_below (own7 w3 (Nat.le_refl _) rfl) ((Below.refl _ _).alloc (Nat.le_refl _) (.cells #[.int .i64 K, .int .i64 V, .int .i64 T, .int .i64 m, .int .i64 f, .int .i64 a, .int .i64 s] 29))).drew) none 0 _ (ints (([] : List Int).take (7 * 0))) rfl (len_take7 hk HLen.out) (.inl ⟨rfl, rfl⟩) (ones_ints _) (room7 hk hsix).1 (room7 hk hsix).2.1 ((((Below.refl w3.heap.size w3).alloc (Nat.le_refl _) (.cells #[] 29)).alloc (by simp) (.cells #[.int .i64 K, .int .i64 V, .int .i64 T, .int .i64 m, .int .i64 f, .int .i64 a, .int .i64 s] 29)).drew).size ?_; intro v5 w5 o5 gr5; have b5 := ((((Below.refl w3.heap.size w3).alloc (Nat.le_refl _) (.cells #[] 29)).alloc (by simp) (.cells #[.int .i64 K, .int .i64 V, .int .i64 T, .int .i64 m, .int .i64 f, .int .i64 a, .int .i64 s] 29)).drew).grown gr5 ((((Below.refl w3.heap.size w3).alloc (Nat.le_refl _) (.cells #[] 29)).alloc (by simp) (.cells #[.int .i64 K, .int .i64 V, .int .i64 T, .int .i64 m, .int .i64 f, .int .i64 a, .int .i64 s] 29)).drew).size (fun q e => own_at ((ownsRow_below (own7 w3 (Nat.le_refl _) rfl) ((Below.refl _ _).alloc (Nat.le_refl _) (.cells #[.int .i64 K, .int .i64 V, .int .i64 T, .int .i64 m, .int .i64 f, .int .i64 a, .int .i64 s] 29))).drew) e); have NX5 := J ((gr5.block (w3.heap.size + 1) (by simp) (by simp [Value.ownBlock])).trans (nx2 w3 _ _)); have B5 := J b5; have O5 := J o5; have hs5 := b5.size; have y0 := (UX3.out.below b5 hxx).c0; have y1 := (UX3.out.below b5 hxx).c1; have y2 := (UX3.out.below b5 hxx).c2; have y3 := (UX3.out.below b5 hxx).c3; have y4 := (UX3.out.below b5 hxx).c4; have y5 := (UX3.out.below b5 hxx).c5; have y6 := (UX3.out.below b5 hxx).c6; clear b5 o5 gr5)
     | (refine step_append_gen rfl (.tmp 65) (.tmp 71) 51 29 rfl w3.heap.size i7 _ 7 56 Tryz.underlying51 ki kz0 kz1 kz2 rfl (by decide) (.slice (some ⟨w3.heap.size + 1, 0, none⟩) 0 0) 0 [] rfl ((own7 (w3.alloc (.cells #[.int .i64 K, .int .i64 V, .int .i64 T, .int .i64 m, .int .i64 f, .int .i64 a, .int .i64 s] 29)) (B := w3.heap.size) (by simp) (World.size_alloc _ _)).drew) none 0 _ (ints (([] : List Int).take (7 * 0))) rfl (len_take7 hk HLen.out) (.inl ⟨rfl, rfl⟩) (ones_ints _) (room7 hk hsix).1 (room7 hk hsix).2.1 ((((Below.refl w3.heap.size w3).alloc (Nat.le_refl _) (.cells #[.int .i64 K, .int .i64 V, .int .i64 T, .int .i64 m, .int .i64 f, .int .i64 a, .int .i64 s] 29)).alloc (by simp) (.cells #[] 29)).drew).size ?_; intro v5 w5 o5 gr5; have b5 := ((((Below.refl w3.heap.size w3).alloc (Nat.le_refl _) (.cells #[.int .i64 K, .int .i64 V, .int .i64 T, .int .i64 m, .int .i64 f, .int .i64 a, .int .i64 s] 29)).alloc (by simp) (.cells #[] 29)).drew).grown gr5 ((((Below.refl w3.heap.size w3).alloc (Nat.le_refl _) (.cells #[.int .i64 K, .int .i64 V, .int .i64 T, .int .i64 m, .int .i64 f, .int .i64 a, .int .i64 s] 29)).alloc (by simp) (.cells #[] 29)).drew).size (fun q e => own_at ((own7 (w3.alloc (.cells #[.int .i64 K, .int .i64 V, .int .i64 T, .int .i64 m, .int .i64 f, .int .i64 a, .int .i64 s] 29)) (B := w3.heap.size) (by simp) (World.size_alloc _ _)).drew) e); have NX5 := J ((gr5.block w3.heap.size (by simp; omega) (by simp [Value.ownBlock])).trans (nx3 w3 _ _)); have B5 := J b5; have O5 := J o5; have hs5 := b5.size; have y0 := (UX3.out.below b5 hxx).c0; have y1 := (UX3.out.below b5 hxx).c1; have y2 := (UX3.out.below b5 hxx).c2; have y3 := (UX3.out.below b5 hxx).c3; have y4 := (UX3.out.below b5 hxx).c4; have y5 := (UX3.out.below b5 hxx).c5; have y6 := (UX3.out.below b5 hxx).c6; clear b5 o5 gr5)
     | (refine step_append_gen rfl (.tmp 72) (.tmp 74) 51 29 rfl w3.heap.size i7 _ 7 56 Tryz.underlying51 ki kz0 kz1 kz2 rfl (by decide) v5 (0 + 0) _ rfl (O5.out) (some ⟨w3.heap.size, 0, none⟩) 1 1 (ints [K, V, T, m, f, a, s]) rfl rfl (.inr ⟨_, rfl, World.news_of_block (cs := #[.int .i64 K, .int .i64 V, .int .i64 T, .int .i64 m, .int .i64 f, .int .i64 a, .int .i64 s]) (t := 29) (fr := (0, 0)) NX5.out⟩) (ones_ints _) (room7 hk hsix).2.2.1 (room7 hk hsix).2.2.2 (B5.out).size ?_; intro v6 w6 o6 gr6; have b6 := (B5.out).grown gr6 (B5.out).size (fun q e => own_at (O5.out) e); have B6 := J b6; have O6 := J o6; have hs6 := b6.size; clear b6 o6 gr6)
     | (refine step_append_gen rfl (.tmp 72) (.tmp 74) 51 29 rfl w3.heap.size i7 _ 7 56 Tryz.underlying51 ki kz0 kz1 kz2 rfl (by decide) v5 (0 + 0) _ rfl (ownsRow_below O5.out ((Below.refl _ _).alloc (Nat.le_refl _) (.cells #[.int .i64 K, .int .i64 V, .int .i64 T, .int .i64 m, .int .i64 f, .int .i64 a, .int .i64 s] 29))) (some ⟨w5.heap.size, 0, none⟩) 1 1 (ints [K, V, T, m, f, a, s]) rfl rfl (.inr ⟨_, rfl, World.news_of_block (cs := #[.int .i64 K, .int .i64 V, .int .i64 T, .int .i64 m, .int .i64 f, .int .i64 a, .int .i64 s]) (t := 29) (fr := (0, 0)) (heap_alloc_new w5 _)⟩) (ones_ints _) (room7 hk hsix).2.2.1 (room7 hk hsix).2.2.2 (B5.out.alloc hs5 (.cells #[.int .i64 K, .int .i64 V, .int .i64 T, .int .i64 m, .int .i64 f, .int .i64 a, .int .i64 s] 29)).size ?_; intro v6 w6 o6 gr6; have b6 := (B5.out.alloc hs5 (.cells #[.int .i64 K, .int .i64 V, .int .i64 T, .int .i64 m, .int .i64 f, .int .i64 a, .int .i64 s] 29)).grown gr6 (B5.out.alloc hs5 (.cells #[.int .i64 K, .int .i64 V, .int .i64 T, .int .i64 m, .int .i64 f, .int .i64 a, .int .i64 s] 29)).size (fun q e => own_at (ownsRow_below O5.out ((Below.refl _ _).alloc (Nat.le_refl _) (.cells #[.int .i64 K, .int .i64 V, .int .i64 T, .int .i64 m, .int .i64 f, .int .i64 a, .int .i64 s] 29))) e); have B6 := J b6; have O6 := J o6; have hs6 := b6.size; clear b6 o6 gr6)
     | (refine step_append_gen rfl (.tmp 72) (.tmp 74) 51 29 rfl w3.heap.size i7 _ 7 56 Tryz.underlying51 ki kz0 kz1 kz2 rfl (by decide) v5 (0 + 0) _ rfl (O5.out) (some ⟨w3.heap.size + 1, 0, none⟩) 1 1 (ints [K, V, T, m, f, a, s]) rfl rfl (.inr ⟨_, rfl, World.news_of_block (cs := #[.int .i64 K, .int .i64 V, .int .i64 T, .int .i64 m, .int .i64 f, .int .i64 a, .int .i64 s]) (t := 29) (fr := (0, 0)) NX5.out⟩) (ones_ints _) (room7 hk hsix).2.2.1 (room7 hk hsix).2.2.2 (B5.out).size ?_; intro v6 w6 o6 gr6; have b6 := (B5.out).grown gr6 (B5.out).size (fun q e => own_at (O5.out) e); have B6 := J b6; have O6 := J o6; have hs6 := b6.size; clear b6 o6 gr6))
    all_goals
     have HC : Hid (CutS w3 0 ([] : List Int) [K, V, T, m, f, a, s] v6 w6) := J ⟨O6.out, B6.out⟩
     go_wp2_with fail
     go_meet
     exact HC.out
   case rest =>
    obtain ⟨o6, b6⟩ := hcut
    have B6 := J b6
    have O6 := J o6
    have O36 := J (ownsRow_below O3.out b6)
    have hs6 := b6.size
    have c60 := (b6.cell (p := ⟨b, 0, none⟩) hb3).trans c30
    have c61 := (b6.cell (p := ⟨b, 1, none⟩) hb3).trans c31
    have z60 : wc.frozen? ⟨b, 0, none⟩ = false := (b6.frozen (p := ⟨b, 0, none⟩) hb3).trans ((B3.out.frozen (p := ⟨b, 0, none⟩) hb1).trans Z0.out)
    have z61 : wc.frozen? ⟨b, 1, none⟩ = false := (b6.frozen (p := ⟨b, 1, none⟩) hb3).trans ((B3.out.frozen (p := ⟨b, 1, none⟩) hb1).trans Z1.out)
    clear o6 b6 c30 c31
    go_wp2_with (first
     | (at_builtin; refine wpList_append_gen rfl (.tmp 77) (.tmp 83) 50 9 rfl w1.heap.size ix (.string ByteArray.empty) 1 16 Tryz.underlying50 hix xz0 xz1 xz2 rfl (by decide) v3 (0 + 0 + 1) _ rfl O36.out none (([] : List ByteArray).length - 0) _ (texts (([] : List ByteArray).drop 0)) rfl (len_drop rfl) (.inl ⟨rfl, rfl⟩) (ones_texts _) (room_all hk hsix).1 (room_all hk hsix).2.1 (Nat.le_trans s3 hs6) ?_; intro v7 w7 o7 gr7; have o67 := World.ownsRow.kept O6.out gr7 (own_ne O6.out O36.out (by decide)); have b7 := (HB13.out _ B6.out).grown gr7 (Nat.le_trans s3 hs6) (fun q e => own_at O36.out e); obtain ⟨A7, c7, rfl, _⟩ := Mem.ownsRow_form o7; have c70 := (b7.cell (p := ⟨b, 0, none⟩) hb1).trans H0.out; have c71 := (b7.cell (p := ⟨b, 1, none⟩) hb1).trans H1.out; have z70 := (b7.frozen (p := ⟨b, 0, none⟩) hb1).trans Z0.out; have z71 := (b7.frozen (p := ⟨b, 1, none⟩) hb1).trans Z1.out; have B7 := J b7; have O7 := J o7; have O67 := J o67; have hs7 : w3.heap.size ≤ w7.heap.size := Nat.le_trans hs6 gr7.size; clear o7 o67 gr7 b7 c60 c61 z60 z61)
     | (at_builtin; refine wpList_append_gen rfl (.tmp 88) (.tmp 94) 51 29 rfl w3.heap.size i7 _ 7 56 Tryz.underlying51 ki kz0 kz1 kz2 rfl (by decide) _ (0 + 0 + 1) _ rfl (ownsRow_setCell_below O67.out hb3 _) none (([] : List ByteArray).length - 0) _ (ints (([] : List Int).drop (7 * 0))) rfl (len_drop7 HLen.out) (.inl ⟨rfl, rfl⟩) (ones_ints _) (room_all hk hsix).1 (room_all hk hsix).2.2 (Nat.le_trans hs7 (by simp)) ?_; intro v8 w8 o8 gr8; have b8 := (Below.refl w3.heap.size _).grown gr8 (Nat.le_trans hs7 (by simp)) (fun q e => own_at O67.out e); have o78 := World.ownsRow.kept (ownsRow_setCell_below O7.out hb1 _) gr8 (own_ne O7.out O67.out (by decide)); obtain ⟨A8, c8, rfl, _⟩ := Mem.ownsRow_form o8; have c80 := (b8.cell (p := ⟨b, 0, none⟩) hb3).trans (cell_set_same _ c70); have c81 := (b8.cell (p := ⟨b, 1, none⟩) hb3).trans (cell_set_other _ c71 (by decide)); have z80 := (b8.frozen (p := ⟨b, 0, none⟩) hb3).trans ((World.frozen?_setCell _ _ _ _).trans z70); have z81 := (b8.frozen (p := ⟨b, 1, none⟩) hb3).trans ((World.frozen?_setCell _ _ _ _).trans z71); have B8 := J b8; have O8 := J o8; have O78 := J o78; clear o8 o78 gr8 b8 c70 c71 z70 z71))
    have HFin := J (set_fin hk h6' HLen.out (xs := [K, V, T, m, f, a, s]) rfl O78.out O8.out hb1 hb3 (by rw [Nat.zero_add]; exact c80) c81 z80 z81 (((HB1.out.trans (B7.out.mono (Nat.le_of_lt hb1))).setCell (Nat.le_refl _) _).trans (B8.out.mono (Nat.le_of_lt hb3))))
    have hfin := HFin.out
    rw [Nat.zero_add] at hfin
    have HR : Hid (SetRet b ([] : List ByteArray) ([] : List Int) x [K, V, T, m, f, a, s] w (.returned (.bool true)) (w8.setCell ⟨b, 1, none⟩ (.slice A8 (0 + 1 + (([] : List ByteArray).length - 0)) c8))) := J ⟨true, _, _, rfl, .inr ⟨fun i hi => absurd hi (Nat.not_lt_zero i), .inr ⟨rfl, hnb, h6', 0, hk, fun j hj => absurd hj (Nat.not_lt_zero j), fun h => absurd h (Nat.not_lt_zero 0), rfl, rfl⟩⟩, hfin.1, hfin.2⟩
    refine bodyPost_ret (v := .bool true) (by simp [results, Tryz.results111, go_sem]) rfl ?_
    exact HR.out
 ·exact absurd hk (Nat.not_lt_zero k)
theorem set_any (b : Nat) (ss : List ByteArray) (fs : List Int) (x : ByteArray) (K V T m f a s : Int) (w : World) (h : Lab w b ss fs) (hx : x.size ≤ 1000) :
  Calls Tryz.prog 111 #[.pointer (some ⟨b, 0, none⟩), .string x, .agg #[.int .i64 K, .int .i64 V, .int .i64 T, .int .i64 m, .int .i64 f, .int .i64 a, .int .i64 s]] w (SetRet b ss fs x [K, V, T, m, f, a, s] w) := by
 obtain ⟨A, A', c, c', h⟩ := h
 obtain ⟨ix, hix, xz0, xz1, xz2⟩ := info_parts infoT
 obtain ⟨i7, ki, kz0, kz1, kz2⟩ := info_parts infoSt7
 by_cases hn : ss.length = 0
 ·obtain rfl := List.eq_nil_of_length_eq_zero hn
  have hlf := h.len
  obtain rfl : fs = [] := List.eq_nil_of_length_eq_zero (by rw [hlf]; rfl)
  obtain ⟨rfl, rfl, rfl, rfl⟩ := h.emp rfl
  exact set_empty b x K V T m f a s w h hx
 obtain ⟨g, off, rfl, hg, hc⟩ := h.rd (by omega)
 obtain ⟨g', off', rfl, hg', hc'⟩ := h.rs (by omega)
 obtain ⟨hbg, rfl⟩ := h.abv _ _ rfl
 obtain ⟨hbg', rfl⟩ := h.abv' _ _ rfl
 have H := J h
 have h0 := h.c0
 have h1 := h.c1
 have z0 := h.z0
 have z1 := h.z1
 have hlt := h.lt
 have hcap := h.cap
 have hsix := h.six
 obtain ⟨w1, hw1⟩ : ∃ w1, w1 = w.alloc (.cells #[.int .i64 K, .int .i64 V, .int .i64 T, .int .i64 m, .int .i64 f, .int .i64 a, .int .i64 s] 29) := ⟨_, rfl⟩
 have b1 : Below w.heap.size w w1 := by rw [hw1]; exact (Below.refl _ _).alloc (Nat.le_refl _) _
 have h01 : w1.cell? ⟨b, 0, none⟩ = _ := (b1.cell (p := ⟨b, 0, none⟩) hlt).trans h0
 have HF := J (find_any b c w.heap.size _ ss x w1 h01 (h.rd.below b1 (Nat.le_refl _)) (by omega))
 have HL := J (show Lab w1 b ss fs from ⟨_, _, _, _, h.below b1⟩)
 have HF1 := J (h.below b1)
 have HB1 := J (b1.mono (Nat.le_of_lt hlt))
 have HN := J (fun w => specName_any x (by omega) w)
 have HG := J (fun k (hk : k < ss.length) => show w1.cell? ⟨g, k, none⟩ = some (.string (ss.getD k ByteArray.empty)) from by have := (b1.cell (p := ⟨g, 0 + k, none⟩) hg).trans (hc k hk); simpa using this)
 have HG' := J (fun k (hk : k < 7 * ss.length) => show w1.cell? ⟨g', k, none⟩ = some (.int .i64 (fs.getD k 0)) from by have := (b1.cell (p := ⟨g', 0 + k, none⟩) hg').trans (hc' k hk); simpa using this)
 have h0' : w1.cell? ⟨b, 0, none⟩ = _ := (b1.cell (p := ⟨b, 0, none⟩) hlt).trans h0
 have h1' : w1.cell? ⟨b, 1, none⟩ = _ := (b1.cell (p := ⟨b, 1, none⟩) hlt).trans h1
 have z0' : w1.frozen? ⟨b, 0, none⟩ = _ := (b1.frozen (p := ⟨b, 0, none⟩) hlt).trans z0
 have z1' : w1.frozen? ⟨b, 1, none⟩ = _ := (b1.frozen (p := ⟨b, 1, none⟩) hlt).trans z1
 have hW1z : w1.heap.size = w.heap.size + 1 := by rw [hw1]; simp
 have hb1 : b < w1.heap.size := by omega
 have hgl1 : g < w1.heap.size := by omega
 have hgl2 : g' < w1.heap.size := by omega
 have HW1 := J hw1
 have H0 := J h0'
 have H1 := J h1'
 have Z0 := J z0'
 have Z1 := J z1'
 have HLen := J h.len
 have XBox : Hid (Take.SBox w1 w.heap.size K V T m f a s) := J (by rw [hw1]; exact Take.SBox.new _ _ _ _ _ _ _ _)
 have hx1 : w.heap.size < w1.heap.size := by omega
 have HWZ := J hW1z
 have HC := J hc
 have HC' := J hc'
 clear h hc hc' h01 b1 hw1 h0 h1 z0 z1 HC HC' hW1z
 go_enter Tryz.func111, Tryz.ntmps111
 go_wp2_with fail
 rw [← HW1.out]
 refine HF.out.mono ?_
 rintro e w2 ⟨r, rfl, hr, rfl⟩
 rcases hr with ⟨rfl, hno⟩ | ⟨k, hk, rfl, hkx⟩
 ·have HNo := J hno
  clear hno
  go_wp2_with fail
  refine (HN.out _).mono ?_
  rintro e w3 ⟨rfl, rfl⟩
  have hsi : (ss.length : Int) ≤ 6 := by omega
  cases hnb : nameB x
  ·go_wp2
   go_ret
   exact ⟨false, ss, fs, rfl, .inr ⟨HNo.out, .inl ⟨rfl, rfl, rfl, .inl hnb⟩⟩, HL.out, HB1.out⟩
  ·by_cases h6 : ss.length = 6
   ·have h6i : (6 : Int) ≤ (ss.length : Int) := by omega
    go_wp2
    go_ret
    exact ⟨false, ss, fs, rfl, .inr ⟨HNo.out, .inl ⟨rfl, rfl, rfl, .inr h6⟩⟩, HL.out, HB1.out⟩
   ·have h6i : ¬ (6 : Int) ≤ (ss.length : Int) := by omega
    have h6' : ss.length < 6 := by omega
    go_wp2_with fail
    go_loop [8] (fun i => PlaceSt ss x i) (fun i => ss.length - (intOf i).toNat)
    case atStart => exact ⟨0, Nat.zero_le _, rfl, J fun j hj => absurd hj (Nat.not_lt_zero j)⟩
    case round =>
     obtain ⟨k, hk, rfl, HLT⟩ := hrel
     obtain ⟨y, hy, hg1⟩ : ∃ y, y = ss.getD k ByteArray.empty ∧ (k < ss.length → w1.cell? ⟨g, k, none⟩ = some (.string y)) := ⟨_, rfl, HG.out k⟩
     have HY := J hy
     clear hy
     have h3 : (k < ss.length ∧ Op.bytesLess y.toList x.toList = true) ∨ (k < ss.length ∧ Op.bytesLess y.toList x.toList = false) ∨ ¬ k < ss.length := by
      by_cases hlt : k < ss.length
      ·cases q3 : Op.bytesLess y.toList x.toList
       ·exact .inr (.inl ⟨hlt, rfl⟩)
       ·exact .inl ⟨hlt, rfl⟩
      ·exact .inr (.inr hlt)
     rcases h3 with ⟨hlt, q3⟩ | ⟨hlt, q3⟩ | hlt
     ·have g1 := hg1 hlt
      have HN2 : Hid (∀ j, j < k + 1 → lessS (ss.getD j ByteArray.empty) x = true) := J (fun j hj => by
       by_cases e : j = k
       ·subst e; rw [← HY.out]; exact q3
       ·exact HLT.out j (by omega))
      go_wp2
      go_round
      case rel => exact ⟨k + 1, by omega, by go_num, HN2⟩
      case measure => simp [intOf]; omega
     all_goals
      have HEND : Hid (k < ss.length → lessS (ss.getD k ByteArray.empty) x = false) := J (fun h => by first | (rw [← HY.out]; exact q3) | exact absurd h hlt)
      first | have g1 := hg1 hlt | skip
      clear hg1 HY
      have hkc : (k : Int) ≤ (c : Int) := by omega
      have HBk := J (fun W (hb : Below w1.heap.size w1 W) => behind_take hk HG.out (by have := HWZ.out; omega) hb)
      have O1 := J (World.ownsRow_lit (e := 9) (size := 1) (base := w1.heap.size) w1 #[] 0 (Nat.le_refl _) (by simp [maxLen]) (by simp))
      have B1 := J ((Below.refl w1.heap.size w1).alloc (Nat.le_refl _) (.cells #[] 9))
      go_wp2_with (first
       | (at_builtin; refine wpList_append_gen rfl (.tmp 54) (.tmp 60) 50 9 rfl w1.heap.size ix (.string ByteArray.empty) 1 16 Tryz.underlying50 hix xz0 xz1 xz2 rfl (by decide) _ 0 [] rfl O1.out (some ⟨g, 0, none⟩) k _ (texts (ss.take k)) rfl (len_take hk) (HBk.out _ B1.out) (ones_texts _) (room hk hsix).1 (room hk hsix).2 (by simp only [World.size_alloc]; omega) ?_; intro v2 w2 o2 gr2; have b2 := B1.out.grown gr2 (by simp only [World.size_alloc]; omega) (fun k e => by cases e; exact Nat.le_refl _); have s2 : w1.heap.size < w2.heap.size := Nat.lt_of_lt_of_le (by simp only [World.size_alloc]; omega) gr2.size; have B2 := J b2; have O2 := J (ownsRow_below o2 ((Below.refl _ _).alloc (Nat.le_refl _) (.cells #[.string x] 9))); have B2' := J (b2.alloc (Nat.le_of_lt s2) (.cells #[.string x] 9)); have c20 := (b2.cell (p := ⟨b, 0, none⟩) hb1).trans H0.out; have c21 := (b2.cell (p := ⟨b, 1, none⟩) hb1).trans H1.out; clear o2 gr2 b2 h0' h1' z0' z1')
       | (at_builtin; refine wpList_append_own_at _ rfl (.tmp 61) (.tmp 63) 50 rfl w1.heap.size 9 ix (.string ByteArray.empty) 1 16 Tryz.underlying50 hix xz0 xz1 xz2 rfl (by decide) _ _ _ rfl O2.out ⟨w2.heap.size, 0, none⟩ 1 1 [.string x] rfl rfl (news_one _ _ _ (by simp)) (fun u hu => by simp at hu; subst hu; rfl) (by simp only [maxLen]; omega) (by omega) (by simp only [World.size_alloc]; omega) ?_; intro v3 w3 o3 gr3 _ _; have b3 := B2'.out.grown gr3 (by simp only [World.size_alloc]; omega) (fun q e => own_at O2.out e); have s3 : w1.heap.size ≤ w3.heap.size := b3.size; have B3 := J b3; have O3 := J o3; have c30 := (b3.cell (p := ⟨b, 0, none⟩) hb1).trans H0.out; have c31 := (b3.cell (p := ⟨b, 1, none⟩) hb1).trans H1.out; clear o3 gr3 b3 c20 c21))
      have HB13 := J (fun W (h : Below w3.heap.size w3 W) => B3.out.trans (h.mono s3))
      have HBs := J (fun W (hb : Below w1.heap.size w1 W) => behind_take7 hk HLen.out HG'.out hgl2 hb)
      have hxx : w.heap.size < w3.heap.size := by omega
      have ux := XBox.out.below B3.out hx1
      have x0 := (ux).c0; have x1 := (ux).c1; have x2 := (ux).c2; have x3 := (ux).c3; have x4 := (ux).c4; have x5 := (ux).c5; have x6 := (ux).c6
      have hb3 : b < w3.heap.size := by omega
      have hkc' : (k : Int) ≤ (c' : Int) := by omega
      have UX3 := J ux
      clear ux
      go_cut [10] from 65 to 75 (fun s10 wx => CutS w3 k fs [K, V, T, m, f, a, s] s10 wx)
      case first =>
       go_region_law (first
        | (refine step_append_gen rfl (.tmp 65) (.tmp 71) 51 29 rfl w3.heap.size i7 _ 7 56 Tryz.underlying51 ki kz0 kz1 kz2 rfl (by decide) (.slice (some ⟨w3.heap.size, 0, none⟩) 0 0) 0 [] rfl ((own7 w3 (Nat.le_refl _) rfl).drew) (some ⟨g', 0, none⟩) k _ (ints (fs.take (7 * k))) rfl (len_take7 hk HLen.out) (HBs.out _ (HB13.out _ (((Below.refl w3.heap.size w3).alloc (Nat.le_refl _) (.cells #[] 29)).drew))) (ones_ints _) (room7 hk hsix).1 (room7 hk hsix).2.1 (((Below.refl w3.heap.size w3).alloc (Nat.le_refl _) (.cells #[] 29)).drew).size ?_; intro v5 w5 o5 gr5; have b5 := (((Below.refl w3.heap.size w3).alloc (Nat.le_refl _) (.cells #[] 29)).drew).grown gr5 (((Below.refl w3.heap.size w3).alloc (Nat.le_refl _) (.cells #[] 29)).drew).size (fun q e => own_at ((own7 w3 (Nat.le_refl _) rfl).drew) e); skip; have B5 := J b5; have O5 := J o5; have hs5 := b5.size; have y0 := (UX3.out.below b5 hxx).c0; have y1 := (UX3.out.below b5 hxx).c1; have y2 := (UX3.out.below b5 hxx).c2; have y3 := (UX3.out.below b5 hxx).c3; have y4 := (UX3.out.below b5 hxx).c4; have y5 := (UX3.out.below b5 hxx).c5; have y6 := (UX3.out.below b5 hxx).c6; clear b5 o5 gr5)
        | (refine step_append_gen rfl (.tmp 65) (.tmp 71) 51 29 rfl w3.heap.size i7 _ 7 56 Tryz.underlying51 ki kz0 kz1 kz2 rfl (by decide) (.slice (some ⟨w3.heap.size, 0, none⟩) 0 0) 0 [] rfl ((ownsRow_below (own7 w3 (Nat.le_refl _) rfl) ((Below.refl _ _).alloc (Nat.le_refl _) (.cells #[.int .i64 K, .int .i64 V, .int .i64 T, .int .i64 m, .int .i64 f, .int .i64 a, .int .i64 s] 29))).drew) (some ⟨g', 0, none⟩) k _ (ints (fs.take (7 * k))) rfl (len_take7 hk HLen.out) (HBs.out _ (HB13.out _ ((((Below.refl w3.heap.size w3).alloc (Nat.le_refl _) (.cells #[] 29)).alloc (by simp) (.cells #[.int .i64 K, .int .i64 V, .int .i64 T, .int .i64 m, .int .i64 f, .int .i64 a, .int .i64 s] 29)).drew))) (ones_ints _) (room7 hk hsix).1 (room7 hk hsix).2.1 ((((Below.refl w3.heap.size w3).alloc (Nat.le_refl _) (.cells #[] 29)).alloc (by simp) (.cells #[.int .i64 K, .int .i64 V, .int .i64 T, .int .i64 m, .int .i64 f, .int .i64 a, .int .i64 s] 29)).drew).size ?_; intro v5 w5 o5 gr5; have b5 := ((((Below.refl w3.heap.size w3).alloc (Nat.le_refl _) (.cells #[] 29)).alloc (by simp) (.cells #[.int .i64 K, .int .i64 V, .int .i64 T, .int .i64 m, .int .i64 f, .int .i64 a, .int .i64 s] 29)).drew).grown gr5 ((((Below.refl w3.heap.size w3).alloc (Nat.le_refl _) (.cells #[] 29)).alloc (by simp) (.cells #[.int .i64 K, .int .i64 V, .int .i64 T, .int .i64 m, .int .i64 f, .int .i64 a, .int .i64 s] 29)).drew).size (fun q e => own_at ((ownsRow_below (own7 w3 (Nat.le_refl _) rfl) ((Below.refl _ _).alloc (Nat.le_refl _) (.cells #[.int .i64 K, .int .i64 V, .int .i64 T, .int .i64 m, .int .i64 f, .int .i64 a, .int .i64 s] 29))).drew) e); have NX5 := J ((gr5.block (w3.heap.size + 1) (by simp) (by simp [Value.ownBlock])).trans (nx2 w3 _ _)); have B5 := J b5; have O5 := J o5; have hs5 := b5.size; have y0 := (UX3.out.below b5 hxx).c0; have y1 := (UX3.out.below b5 hxx).c1; have y2 := (UX3.out.below b5 hxx).c2; have y3 := (UX3.out.below b5 hxx).c3; have y4 := (UX3.out.below b5 hxx).c4; have y5 := (UX3.out.below b5 hxx).c5; have y6 := (UX3.out.below b5 hxx).c6; clear b5 o5 gr5)
        | (refine step_append_gen rfl (.tmp 65) (.tmp 71) 51 29 rfl w3.heap.size i7 _ 7 56 Tryz.underlying51 ki kz0 kz1 kz2 rfl (by decide) (.slice (some ⟨w3.heap.size + 1, 0, none⟩) 0 0) 0 [] rfl ((own7 (w3.alloc (.cells #[.int .i64 K, .int .i64 V, .int .i64 T, .int .i64 m, .int .i64 f, .int .i64 a, .int .i64 s] 29)) (B := w3.heap.size) (by simp) (World.size_alloc _ _)).drew) (some ⟨g', 0, none⟩) k _ (ints (fs.take (7 * k))) rfl (len_take7 hk HLen.out) (HBs.out _ (HB13.out _ ((((Below.refl w3.heap.size w3).alloc (Nat.le_refl _) (.cells #[.int .i64 K, .int .i64 V, .int .i64 T, .int .i64 m, .int .i64 f, .int .i64 a, .int .i64 s] 29)).alloc (by simp) (.cells #[] 29)).drew))) (ones_ints _) (room7 hk hsix).1 (room7 hk hsix).2.1 ((((Below.refl w3.heap.size w3).alloc (Nat.le_refl _) (.cells #[.int .i64 K, .int .i64 V, .int .i64 T, .int .i64 m, .int .i64 f, .int .i64 a, .int .i64 s] 29)).alloc (by simp) (.cells #[] 29)).drew).size ?_; intro v5 w5 o5 gr5; have b5 := ((((Below.refl w3.heap.size w3).alloc (Nat.le_refl _) (.cells #[.int .i64 K, .int .i64 V, .int .i64 T, .int .i64 m, .int .i64 f, .int .i64 a, .int .i64 s] 29)).alloc (by simp) (.cells #[] 29)).drew).grown gr5 ((((Below.refl w3.heap.size w3).alloc (Nat.le_refl _) (.cells #[.int .i64 K, .int .i64 V, .int .i64 T, .int .i64 m, .int .i64 f, .int .i64 a, .int .i64 s] 29)).alloc (by simp) (.cells #[] 29)).drew).size (fun q e => own_at ((own7 (w3.alloc (.cells #[.int .i64 K, .int .i64 V, .int .i64 T, .int .i64 m, .int .i64 f, .int .i64 a, .int .i64 s] 29)) (B := w3.heap.size) (by simp) (World.size_alloc _ _)).drew) e); have NX5 := J ((gr5.block w3.heap.size (by simp; omega) (by simp [Value.ownBlock])).trans (nx3 w3 _ _)); have B5 := J b5; have O5 := J o5; have hs5 := b5.size; have y0 := (UX3.out.below b5 hxx).c0; have y1 := (UX3.out.below b5 hxx).c1; have y2 := (UX3.out.below b5 hxx).c2; have y3 := (UX3.out.below b5 hxx).c3; have y4 := (UX3.out.below b5 hxx).c4; have y5 := (UX3.out.below b5 hxx).c5; have y6 := (UX3.out.below b5 hxx).c6; clear b5 o5 gr5)
        | (refine step_append_gen rfl (.tmp 72) (.tmp 74) 51 29 rfl w3.heap.size i7 _ 7 56 Tryz.underlying51 ki kz0 kz1 kz2 rfl (by decide) v5 (0 + k) _ rfl (O5.out) (some ⟨w3.heap.size, 0, none⟩) 1 1 (ints [K, V, T, m, f, a, s]) rfl rfl (.inr ⟨_, rfl, World.news_of_block (cs := #[.int .i64 K, .int .i64 V, .int .i64 T, .int .i64 m, .int .i64 f, .int .i64 a, .int .i64 s]) (t := 29) (fr := (0, 0)) NX5.out⟩) (ones_ints _) (room7 hk hsix).2.2.1 (room7 hk hsix).2.2.2 (B5.out).size ?_; intro v6 w6 o6 gr6; have b6 := (B5.out).grown gr6 (B5.out).size (fun q e => own_at (O5.out) e); have B6 := J b6; have O6 := J o6; have hs6 := b6.size; clear b6 o6 gr6)
        | (refine step_append_gen rfl (.tmp 72) (.tmp 74) 51 29 rfl w3.heap.size i7 _ 7 56 Tryz.underlying51 ki kz0 kz1 kz2 rfl (by decide) v5 (0 + k) _ rfl (ownsRow_below O5.out ((Below.refl _ _).alloc (Nat.le_refl _) (.cells #[.int .i64 K, .int .i64 V, .int .i64 T, .int .i64 m, .int .i64 f, .int .i64 a, .int .i64 s] 29))) (some ⟨w5.heap.size, 0, none⟩) 1 1 (ints [K, V, T, m, f, a, s]) rfl rfl (.inr ⟨_, rfl, World.news_of_block (cs := #[.int .i64 K, .int .i64 V, .int .i64 T, .int .i64 m, .int .i64 f, .int .i64 a, .int .i64 s]) (t := 29) (fr := (0, 0)) (heap_alloc_new w5 _)⟩) (ones_ints _) (room7 hk hsix).2.2.1 (room7 hk hsix).2.2.2 (B5.out.alloc hs5 (.cells #[.int .i64 K, .int .i64 V, .int .i64 T, .int .i64 m, .int .i64 f, .int .i64 a, .int .i64 s] 29)).size ?_; intro v6 w6 o6 gr6; have b6 := (B5.out.alloc hs5 (.cells #[.int .i64 K, .int .i64 V, .int .i64 T, .int .i64 m, .int .i64 f, .int .i64 a, .int .i64 s] 29)).grown gr6 (B5.out.alloc hs5 (.cells #[.int .i64 K, .int .i64 V, .int .i64 T, .int .i64 m, .int .i64 f, .int .i64 a, .int .i64 s] 29)).size (fun q e => own_at (ownsRow_below O5.out ((Below.refl _ _).alloc (Nat.le_refl _) (.cells #[.int .i64 K, .int .i64 V, .int .i64 T, .int .i64 m, .int .i64 f, .int .i64 a, .int .i64 s] 29))) e); have B6 := J b6; have O6 := J o6; have hs6 := b6.size; clear b6 o6 gr6)
        | (refine step_append_gen rfl (.tmp 72) (.tmp 74) 51 29 rfl w3.heap.size i7 _ 7 56 Tryz.underlying51 ki kz0 kz1 kz2 rfl (by decide) v5 (0 + k) _ rfl (O5.out) (some ⟨w3.heap.size + 1, 0, none⟩) 1 1 (ints [K, V, T, m, f, a, s]) rfl rfl (.inr ⟨_, rfl, World.news_of_block (cs := #[.int .i64 K, .int .i64 V, .int .i64 T, .int .i64 m, .int .i64 f, .int .i64 a, .int .i64 s]) (t := 29) (fr := (0, 0)) NX5.out⟩) (ones_ints _) (room7 hk hsix).2.2.1 (room7 hk hsix).2.2.2 (B5.out).size ?_; intro v6 w6 o6 gr6; have b6 := (B5.out).grown gr6 (B5.out).size (fun q e => own_at (O5.out) e); have B6 := J b6; have O6 := J o6; have hs6 := b6.size; clear b6 o6 gr6))
       all_goals
        have HC : Hid (CutS w3 k fs [K, V, T, m, f, a, s] v6 w6) := J ⟨O6.out, B6.out⟩
        go_wp2_with fail
        go_meet
        exact HC.out
      case rest =>
       obtain ⟨o6, b6⟩ := hcut
       have B6 := J b6
       have O6 := J o6
       have O36 := J (ownsRow_below O3.out b6)
       have hs6 := b6.size
       have c60 := (b6.cell (p := ⟨b, 0, none⟩) hb3).trans c30
       have c61 := (b6.cell (p := ⟨b, 1, none⟩) hb3).trans c31
       have z60 : wc.frozen? ⟨b, 0, none⟩ = false := (b6.frozen (p := ⟨b, 0, none⟩) hb3).trans ((B3.out.frozen (p := ⟨b, 0, none⟩) hb1).trans Z0.out)
       have z61 : wc.frozen? ⟨b, 1, none⟩ = false := (b6.frozen (p := ⟨b, 1, none⟩) hb3).trans ((B3.out.frozen (p := ⟨b, 1, none⟩) hb1).trans Z1.out)
       have HBd := J (fun W (hb : Below w1.heap.size w1 W) => behind_drop hk HG.out hgl1 hb)
       have HBe := J (fun W (hb : Below w1.heap.size w1 W) => behind_drop7 hk HLen.out HG'.out hgl2 hb)
       clear o6 b6 c30 c31
       have hkn : (k : Int) ≤ (ss.length : Int) := by omega
       rcases Nat.lt_or_ge k c with hck | hck
       ·have hcn : ¬ (c = k) := by omega
        rcases Nat.lt_or_ge k c' with hck' | hck'
        ·have hcn' : ¬ (c' = k) := by omega
         go_wp2_with (first
          | (at_builtin; refine wpList_append_gen rfl (.tmp 77) (.tmp 83) 50 9 rfl w1.heap.size ix (.string ByteArray.empty) 1 16 Tryz.underlying50 hix xz0 xz1 xz2 rfl (by decide) v3 (0 + k + 1) _ rfl O36.out (some ⟨g, k, none⟩) (ss.length - k) _ (texts (ss.drop k)) rfl (len_drop rfl) (HBd.out _ (HB13.out _ B6.out)) (ones_texts _) (room_all hk hsix).1 (room_all hk hsix).2.1 (Nat.le_trans s3 hs6) ?_; intro v7 w7 o7 gr7; have o67 := World.ownsRow.kept O6.out gr7 (own_ne O6.out O36.out (by decide)); have b7 := (HB13.out _ B6.out).grown gr7 (Nat.le_trans s3 hs6) (fun q e => own_at O36.out e); obtain ⟨A7, c7, rfl, _⟩ := Mem.ownsRow_form o7; have c70 := (b7.cell (p := ⟨b, 0, none⟩) hb1).trans H0.out; have c71 := (b7.cell (p := ⟨b, 1, none⟩) hb1).trans H1.out; have z70 := (b7.frozen (p := ⟨b, 0, none⟩) hb1).trans Z0.out; have z71 := (b7.frozen (p := ⟨b, 1, none⟩) hb1).trans Z1.out; have B7 := J b7; have O7 := J o7; have O67 := J o67; have hs7 : w3.heap.size ≤ w7.heap.size := Nat.le_trans hs6 gr7.size; clear o7 o67 gr7 b7 c60 c61 z60 z61)
          | (at_builtin; refine wpList_append_gen rfl (.tmp 88) (.tmp 94) 51 29 rfl w3.heap.size i7 _ 7 56 Tryz.underlying51 ki kz0 kz1 kz2 rfl (by decide) _ (0 + k + 1) _ rfl (ownsRow_setCell_below O67.out hb3 _) (some ⟨g', k * 7, none⟩) (ss.length - k) _ (ints (fs.drop (7 * k))) rfl (len_drop7 HLen.out) (behind_set (A := none) (HBe.out _ B7.out) (by omega)) (ones_ints _) (room_all hk hsix).1 (room_all hk hsix).2.2 (Nat.le_trans hs7 (by simp)) ?_; intro v8 w8 o8 gr8; have b8 := (Below.refl w3.heap.size _).grown gr8 (Nat.le_trans hs7 (by simp)) (fun q e => own_at O67.out e); have o78 := World.ownsRow.kept (ownsRow_setCell_below O7.out hb1 _) gr8 (own_ne O7.out O67.out (by decide)); obtain ⟨A8, c8, rfl, _⟩ := Mem.ownsRow_form o8; have c80 := (b8.cell (p := ⟨b, 0, none⟩) hb3).trans (cell_set_same _ c70); have c81 := (b8.cell (p := ⟨b, 1, none⟩) hb3).trans (cell_set_other _ c71 (by decide)); have z80 := (b8.frozen (p := ⟨b, 0, none⟩) hb3).trans ((World.frozen?_setCell _ _ _ _).trans z70); have z81 := (b8.frozen (p := ⟨b, 1, none⟩) hb3).trans ((World.frozen?_setCell _ _ _ _).trans z71); have B8 := J b8; have O8 := J o8; have O78 := J o78; clear o8 o78 gr8 b8 c70 c71 z70 z71))
         have HFin := J (set_fin hk h6' HLen.out (xs := [K, V, T, m, f, a, s]) rfl O78.out O8.out hb1 hb3 (by rw [Nat.zero_add]; exact c80) c81 z80 z81 (((HB1.out.trans (B7.out.mono (Nat.le_of_lt hb1))).setCell (Nat.le_refl _) _).trans (B8.out.mono (Nat.le_of_lt hb3))))
         have hfin := HFin.out
         rw [Nat.zero_add] at hfin
         have HR : Hid (SetRet b ss fs x [K, V, T, m, f, a, s] w (.returned (.bool true)) (w8.setCell ⟨b, 1, none⟩ (.slice A8 (k + 1 + (ss.length - k)) c8))) := J ⟨true, _, _, rfl, .inr ⟨HNo.out, .inr ⟨rfl, hnb, h6', k, hk, HLT.out, HEND.out, rfl, rfl⟩⟩, hfin.1, hfin.2⟩
         refine bodyPost_ret (v := .bool true) (by simp [results, Tryz.results111, go_sem]) rfl ?_
         exact HR.out
        ·have hcn' : (c' = k) = True := eq_true (by omega)
         have HNK : Hid (ss.length ≤ k) := J (by omega)
         clear hck'
         go_wp2_with (first
          | (at_builtin; refine wpList_append_gen rfl (.tmp 77) (.tmp 83) 50 9 rfl w1.heap.size ix (.string ByteArray.empty) 1 16 Tryz.underlying50 hix xz0 xz1 xz2 rfl (by decide) v3 (0 + k + 1) _ rfl O36.out (some ⟨g, k, none⟩) (ss.length - k) _ (texts (ss.drop k)) rfl (len_drop rfl) (HBd.out _ (HB13.out _ B6.out)) (ones_texts _) (room_all hk hsix).1 (room_all hk hsix).2.1 (Nat.le_trans s3 hs6) ?_; intro v7 w7 o7 gr7; have o67 := World.ownsRow.kept O6.out gr7 (own_ne O6.out O36.out (by decide)); have b7 := (HB13.out _ B6.out).grown gr7 (Nat.le_trans s3 hs6) (fun q e => own_at O36.out e); obtain ⟨A7, c7, rfl, _⟩ := Mem.ownsRow_form o7; have c70 := (b7.cell (p := ⟨b, 0, none⟩) hb1).trans H0.out; have c71 := (b7.cell (p := ⟨b, 1, none⟩) hb1).trans H1.out; have z70 := (b7.frozen (p := ⟨b, 0, none⟩) hb1).trans Z0.out; have z71 := (b7.frozen (p := ⟨b, 1, none⟩) hb1).trans Z1.out; have B7 := J b7; have O7 := J o7; have O67 := J o67; have hs7 : w3.heap.size ≤ w7.heap.size := Nat.le_trans hs6 gr7.size; clear o7 o67 gr7 b7 c60 c61 z60 z61)
          | (at_builtin; refine wpList_append_gen rfl (.tmp 88) (.tmp 94) 51 29 rfl w3.heap.size i7 _ 7 56 Tryz.underlying51 ki kz0 kz1 kz2 rfl (by decide) _ (0 + k + 1) _ rfl (ownsRow_setCell_below O67.out hb3 _) (some ⟨g', 0, none⟩) (ss.length - k) _ (ints (fs.drop (7 * k))) rfl (len_drop7 HLen.out) (behind_end (by rw [List.drop_eq_nil_of_le (by rw [HLen.out]; have := HNK.out; omega)]; rfl)) (ones_ints _) (room_all hk hsix).1 (room_all hk hsix).2.2 (Nat.le_trans hs7 (by simp)) ?_; intro v8 w8 o8 gr8; have b8 := (Below.refl w3.heap.size _).grown gr8 (Nat.le_trans hs7 (by simp)) (fun q e => own_at O67.out e); have o78 := World.ownsRow.kept (ownsRow_setCell_below O7.out hb1 _) gr8 (own_ne O7.out O67.out (by decide)); obtain ⟨A8, c8, rfl, _⟩ := Mem.ownsRow_form o8; have c80 := (b8.cell (p := ⟨b, 0, none⟩) hb3).trans (cell_set_same _ c70); have c81 := (b8.cell (p := ⟨b, 1, none⟩) hb3).trans (cell_set_other _ c71 (by decide)); have z80 := (b8.frozen (p := ⟨b, 0, none⟩) hb3).trans ((World.frozen?_setCell _ _ _ _).trans z70); have z81 := (b8.frozen (p := ⟨b, 1, none⟩) hb3).trans ((World.frozen?_setCell _ _ _ _).trans z71); have B8 := J b8; have O8 := J o8; have O78 := J o78; clear o8 o78 gr8 b8 c70 c71 z70 z71))
         have HFin := J (set_fin hk h6' HLen.out (xs := [K, V, T, m, f, a, s]) rfl O78.out O8.out hb1 hb3 (by rw [Nat.zero_add]; exact c80) c81 z80 z81 (((HB1.out.trans (B7.out.mono (Nat.le_of_lt hb1))).setCell (Nat.le_refl _) _).trans (B8.out.mono (Nat.le_of_lt hb3))))
         have hfin := HFin.out
         rw [Nat.zero_add] at hfin
         have HR : Hid (SetRet b ss fs x [K, V, T, m, f, a, s] w (.returned (.bool true)) (w8.setCell ⟨b, 1, none⟩ (.slice A8 (k + 1 + (ss.length - k)) c8))) := J ⟨true, _, _, rfl, .inr ⟨HNo.out, .inr ⟨rfl, hnb, h6', k, hk, HLT.out, HEND.out, rfl, rfl⟩⟩, hfin.1, hfin.2⟩
         refine bodyPost_ret (v := .bool true) (by simp [results, Tryz.results111, go_sem]) rfl ?_
         exact HR.out
       ·have hcn : (c = k) = True := eq_true (by omega)
        have HNK : Hid (ss.length ≤ k) := J (by omega)
        clear hck
        rcases Nat.lt_or_ge k c' with hck' | hck'
        ·have hcn' : ¬ (c' = k) := by omega
         go_wp2_with (first
          | (at_builtin; refine wpList_append_gen rfl (.tmp 77) (.tmp 83) 50 9 rfl w1.heap.size ix (.string ByteArray.empty) 1 16 Tryz.underlying50 hix xz0 xz1 xz2 rfl (by decide) v3 (0 + k + 1) _ rfl O36.out (some ⟨g, 0, none⟩) (ss.length - k) _ (texts (ss.drop k)) rfl (len_drop rfl) (behind_end (by rw [List.drop_eq_nil_of_le HNK.out]; rfl)) (ones_texts _) (room_all hk hsix).1 (room_all hk hsix).2.1 (Nat.le_trans s3 hs6) ?_; intro v7 w7 o7 gr7; have o67 := World.ownsRow.kept O6.out gr7 (own_ne O6.out O36.out (by decide)); have b7 := (HB13.out _ B6.out).grown gr7 (Nat.le_trans s3 hs6) (fun q e => own_at O36.out e); obtain ⟨A7, c7, rfl, _⟩ := Mem.ownsRow_form o7; have c70 := (b7.cell (p := ⟨b, 0, none⟩) hb1).trans H0.out; have c71 := (b7.cell (p := ⟨b, 1, none⟩) hb1).trans H1.out; have z70 := (b7.frozen (p := ⟨b, 0, none⟩) hb1).trans Z0.out; have z71 := (b7.frozen (p := ⟨b, 1, none⟩) hb1).trans Z1.out; have B7 := J b7; have O7 := J o7; have O67 := J o67; have hs7 : w3.heap.size ≤ w7.heap.size := Nat.le_trans hs6 gr7.size; clear o7 o67 gr7 b7 c60 c61 z60 z61)
          | (at_builtin; refine wpList_append_gen rfl (.tmp 88) (.tmp 94) 51 29 rfl w3.heap.size i7 _ 7 56 Tryz.underlying51 ki kz0 kz1 kz2 rfl (by decide) _ (0 + k + 1) _ rfl (ownsRow_setCell_below O67.out hb3 _) (some ⟨g', k * 7, none⟩) (ss.length - k) _ (ints (fs.drop (7 * k))) rfl (len_drop7 HLen.out) (behind_set (A := none) (HBe.out _ B7.out) (by omega)) (ones_ints _) (room_all hk hsix).1 (room_all hk hsix).2.2 (Nat.le_trans hs7 (by simp)) ?_; intro v8 w8 o8 gr8; have b8 := (Below.refl w3.heap.size _).grown gr8 (Nat.le_trans hs7 (by simp)) (fun q e => own_at O67.out e); have o78 := World.ownsRow.kept (ownsRow_setCell_below O7.out hb1 _) gr8 (own_ne O7.out O67.out (by decide)); obtain ⟨A8, c8, rfl, _⟩ := Mem.ownsRow_form o8; have c80 := (b8.cell (p := ⟨b, 0, none⟩) hb3).trans (cell_set_same _ c70); have c81 := (b8.cell (p := ⟨b, 1, none⟩) hb3).trans (cell_set_other _ c71 (by decide)); have z80 := (b8.frozen (p := ⟨b, 0, none⟩) hb3).trans ((World.frozen?_setCell _ _ _ _).trans z70); have z81 := (b8.frozen (p := ⟨b, 1, none⟩) hb3).trans ((World.frozen?_setCell _ _ _ _).trans z71); have B8 := J b8; have O8 := J o8; have O78 := J o78; clear o8 o78 gr8 b8 c70 c71 z70 z71))
         have HFin := J (set_fin hk h6' HLen.out (xs := [K, V, T, m, f, a, s]) rfl O78.out O8.out hb1 hb3 (by rw [Nat.zero_add]; exact c80) c81 z80 z81 (((HB1.out.trans (B7.out.mono (Nat.le_of_lt hb1))).setCell (Nat.le_refl _) _).trans (B8.out.mono (Nat.le_of_lt hb3))))
         have hfin := HFin.out
         rw [Nat.zero_add] at hfin
         have HR : Hid (SetRet b ss fs x [K, V, T, m, f, a, s] w (.returned (.bool true)) (w8.setCell ⟨b, 1, none⟩ (.slice A8 (k + 1 + (ss.length - k)) c8))) := J ⟨true, _, _, rfl, .inr ⟨HNo.out, .inr ⟨rfl, hnb, h6', k, hk, HLT.out, HEND.out, rfl, rfl⟩⟩, hfin.1, hfin.2⟩
         refine bodyPost_ret (v := .bool true) (by simp [results, Tryz.results111, go_sem]) rfl ?_
         exact HR.out
        ·have hcn' : (c' = k) = True := eq_true (by omega)
         clear hck'
         go_wp2_with (first
          | (at_builtin; refine wpList_append_gen rfl (.tmp 77) (.tmp 83) 50 9 rfl w1.heap.size ix (.string ByteArray.empty) 1 16 Tryz.underlying50 hix xz0 xz1 xz2 rfl (by decide) v3 (0 + k + 1) _ rfl O36.out (some ⟨g, 0, none⟩) (ss.length - k) _ (texts (ss.drop k)) rfl (len_drop rfl) (behind_end (by rw [List.drop_eq_nil_of_le HNK.out]; rfl)) (ones_texts _) (room_all hk hsix).1 (room_all hk hsix).2.1 (Nat.le_trans s3 hs6) ?_; intro v7 w7 o7 gr7; have o67 := World.ownsRow.kept O6.out gr7 (own_ne O6.out O36.out (by decide)); have b7 := (HB13.out _ B6.out).grown gr7 (Nat.le_trans s3 hs6) (fun q e => own_at O36.out e); obtain ⟨A7, c7, rfl, _⟩ := Mem.ownsRow_form o7; have c70 := (b7.cell (p := ⟨b, 0, none⟩) hb1).trans H0.out; have c71 := (b7.cell (p := ⟨b, 1, none⟩) hb1).trans H1.out; have z70 := (b7.frozen (p := ⟨b, 0, none⟩) hb1).trans Z0.out; have z71 := (b7.frozen (p := ⟨b, 1, none⟩) hb1).trans Z1.out; have B7 := J b7; have O7 := J o7; have O67 := J o67; have hs7 : w3.heap.size ≤ w7.heap.size := Nat.le_trans hs6 gr7.size; clear o7 o67 gr7 b7 c60 c61 z60 z61)
          | (at_builtin; refine wpList_append_gen rfl (.tmp 88) (.tmp 94) 51 29 rfl w3.heap.size i7 _ 7 56 Tryz.underlying51 ki kz0 kz1 kz2 rfl (by decide) _ (0 + k + 1) _ rfl (ownsRow_setCell_below O67.out hb3 _) (some ⟨g', 0, none⟩) (ss.length - k) _ (ints (fs.drop (7 * k))) rfl (len_drop7 HLen.out) (behind_end (by rw [List.drop_eq_nil_of_le (by rw [HLen.out]; have := HNK.out; omega)]; rfl)) (ones_ints _) (room_all hk hsix).1 (room_all hk hsix).2.2 (Nat.le_trans hs7 (by simp)) ?_; intro v8 w8 o8 gr8; have b8 := (Below.refl w3.heap.size _).grown gr8 (Nat.le_trans hs7 (by simp)) (fun q e => own_at O67.out e); have o78 := World.ownsRow.kept (ownsRow_setCell_below O7.out hb1 _) gr8 (own_ne O7.out O67.out (by decide)); obtain ⟨A8, c8, rfl, _⟩ := Mem.ownsRow_form o8; have c80 := (b8.cell (p := ⟨b, 0, none⟩) hb3).trans (cell_set_same _ c70); have c81 := (b8.cell (p := ⟨b, 1, none⟩) hb3).trans (cell_set_other _ c71 (by decide)); have z80 := (b8.frozen (p := ⟨b, 0, none⟩) hb3).trans ((World.frozen?_setCell _ _ _ _).trans z70); have z81 := (b8.frozen (p := ⟨b, 1, none⟩) hb3).trans ((World.frozen?_setCell _ _ _ _).trans z71); have B8 := J b8; have O8 := J o8; have O78 := J o78; clear o8 o78 gr8 b8 c70 c71 z70 z71))
         have HFin := J (set_fin hk h6' HLen.out (xs := [K, V, T, m, f, a, s]) rfl O78.out O8.out hb1 hb3 (by rw [Nat.zero_add]; exact c80) c81 z80 z81 (((HB1.out.trans (B7.out.mono (Nat.le_of_lt hb1))).setCell (Nat.le_refl _) _).trans (B8.out.mono (Nat.le_of_lt hb3))))
         have hfin := HFin.out
         rw [Nat.zero_add] at hfin
         have HR : Hid (SetRet b ss fs x [K, V, T, m, f, a, s] w (.returned (.bool true)) (w8.setCell ⟨b, 1, none⟩ (.slice A8 (k + 1 + (ss.length - k)) c8))) := J ⟨true, _, _, rfl, .inr ⟨HNo.out, .inr ⟨rfl, hnb, h6', k, hk, HLT.out, HEND.out, rfl, rfl⟩⟩, hfin.1, hfin.2⟩
         refine bodyPost_ret (v := .bool true) (by simp [results, Tryz.results111, go_sem]) rfl ?_
         exact HR.out
 ·have HK := J hkx
  clear hkx
  have hsz : (k : Int) < (ss.length : Int) := by omega
  have hk7 : 7 * k + 7 ≤ 7 * ss.length := by omega
  have q : ∀ j, j < 7 → w1.cell? ⟨g', k * 7 + j, none⟩ = some (.int .i64 (fs.getD (k * 7 + j) 0)) := fun j hj => HG'.out (k * 7 + j) (by omega)
  have q0 := q 0 (by decide)
  have q1 := q 1 (by decide)
  have q2 := q 2 (by decide)
  have q3 := q 3 (by decide)
  have q4 := q 4 (by decide)
  have q5 := q 5 (by decide)
  have q6 := q 6 (by decide)
  simp only [Nat.add_zero] at q0
  have fz : ∀ i, w1.frozen? ⟨g', i, none⟩ = false := fun i => (HF1.out).fz' g' 0 i rfl
  have f0 := fz (k * 7)
  have f1 := fz (k * 7 + 1)
  have f2 := fz (k * 7 + 2)
  have f3 := fz (k * 7 + 3)
  have f4 := fz (k * 7 + 4)
  have f5 := fz (k * 7 + 5)
  have f6 := fz (k * 7 + 6)
  have h1 := H1.out
  have x0 := (XBox.out).c0; have x1 := (XBox.out).c1; have x2 := (XBox.out).c2; have x3 := (XBox.out).c3; have x4 := (XBox.out).c4; have x5 := (XBox.out).c5; have x6 := (XBox.out).c6
  clear q fz hk7
  have mixed : Tryz.prog.follows .mixedOrders = true := by kernel_rfl
  go_wp2
  go_region_o
  all_goals
   have HP := J (lab_put (xs := [K, V, T, m, f, a, s]) HF1.out hk rfl)
   have HG := J (HB1.out.grown (putL_grown g' [K, V, T, m, f, a, s] (k * 7) w1) (Nat.le_of_lt hb1) (fun q e => by cases e; exact Nat.le_of_lt hbg'))
   have HLN : Hid ((fs.take (7 * k) ++ [K, V, T, m, f, a, s] ++ fs.drop (7 * k + 7)).length = fs.length) := J (by rw [HP.out.len, HLen.out])
   have HPD := J (HP.out.below (Below.refl _ _).drew)
   have HGD := J HG.out.drew
   clear HP HG
   unfold putL putL putL putL putL putL putL putL at HPD HGD
   go_wp2
   go_ret
   exact ⟨true, ss, _, rfl, .inl ⟨rfl, k, hk, HK.out, rfl, HLN.out, rfl⟩, ⟨_, _, _, _, HPD.out⟩, HGD.out⟩
end Set
namespace LabD
open Go.RowKit Base Mem Dec LabM Str Take StTx YtgipnbeipfhekaaGreatDoor.Src Blk Draw Set
theorem beside_low {p b : Nat} {w w3 w4 : World} (h : Beside p w w3) (hb : Below b w3 w4) (hle : w.heap.size ≤ b) : Beside p w w4 :=
 ⟨hb.os.trans h.os, hb.tape.trans h.tape, hb.output.trans h.output, Nat.le_trans h.size hb.size, fun q h1 h2 => (hb.block q (Nat.lt_of_lt_of_le h1 hle)).trans (h.same q h1 h2)⟩
theorem src_low {w w' : World} {p K C : Nat} (h : Go.Proofs.YtgipnbeipfhekaaGreatDoor.Src.Src w p K) (hb : Below C w w') (hp : p < C) : Go.Proofs.YtgipnbeipfhekaaGreatDoor.Src.Src w' p K := by
 have hk : ∀ g, g ≤ p → w'.heap[g]? = w.heap[g]? := fun g hgp => hb.block g (by omega)
 obtain ⟨A, c, zs, a, sd, h0, h1, h2, hf, h3, h4, h5, h6, h7, h8⟩ := h.ex
 have hc : ∀ i, w'.cell? ⟨p, i, none⟩ = w.cell? ⟨p, i, none⟩ := fun i => World.cell?_of_block (a := ⟨p, i, none⟩) (hk p (Nat.le_refl _))
 exact ⟨A, c, zs, a, sd, (hc 0).trans h0, (hc 1).trans h1, (hc 2).trans h2, fun i => (World.frozen?_of_block (a := ⟨p, i, none⟩) (hk p (Nat.le_refl _))).trans (hf i), h3, h4, h5, h6, h7, RdB.keep h8 (Nat.le_refl _) fun g hg => hk g (by omega)⟩
theorem lab_beside {w w' : World} {b p : Nat} {ss : List ByteArray} {fs : List Int} (h : Lab w b ss fs) (hb : Beside p w w') (hp : p < b) : Lab w' b ss fs := by
 obtain ⟨A, A', c, c', h⟩ := h
 have hc : ∀ i, w'.cell? ⟨b, i, none⟩ = w.cell? ⟨b, i, none⟩ := fun i => World.cell?_of_block (a := ⟨b, i, none⟩) (hb.same b h.lt (by omega))
 have hz : ∀ i, w'.frozen? ⟨b, i, none⟩ = w.frozen? ⟨b, i, none⟩ := fun i => World.frozen?_of_block (a := ⟨b, i, none⟩) (hb.same b h.lt (by omega))
 refine ⟨A, A', c, c', (hc 0).trans h.c0, (hc 1).trans h.c1, (hz 0).trans h.z0, (hz 1).trans h.z1, Nat.lt_of_lt_of_le h.lt hb.size, h.len, h.cap, h.six, ?_, ?_, h.emp, h.abv, h.abv', ?_, ?_, ?_⟩
 ·intro h0
  obtain ⟨q, o, e, hq, hcs⟩ := h.rd h0
  have := (h.abv _ _ e).1
  exact ⟨q, o, e, Nat.lt_of_lt_of_le hq hb.size, fun i hi => (World.cell?_of_block (a := ⟨q, o + i, none⟩) (hb.same q hq (by omega))).trans (hcs i hi)⟩
 ·intro h0
  obtain ⟨q, o, e, hq, hcs⟩ := h.rs h0
  have := (h.abv' _ _ e).1
  exact ⟨q, o, e, Nat.lt_of_lt_of_le hq hb.size, fun i hi => (World.cell?_of_block (a := ⟨q, o + i, none⟩) (hb.same q hq (by omega))).trans (hcs i hi)⟩
 ·intro g off i e
  by_cases h0 : ss.length = 0
  ·rw [(h.emp h0).2.1] at e; cases e
  ·obtain ⟨q, o, e2, hlt, _⟩ := h.rs (by omega)
   have hbg := (h.abv' _ _ e).1
   rw [e] at e2
   injection e2 with e2
   injection e2 with e2 _ _
   subst e2
   exact (World.frozen?_of_block (a := ⟨g, i, none⟩) (hb.same g hlt (by omega))).trans (h.fz' g off i e)
 ·intro g off sub e
  obtain ⟨cs, fr, hh⟩ := h.ty g off sub e
  by_cases h0 : ss.length = 0
  ·rw [(h.emp h0).1] at e; cases e
  ·obtain ⟨q, o, e2, hlt, _⟩ := h.rd (by omega)
   have e3 := e2.symm.trans e
   injection e3 with e3
   injection e3 with e3 _ _
   subst e3
   have hbg := (h.abv _ _ e2).1
   exact ⟨cs, fr, (hb.same q hlt (by omega)).trans hh⟩
 ·intro g off sub e
  obtain ⟨cs, fr, hh⟩ := h.ty' g off sub e
  by_cases h0 : ss.length = 0
  ·rw [(h.emp h0).2.1] at e; cases e
  ·obtain ⟨q, o, e2, hlt, _⟩ := h.rs (by omega)
   have e3 := e2.symm.trans e
   injection e3 with e3
   injection e3 with e3 _ _
   subst e3
   have hbg := (h.abv' _ _ e2).1
   exact ⟨cs, fr, (hb.same q hlt (by omega)).trans hh⟩
def AllGd (ss : List ByteArray) : Prop := ∀ i, i < ss.length → Gd 10 (ss.getD i ByteArray.empty)
theorem allGd_laid {ss ss' : List ByteArray} {fs fs' xs : List Int} {x : ByteArray} (h : AllGd ss) (hx : Gd 10 x) (hl : Laid ss fs x xs ss' fs') : AllGd ss' ∧ ss'.length ≤ ss.length + 1 := by
 rcases hl with ⟨rfl, _⟩ | ⟨_, k, hk, rfl, _⟩
 ·exact ⟨h, by omega⟩
 ·have hm : ∀ y ∈ ss, Gd 10 y := fun y hy => by
   obtain ⟨i, hi, rfl⟩ := List.getElem_of_mem hy
   have := h i hi
   rwa [List.getD_eq_getElem?_getD, List.getElem?_eq_getElem hi] at this
  refine ⟨fun i hi => ?_, by simp; omega⟩
  rw [List.getD_eq_getElem?_getD, List.getElem?_eq_getElem hi]
  have hmem := List.getElem_mem hi
  rcases List.mem_append.1 hmem with h1 | h1
  ·exact hm _ (List.mem_of_mem_take h1)
  ·rcases List.mem_cons.1 h1 with h1 | h1
   ·show Gd 10 _
    rw [h1]; exact hx
   ·exact hm _ (List.mem_of_mem_drop h1)
end LabD
end Go.Proofs.YtgipnbeipfhekaaGreatDoor

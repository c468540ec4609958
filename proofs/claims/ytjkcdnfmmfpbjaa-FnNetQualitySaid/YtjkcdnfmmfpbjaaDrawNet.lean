/- A net that is drawn is valid. -/
import Derived.Test.YtjkcdnfmmfpbjaaSrc
import Derived.Test.YtjkcdnfmmfpbjaaRevLaw
namespace Go.Proofs.Ytjkcdnfmmfpbjaa.DrawN
open Go.RowKit Go.Proofs.Ytjkcdnfmmfpbjaa Go.Proofs.Ytjkcdnfmmfpbjaa.Base Go.Proofs.Ytjkcdnfmmfpbjaa.Mem Go.Proofs.Ytjkcdnfmmfpbjaa.Pts Go.Proofs.Ytjkcdnfmmfpbjaa.NetV Go.Proofs.Ytjkcdnfmmfpbjaa.RevNet Go.Proofs.Ytjkcdnfmmfpbjaa.Bits Go.Proofs.Ytjkcdnfmmfpbjaa.Src
set_option linter.unusedVariables false
theorem own_not_net {w : World} {B g : Nat} {e : TypeId} {size n : Nat} {v : Value} {xs : List Value} {bits : Int} {u : Value} (h : w.ownsRow B e size v n xs) (hb : Box w g bits u) (hne : e ≠ 49) : v.ownBlock ≠ some g := fun he => by
  obtain ⟨cur, h1, _⟩ := ownsRow_block h he
  unfold Box at hb
  rw [hb] at h1
  injection h1 with h1
  injection h1 with _ h2
  exact hne h2.symm
theorem ownsRow_setNet {w : World} {B g : Nat} {e : TypeId} {size n : Nat} {v : Value} {xs : List Value} {bits : Int} {u : Value} (h : w.ownsRow B e size v n xs) (hb : Box w g bits u) (hne : e ≠ 49) (i : Nat) (x : Value) : (w.setCell ⟨g, i, none⟩ x).ownsRow B e size v n xs := by
  refine World.ownsRow.kept h (grown_setCell w ⟨g, i, none⟩ x) ?_
  rcases hv : v.ownBlock with _ | q
  · exact .inl rfl
  · refine .inr fun e1 => own_not_net h hb hne ?_
    rw [hv]; exact e1
theorem OwnII.setNet {w : World} {B g : Nat} {v : Value} {xss : List (List Int)} {us : List Value} {bits : Int} {u : Value} (h : OwnII w B v xss us) (hb : Box w g bits u) (i : Nat) (x : Value) : OwnII (w.setCell ⟨g, i, none⟩ x) B v xss us :=
  ⟨h.len, ownsRow_setNet h.outer hb (by decide) i x, fun j hj => ownsRow_setNet (h.inner j hj) hb (by decide) i x, h.apart⟩
theorem OwnII.keptBox {w w' : World} {B g : Nat} {v : Value} {xss : List (List Int)} {us : List Value} {bits : Int} {u : Value} (h : OwnII w B v xss us) (hb : Box w g bits u) (hg : w.grownBy w' (some g)) : OwnII w' B v xss us := by
  have go : ∀ {e : TypeId} {n : Nat} {x : Value} {ys : List Value}, w.ownsRow B e 1 x n ys → e ≠ 49 → w'.ownsRow B e 1 x n ys := fun {e n x ys} hx hne => by
    refine World.ownsRow.kept hx hg ?_
    rcases hv : x.ownBlock with _ | q
    · exact .inl rfl
    · refine .inr fun e1 => own_not_net hx hb hne ?_
      rw [hv]; exact e1
  exact ⟨h.len, go h.outer (by decide), fun j hj => go (h.inner j hj) (by decide), h.apart⟩
theorem Box.set1 {w : World} {g : Nat} {bits : Int} {v : Value} (h : Box w g bits v) (u : Value) : Box (w.setCell ⟨g, 1, none⟩ u) g bits u := by
  unfold Box at *
  simp [World.setCell, Array.getElem?_modify, h]
theorem Box.keptBy {w w' : World} {g p : Nat} {bits : Int} {v : Value} (h : Box w g bits v) (hg : w.grownBy w' (some p)) (hp : p ≠ g) : Box w' g bits v :=
  (hg.block g h.lt fun e => hp (Option.some.inj e).symm).trans h
theorem below_src {B p : Nat} {w w' : World} (hg : w.grownBy w' (some p)) (hB : B ≤ p) (hs : p < w.heap.size) : Below B w w' := grown_below hg (fun g e => by cases e; exact hB) (by omega)
theorem or_low {r m b : Nat} (hr : r < 64) (hm : m ≤ 5) (hb : m < b) : bits .or .i64 ((2 : Int) ^ m) (bits .and .i64 (r : Int) ((2 : Int) ^ m - 1)) = ((2 ^ m ||| (r &&& (2 ^ m - 1)) : Nat) : Int) ∧ 2 ^ m ||| (r &&& (2 ^ m - 1)) < 2 ^ b := by
  have h1 : 2 ^ m ≤ 2 ^ 5 := Nat.pow_le_pow_right (by decide) hm
  have h2 : 0 < 2 ^ m := Nat.two_pow_pos m
  have h3 : r &&& (2 ^ m - 1) ≤ 2 ^ m - 1 := Nat.and_le_right
  have e : (2 : Int) ^ m - 1 = ((2 ^ m - 1 : Nat) : Int) := by rw [Int.ofNat_sub (by omega)]; simp
  have e2 : (2 : Int) ^ m = ((2 ^ m : Nat) : Int) := by simp
  refine ⟨?_, ?_⟩
  · rw [e, i64_and_nat _ _ (by omega) (by omega), e2, i64_or_nat _ _ (by omega) (by omega)]
  · have h4 : 2 ^ (m + 1) ≤ 2 ^ b := Nat.pow_le_pow_right (by decide) hb
    have h5 : 2 ^ (m + 1) = 2 ^ m * 2 := Nat.pow_succ 2 m
    exact Nat.lt_of_lt_of_le (Nat.or_lt_two_pow (show 2 ^ m < 2 ^ (m + 1) by omega) (show r &&& (2 ^ m - 1) < 2 ^ (m + 1) by omega)) h4
/-- blocks of w other than p are as they were -/
structure Beside (p : Nat) (w w' : World) : Prop where
  size : w.heap.size ≤ w'.heap.size
  same : ∀ q, q < w.heap.size → q ≠ p → w'.heap[q]? = w.heap[q]?
theorem Beside.refl (p : Nat) (w : World) : Beside p w w := ⟨Nat.le_refl _, fun _ _ _ => rfl⟩
theorem Beside.trans {p : Nat} {a b c : World} (h : Beside p a b) (k : Beside p b c) : Beside p a c :=
  ⟨Nat.le_trans h.size k.size, fun q h1 h2 => (k.same q (Nat.lt_of_lt_of_le h1 h.size) h2).trans (h.same q h1 h2)⟩
theorem Beside.grown {p : Nat} {w w' : World} (h : w.grownBy w' (some p)) : Beside p w w' := ⟨h.size, fun q h1 h2 => h.block q h1 fun e => h2 (Option.some.inj e)⟩
theorem Beside.below {p : Nat} {w w' : World} (h : Below w.heap.size w w') : Beside p w w' := ⟨h.size, fun q h1 _ => h.block q h1⟩
theorem ownsRow_beside {w w' : World} {B p : Nat} {e : TypeId} {size n : Nat} {v : Value} {xs : List Value} (h : w.ownsRow B e size v n xs) (hp : p < B) (hb : Beside p w w') : w'.ownsRow B e size v n xs :=
  ownsRow_above h fun g h1 h2 => hb.same g h2 (by omega)
theorem OwnII.beside {w w' : World} {B p : Nat} {v : Value} {xss : List (List Int)} {us : List Value} (h : OwnII w B v xss us) (hp : p < B) (hb : Beside p w w') : OwnII w' B v xss us :=
  h.above fun g h1 h2 => hb.same g h2 (by omega)
theorem Box.beside {w w' : World} {g p : Nat} {bits : Int} {v : Value} (h : Box w g bits v) (hp : g ≠ p) (hb : Beside p w w') : Box w' g bits v := (hb.same g h.lt hp).trans h
theorem Box.frz {w : World} {g : Nat} {bits : Int} {v : Value} (h : Box w g bits v) (i : Nat) : w.frozen? ⟨g, i, none⟩ = false := by
  unfold Box at h
  simp [World.frozen?, h]
/-- a list pushed onto lists of the call's own, of a younger block -/
theorem OwnII.push2 {w1 w2 : World} {B C : Nat} {v v' u : Value} {xss : List (List Int)} {us : List Value} {ys : List Int} (h : OwnII w1 B v xss us) (hf : ∀ i g, i < xss.length → (us.getD i undef).ownBlock = some g → g < C)
    (hu : w1.ownsRow C 2 1 u ys.length (ints ys)) (hBC : B ≤ C) (hown : w2.ownsRow B 28 1 v' (xss.length + 1) (us ++ [u])) (hg : w1.grownBy w2 v.ownBlock) :
    OwnII w2 B v' (xss ++ [ys]) (us ++ [u]) := by
  refine ⟨by simp [h.len], by rw [List.length_append]; exact hown, fun i hi => ?_, fun i j g hij hj hg1 hg2 => ?_⟩
  · rw [List.length_append] at hi
    rcases Nat.lt_or_ge i xss.length with hlt | hge
    · have hl : i < us.length := by rw [h.len]; exact hlt
      rw [show (us ++ [u]).getD i undef = us.getD i undef by simp [List.getD, List.getElem?_append_left hl],
        show (xss ++ [ys]).getD i [] = xss.getD i [] by simp [List.getD, List.getElem?_append_left hlt]]
      exact World.ownsRow.kept (h.inner i hlt) hg (own_ne (h.inner i hlt) h.outer (by decide))
    · obtain rfl : i = xss.length := by simp at hi; omega
      rw [show (us ++ [u]).getD xss.length undef = u by simp [List.getD, ← h.len],
        show (xss ++ [ys]).getD xss.length [] = ys by simp [List.getD]]
      exact World.ownsRow.kept (ownsRow_base hu hBC) hg (own_ne hu h.outer (by decide))
  · rw [List.length_append] at hj
    have hlt : i < xss.length := by simp at hj; omega
    have hl : i < us.length := by rw [h.len]; exact hlt
    rw [show (us ++ [u]).getD i undef = us.getD i undef by simp [List.getD, List.getElem?_append_left hl]] at hg1
    rcases Nat.lt_or_ge j xss.length with hj1 | hge
    · have hlj : j < us.length := by rw [h.len]; exact hj1
      rw [show (us ++ [u]).getD j undef = us.getD j undef by simp [List.getD, List.getElem?_append_left hlj]] at hg2
      exact h.apart i j g hij hj1 hg1 hg2
    · obtain rfl : j = xss.length := by simp at hj; omega
      rw [show (us ++ [u]).getD xss.length undef = u by simp [List.getD, ← h.len]] at hg2
      have b1 := hf i g hlt hg1
      obtain ⟨_, _, b2, _⟩ := ownsRow_block hu hg2
      omega
/-- the outer loop: the matrices so far -/
def DRel (p B0 K b sides g0 g : Nat) (w : World) (i : Value) (wr : World) : Prop :=
  ∃ (k : Nat) (A : Option Addr) (c : Nat) (xss : List (List Int)) (us : List Value), k ≤ sides ∧ i = .int .i64 (k : Int) ∧ xss.length = k ∧ Hid (∀ d, d < k → rowB b b (xss.getD d []) = true) ∧
    OwnII wr w.heap.size (.slice A k c) xss us ∧ Box wr g b (.slice A k c) ∧ Box wr g0 0 (.slice none 0 0) ∧ Src wr p (K + k * (2 * b + 2)) ∧ Below B0 w wr
/-- the inner loop: the rows so far -/
def ERel (p B0 K b : Nat) (w : World) (v i : Value) (wr : World) : Prop :=
  ∃ (k : Nat) (xs : List Int), k ≤ b ∧ i = .int .i64 (k : Int) ∧ xs.length = k ∧ Hid (∀ d, d < k → 0 ≤ xs.getD d 0 ∧ xs.getD d 0 ≤ (2 : Int) ^ b - 1) ∧
    OwnI wr w.heap.size v xs ∧ Src wr p (K + k * 2) ∧ Beside p w wr ∧ Below B0 w wr
theorem ERel.next {p B0 K b j X : Nat} {xs : List Int} {w wp w2 w3 : World} {v v' : Value} {o : Obj} (hB : B0 ≤ p) (hp : p < w.heap.size) (hj : j < b) (hxl : xs.length = j) (hin : ∀ d, d < j → 0 ≤ xs.getD d 0 ∧ xs.getD d 0 ≤ (2 : Int) ^ b - 1)
    (hO : OwnI wp w.heap.size v xs) (hS : Src w2 p (K + j * 2 + 2)) (hg : wp.grownBy w2 (some p)) (hbs : Beside p w wp) (hbl : Below B0 w wp) (hX : X < 2 ^ b)
    (hown : w3.ownsRow w.heap.size 2 1 v' (j + 1) (ints xs ++ [.int .i64 (X : Nat)])) (hg3 : (w2.alloc o).grownBy w3 v.ownBlock) :
    ERel p B0 K b w v' (.int .i64 ((j : Int) + 1)) w3 := by
  have hB2 : Beside p w (w2.alloc o) := (hbs.trans (Beside.grown hg)).trans (Beside.below ((Below.refl _ _).alloc (Nat.le_refl _) o))
  have hrow : ∀ g, v.ownBlock = some g → w.heap.size ≤ g := fun g he => by
    obtain ⟨_, _, h3, _⟩ := ownsRow_block hO he
    exact h3
  have hw2 : w.heap.size ≤ w2.heap.size := Nat.le_trans hbs.size hg.size
  refine ⟨j + 1, xs ++ [((X : Nat) : Int)], hj, by simp, by simp [hxl], Lib.hid fun d hd => ?_, ?_, ?_, ⟨Nat.le_trans hB2.size hg3.size, fun q h1 h2 => ?_⟩, ?_⟩
  · rcases Nat.lt_or_ge d j with h | h
    · rw [show (xs ++ [((X : Nat) : Int)]).getD d 0 = xs.getD d 0 by simp [List.getD, List.getElem?_append_left (show d < xs.length by omega)]]
      exact hin d h
    · obtain rfl : d = j := by omega
      rw [show (xs ++ [((X : Nat) : Int)]).getD d 0 = X by simp [List.getD, ← hxl]]
      have : ((2 ^ b : Nat) : Int) = (2 : Int) ^ b := by simp
      omega
  · unfold OwnI
    rw [List.length_append, hxl, show ints (xs ++ [((X : Nat) : Int)]) = ints xs ++ [.int .i64 ((X : Nat) : Int)] by simp [ints]]
    exact hown
  · have h1 := hS.below ((Below.refl _ _).alloc (Nat.le_refl _) o)
    have h2 := h1.kept hg3 (fun g he => by have := hrow g he; omega)
    exact h2.more (by omega)
  · refine (hg3.block q (Nat.lt_of_lt_of_le h1 hB2.size) fun e => ?_).trans (hB2.same q h1 h2)
    have := hrow q e.symm
    omega
  · have h1 : Below B0 w2 (w2.alloc o) := (Below.refl _ _).alloc (by omega) o
    exact ((hbl.trans (below_src hg hB (by have := hbs.size; omega))).trans h1).trans (grown_below hg3 (fun g he => by have := hrow g he; omega) (by simp; omega))
theorem Box.keptRow {w w' : World} {g : Nat} {bits : Int} {v : Value} {row : Option Nat} (h : Box w g bits v) (hg : w.grownBy w' row) (hr : row ≠ some g) : Box w' g bits v := (hg.block g h.lt fun e => hr e.symm).trans h
theorem DRel.next {p B0 K L b sides k c g0 g : Nat} {A : Option Addr} {xs : List Int} {xss : List (List Int)} {us : List Value} {w wo wp w3 : World} {v' u : Value} (hB : B0 ≤ p) (hp : p < w.heap.size) (hk : k < sides) (hlen : xss.length = k) (hall : ∀ d, d < k → rowB b b (xss.getD d []) = true)
    (hO : OwnII wo w.heap.size (.slice A k c) xss us) (hbx : Box wo g b (.slice A k c)) (hb0 : Box wo g0 0 (.slice none 0 0)) (hg0 : w.heap.size ≤ g0) (hgg : g0 < g) (hbl : Below B0 w wo) (hbs : Beside p wo wp) (hbl2 : Below B0 wo wp)
    (ho : OwnI wp wo.heap.size u xs) (hrow : rowB b b xs = true) (hS : Src wp p L) (hL : L ≤ K + (k + 1) * (2 * b + 2))
    (hown : w3.ownsRow w.heap.size 28 1 v' (k + 1) (us ++ [u])) (hg3 : (wp.alloc (.cells #[u] 28)).grownBy w3 (Value.slice A k c).ownBlock) :
    DRel p B0 K b sides g0 g w (.int .i64 ((k : Int) + 1)) (w3.setCell ⟨g, 1, none⟩ v') := by
  have hzo := hbl.size
  have ba : Below wp.heap.size wp (wp.alloc (.cells #[u] 28)) := (Below.refl _ _).alloc (Nat.le_refl _) _
  have o1 := (OwnII.beside hO hp hbs).below ba
  have hrowlt : ∀ q, (Value.slice A k c).ownBlock = some q → w.heap.size ≤ q := fun q he => by
    obtain ⟨_, _, h3, _⟩ := ownsRow_block hO.outer he
    exact h3
  have o2 : OwnII w3 w.heap.size v' (xss ++ [xs]) (us ++ [u]) := OwnII.push2 (C := wo.heap.size) o1 (fun i q hi hq => hO.fits i q hi hq) (World.ownsRow.alloc ho _) hzo (by rw [hlen]; exact hown) hg3
  have x1 := (Box.beside hbx (by omega) hbs).below ba
  have x0 := (Box.beside hb0 (by omega) hbs).below ba
  have n1 := own_not_net o1.outer x1 (by decide)
  have n0 := own_not_net o1.outer x0 (by decide)
  have y1 := Box.keptRow x1 hg3 n1
  have y0 := Box.keptRow x0 hg3 n0
  have z0 : Box (w3.setCell ⟨g, 1, none⟩ v') g0 0 (.slice none 0 0) := Box.keptRow y0 (grown_setCell w3 ⟨g, 1, none⟩ v') (fun e => by have := Option.some.inj e; simp only at this; omega)
  obtain ⟨A', c', e', _⟩ := o2.form
  have hl2 : (xss ++ [xs]).length = k + 1 := by simp [hlen]
  rw [hl2] at e'
  subst e'
  have s1 := (hS.below ba).kept hg3 (fun q he => by have := hrowlt q he; omega)
  have s2 := s1.kept (grown_setCell w3 ⟨g, 1, none⟩ (.slice A' (k + 1) c')) (fun q he => by have := Option.some.inj he; simp only at this; omega)
  refine ⟨k + 1, A', c', xss ++ [xs], us ++ [u], hk, by simp, hl2, Lib.hid fun d hd => ?_, OwnII.setNet o2 y1 1 _, Box.set1 y1 _, z0, s2.more hL, ?_⟩
  · rcases Nat.lt_or_ge d k with h | h
    · rw [show (xss ++ [xs]).getD d [] = xss.getD d [] by simp [List.getD, List.getElem?_append_left (show d < xss.length by omega)]]
      exact hall d h
    · obtain rfl : d = k := by omega
      rw [show (xss ++ [xs]).getD d [] = xs by simp [List.getD, ← hlen]]
      exact hrow
  · have b1 := (hbl.trans hbl2).trans (ba.mono (show B0 ≤ wp.heap.size by have := hbs.size; omega))
    have b2 := grown_below hg3 (fun q he => show B0 ≤ q by have := hrowlt q he; omega) (by have := hbs.size; simp; omega)
    exact (b1.trans b2).setCell (show B0 ≤ g by omega) _
/-- a net that is valid, drawn -/
def NetRet (p B0 K b sides : Nat) (w : World) (e : Ending) (w' : World) : Prop :=
  ∃ (A : Option Addr) (c : Nat) (xss : List (List Int)) (us : List Value), e = .returned (.agg #[.int .i64 (b : Int), .slice A xss.length c]) ∧ xss.length = sides ∧ (∀ d, d < sides → rowB b b (xss.getD d []) = true) ∧
    OwnII w' w.heap.size (.slice A xss.length c) xss us ∧ Src w' p (K + sides * (2 * b + 2)) ∧ Below B0 w w'
set_option maxHeartbeats 2000000 in
set_option maxRecDepth 100000 in
theorem drawSized_any (p B0 K b sides : Nat) (w : World) (h : Src w p K) (hB : B0 ≤ p) (hb : b ≤ 6) (hs : sides ≤ 4) (hK : K ≤ 1000000) :
    Calls Try.prog 57 #[.pointer (some ⟨p, 0, none⟩), .int .i64 (b : Int), .int .i64 (sides : Int)] w (NetRet p B0 K b sides w) := by
  obtain ⟨i0, hi, hz0, hz1, hz2⟩ := info_parts infoI
  obtain ⟨i1, ji, jz0, jz1, jz2⟩ := info_parts infoS
  obtain ⟨p1, p2⟩ := pw_bd6 hb
  have hpl := h.lt
  have HS := Lib.hid h
  clear h
  go_enter Try.func57, Try.ntmps57
  go_wp2_with fail
  have H0 : Hid (DRel p B0 K b sides w.heap.size (w.heap.size + 1 + 1) w (.int .i64 0) (((w.alloc (.cells #[.int .i64 0, .slice none 0 0] 49)).alloc (.cells #[] 28)).alloc (.cells #[.int .i64 (b : Int), .slice (some ⟨w.heap.size + 1, 0, none⟩) 0 0] 49))) := Lib.hid (by
    have b1 := (Below.refl w.heap.size w).alloc (Nat.le_refl _) (.cells #[.int .i64 0, .slice none 0 0] 49)
    have b2 := b1.alloc (by simp) (.cells #[] 28)
    have b3 := b2.alloc (by simp; omega) (.cells #[.int .i64 (b : Int), .slice (some ⟨w.heap.size + 1, 0, none⟩) 0 0] 49)
    have o := OwnII.lit0 (B := w.heap.size) (w.alloc (.cells #[.int .i64 0, .slice none 0 0] 49)) (by simp) #[] rfl
    have o2 := o.below ((Below.refl _ _).alloc (Nat.le_refl _) (.cells #[.int .i64 (b : Int), .slice (some ⟨w.heap.size + 1, 0, none⟩) 0 0] 49))
    have k1 := RevNet.Box.new ((w.alloc (.cells #[.int .i64 0, .slice none 0 0] 49)).alloc (.cells #[] 28)) (b : Int) (.slice (some ⟨w.heap.size + 1, 0, none⟩) 0 0)
    have k0 := RevNet.Box.new w 0 (.slice none 0 0)
    have k2 := (k0.below ((Below.refl _ _).alloc (Nat.le_refl _) (.cells #[] 28))).below ((Below.refl _ _).alloc (Nat.le_refl _) (.cells #[.int .i64 (b : Int), .slice (some ⟨w.heap.size + 1, 0, none⟩) 0 0] 49))
    simp only [World.size_alloc] at o2 k1
    exact ⟨0, _, _, [], [], Nat.zero_le _, rfl, rfl, Lib.hid fun d hd => absurd hd (Nat.not_lt_zero d), o2, k1, k2, by simpa using HS.out.below b3, b3.mono (by omega)⟩)
  go_loopw [8] (fun i wr => DRel p B0 K b sides w.heap.size (w.heap.size + 1 + 1) w i wr) (fun i _ => sides - (intOf i).toNat)
  case atStart => exact H0.out
  case round =>
    obtain ⟨k, A, c, xss, us, hk, rfl, hlen, hall, hO, hbx, hb0, hsrc, hbl⟩ := hrel
    obtain ⟨wo, rfl⟩ : ∃ x, x = wr := ⟨_, rfl⟩
    have HO := Lib.hid hO
    have HBx := Lib.hid hbx
    have HB0 := Lib.hid hb0
    have HBl := Lib.hid hbl
    have HLen := Lib.hid hlen
    have hzo := hbl.size
    have hpo := hsrc.lt
    have hKk : k * (2 * b + 2) ≤ 4 * 14 := Nat.mul_le_mul (by omega) (by omega)
    by_cases hlt : k < sides
    · have hcell := hbx.c1
      have hzg := hbx.lt
      have b1 : Below wo.heap.size wo (wo.alloc (.cells #[] 2)) := (Below.refl _ _).alloc (Nat.le_refl _) _
      have HPick := Lib.hid (pick_any p (K + k * (2 * b + 2)) 3 (wo.alloc (.cells #[] 2)) (hsrc.below b1) (by omega))
      have HB1 := Lib.hid b1
      clear hO hbx hb0 hbl hlen hsrc b1 hcell
      go_wp2_with fail
      refine HPick.out.mono ?_
      rintro e w1 ⟨kind, rfl, hkind, s1, g1⟩
      have HER : Hid (ERel p B0 (K + k * (2 * b + 2) + 2) b wo (.slice (some ⟨wo.heap.size, 0, none⟩) 0 0) (.int .i64 0) w1) := Lib.hid (by
        have o := own_lit wo (Nat.le_refl wo.heap.size) [] (by simp)
        have o1 : OwnI (wo.alloc (.cells #[] 2)) wo.heap.size (.slice (some ⟨wo.heap.size, 0, none⟩) 0 0) [] := o
        refine ⟨0, [], Nat.zero_le _, rfl, rfl, Lib.hid fun d hd => absurd hd (Nat.not_lt_zero d), ownsRow_beside o1 hpo (Beside.grown g1), by simpa using s1, (Beside.below HB1.out).trans (Beside.grown g1), ?_⟩
        exact (HB1.out.mono (by omega)).trans (below_src g1 hB (by simp; omega)))
      clear s1 g1
      go_wp2_with fail
      go_loopw [9, 11] (fun v i wr => ERel p B0 (K + k * (2 * b + 2) + 2) b wo v i wr) (fun _ i _ => b - (intOf i).toNat)
      case atStart => exact HER.out
      case round =>
        obtain ⟨j, xs, hj, rfl, hxl, hin, hO, hsrc, hbs, hbl⟩ := hrel
        obtain ⟨wp, rfl⟩ : ∃ x, x = wr := ⟨_, rfl⟩
        have HO2 := Lib.hid hO
        have HXl := Lib.hid hxl
        have HBs := Lib.hid hbs
        have HBl2 := Lib.hid hbl
        have hzp := hbs.size
        have hpp := hsrc.lt
        have HSr := Lib.hid hsrc
        clear hO hxl hbs hbl
        by_cases hjt : j < b
        · obtain ⟨t1, t2⟩ := pw_bd6 (b := j) (by omega)
          have hep : ((2 ^ b : Nat) : Int) = (2 : Int) ^ b := by simp
          have HPick2 := Lib.hid (pick_any p (K + k * (2 * b + 2) + 2 + j * 2) ((2 : Int) ^ b) wp hsrc (by omega))
          have HEp := Lib.hid hep
          clear hsrc hep
          go_wp2_with fail
          refine HPick2.out.mono ?_
          rintro e w2 ⟨r, rfl, hr, s2, g2⟩
          have HS2 := Lib.hid s2
          have HG2 := Lib.hid g2
          have hr64 : r < 2 ^ b := by have := HEp.out; have := Nat.two_pow_pos b; omega
          have hzw := g2.size
          clear s2 g2 hr
          have HNx := Lib.hid (fun (X : Nat) v v' o w3 hO hX h1 h2 => ERel.next (p := p) (B0 := B0) (K := K + k * (2 * b + 2) + 2) (v := v) (v' := v') (w := wo) (w3 := w3) (o := o) hB hpo hjt HXl.out hin.out hO HS2.out HG2.out HBs.out HBl2.out (X := X) hX h1 h2)
          have hO4 := ownsRow_beside HO2.out (by omega) (Beside.grown HG2.out)
          have HO4 := Lib.hid hO4
          have HLx := HXl.out
          rw [HLx] at HO4
          clear hO4 HLx
          have hk3 : kind = 0 ∨ kind = 1 ∨ (kind ≠ 0 ∧ kind ≠ 1) := by omega
          have hpw : 2 ^ b ≤ 2 ^ 6 := Nat.pow_le_pow_right (by decide) hb
          rcases hk3 with hk0 | hk1 | ⟨hk0, hk1⟩
          · have hX : 2 ^ j < 2 ^ b := Nat.pow_lt_pow_right (by decide) hjt
            have kb0 : ((kind : Int) == 0) = true := beq_iff_eq.2 (by omega)
            have kb1 : ((kind : Int) == 1) = false := beq_eq_false_iff_ne.2 (by omega)
            clear hk0
            have HW := Lib.hid (World.ownsRow.alloc HO4.out (.cells #[.int .i64 ((2 : Int) ^ j)] 2))
            go_wp2_with (at_builtin; refine wpList_append_own_at _ rfl (.tmp 57) (.tmp 59) 28 rfl wo.heap.size 2 i0 (.int .i64 0) 1 8 Try.underlying28 hi hz0 hz1 hz2 rfl (by decide) _ _ _ rfl HW.out ⟨w2.heap.size, 0, none⟩ 1 1 [.int .i64 ((2 : Int) ^ j)] rfl rfl ?p1a ?p2a ?p3a ?p4a ?p5a ?_)
            try case p1a => exact news_one _ _ _ (by simp)
            try case p2a => first | exact one_int | rfl | simp
            try case p3a => first | (simp only [maxLen]; omega) | omega
            try case p4a => omega
            try case p5a => first | (simp only [World.size_alloc]; omega) | omega
            intro v' w3 hown' hg' _ he
            have HN2 := Lib.hid (HNx.out (2 ^ j) _ v' _ w3 HO2.out hX (by rw [show ((2 ^ j : Nat) : Int) = (2 : Int) ^ j by simp]; exact hown') hg')
            clear hown' hg' he
            go_wp2
            go_roundw
            case rel => exact HN2.out
            case measure => simp [intOf]; omega
          · obtain ⟨o1, o2⟩ := or_low (r := r) (m := b - 1 - j) (b := b) (by omega) (by omega) (by omega)
            have hX := o2
            have HO1 := Lib.hid o1
            have kb0 : ((kind : Int) == 0) = false := beq_eq_false_iff_ne.2 (by omega)
            have kb1 : ((kind : Int) == 1) = true := beq_iff_eq.2 (by omega)
            clear hk1
            obtain ⟨m1, m2⟩ := pw_bd6 (b := b - 1 - j) (by omega)
            have hcm : ((b - 1 - j : Nat) : Int) = (b : Int) - 1 - j := by omega
            clear o1 o2
            have HW := Lib.hid (World.ownsRow.alloc HO4.out (.cells #[.int .i64 (bits .or .i64 ((2 : Int) ^ (b - 1 - j)) (bits .and .i64 (r : Int) ((2 : Int) ^ (b - 1 - j) - 1)))] 2))
            go_wp2_with (at_builtin; refine wpList_append_own_at _ rfl (.tmp 57) (.tmp 59) 28 rfl wo.heap.size 2 i0 (.int .i64 0) 1 8 Try.underlying28 hi hz0 hz1 hz2 rfl (by decide) _ _ _ rfl HW.out ⟨w2.heap.size, 0, none⟩ 1 1 [.int .i64 (bits .or .i64 ((2 : Int) ^ (b - 1 - j)) (bits .and .i64 (r : Int) ((2 : Int) ^ (b - 1 - j) - 1)))] rfl rfl ?p1b ?p2b ?p3b ?p4b ?p5b ?_)
            try case p1b => exact news_one _ _ _ (by simp)
            try case p2b => first | exact one_int | rfl | simp
            try case p3b => first | (simp only [maxLen]; omega) | omega
            try case p4b => omega
            try case p5b => first | (simp only [World.size_alloc]; omega) | omega
            intro v' w3 hown' hg' _ he
            have HN2 := Lib.hid (HNx.out (2 ^ (b - 1 - j) ||| (r &&& (2 ^ (b - 1 - j) - 1))) _ v' _ w3 HO2.out hX (by rw [← HO1.out]; exact hown') hg')
            clear hown' hg' he
            go_wp2
            go_roundw
            case rel => exact HN2.out
            case measure => simp [intOf]; omega
          · have hX := hr64
            have kb0 : ((kind : Int) == 0) = false := beq_eq_false_iff_ne.2 (by omega)
            have kb1 : ((kind : Int) == 1) = false := beq_eq_false_iff_ne.2 (by omega)
            have HW := Lib.hid (World.ownsRow.alloc HO4.out (.cells #[.int .i64 ((r : Int))] 2))
            go_wp2_with (at_builtin; refine wpList_append_own_at _ rfl (.tmp 57) (.tmp 59) 28 rfl wo.heap.size 2 i0 (.int .i64 0) 1 8 Try.underlying28 hi hz0 hz1 hz2 rfl (by decide) _ _ _ rfl HW.out ⟨w2.heap.size, 0, none⟩ 1 1 [.int .i64 ((r : Int))] rfl rfl ?p1c ?p2c ?p3c ?p4c ?p5c ?_)
            try case p1c => exact news_one _ _ _ (by simp)
            try case p2c => first | exact one_int | rfl | simp
            try case p3c => first | (simp only [maxLen]; omega) | omega
            try case p4c => omega
            try case p5c => first | (simp only [World.size_alloc]; omega) | omega
            intro v' w3 hown' hg' _ he
            have HN2 := Lib.hid (HNx.out (r) _ v' _ w3 HO2.out hX (by exact hown') hg')
            clear hown' hg' he
            go_wp2
            go_roundw
            case rel => exact HN2.out
            case measure => simp [intOf]; omega
        · obtain rfl : j = b := by omega
          have hrow : rowB j j xs = true := by
            unfold rowB
            rw [beq_iff_eq.2 HXl.out, AllIn.allInB_of fun i hi => inR_yes (hin.out i (by rw [HXl.out] at hi; exact hi))]
            rfl
          have hbox := (Box.beside HBx.out (by omega) HBs.out).c1
          have hboxf := Box.frz (Box.beside HBx.out (by omega) HBs.out) 1
          have hO2 := HO2.out
          obtain ⟨A2, c2, e2, _⟩ := OwnI.form hO2
          subst e2
          have hO3 := ownsRow_beside HO.out.outer hpl ((Beside.refl p wo).trans HBs.out)
          have hown := World.ownsRow.alloc hO3 (.cells #[.slice A2 xs.length c2] 28)
          rw [HLen.out] at hown
          have HW := Lib.hid hown
          have HRow := Lib.hid hrow
          have hzg := (Box.beside HBx.out (by omega) HBs.out).lt
          clear hO2 hO3 hown hrow hsrc
          go_wp2_with (at_builtin; refine wpList_append_own_at _ rfl (.tmp 62) (.tmp 64) 42 rfl w.heap.size 28 i1 (.slice none 0 0) 1 24 Try.underlying42 ji jz0 jz1 jz2 rfl (by decide) _ _ _ rfl HW.out ⟨wp.heap.size, 0, none⟩ 1 1 [.slice A2 xs.length c2] rfl rfl ?p1d ?p2d ?p3d ?p4d ?p5d ?_)
          try case p1d => exact news_one _ _ _ (by simp)
          try case p2d => first | exact one_slice | rfl | simp
          try case p3d => first | (simp only [maxLen]; omega) | omega
          try case p4d => omega
          try case p5d => first | (simp only [World.size_alloc]; omega) | omega
          intro v' w3 hown' hg' _ he
          obtain ⟨A3, c3, e3, _⟩ := ownsRow_form hown'
          subst e3
          have HNx := Lib.hid (DRel.next (K := K) (B0 := B0) (b := j) (w3 := w3) hB hpl hlt HLen.out hall.out HO.out HBx.out HB0.out (Nat.le_refl _) (by omega) HBl.out HBs.out HBl2.out HO2.out HRow.out HSr.out (by
            have e : (k + 1) * (2 * j + 2) = k * (2 * j + 2) + (2 * j + 2) := by rw [Nat.add_mul, Nat.one_mul]
            omega) hown' hg')
          have q1 : w3.cell? ⟨w.heap.size + 1 + 1, 1, none⟩ = some (.slice A k c) := by
            have y1 := Box.keptRow ((Box.beside HBx.out (by omega) HBs.out).below ((Below.refl _ _).alloc (Nat.le_refl _) (.cells #[.slice A2 xs.length c2] 28))) hg' (own_not_net ((OwnII.beside HO.out hpl HBs.out).below ((Below.refl _ _).alloc (Nat.le_refl _) (.cells #[.slice A2 xs.length c2] 28))).outer ((Box.beside HBx.out (by omega) HBs.out).below ((Below.refl _ _).alloc (Nat.le_refl _) (.cells #[.slice A2 xs.length c2] 28))) (by decide))
            exact y1.c1
          have q2 : w3.frozen? ⟨w.heap.size + 1 + 1, 1, none⟩ = false := by
            have y1 := Box.keptRow ((Box.beside HBx.out (by omega) HBs.out).below ((Below.refl _ _).alloc (Nat.le_refl _) (.cells #[.slice A2 xs.length c2] 28))) hg' (own_not_net ((OwnII.beside HO.out hpl HBs.out).below ((Below.refl _ _).alloc (Nat.le_refl _) (.cells #[.slice A2 xs.length c2] 28))).outer ((Box.beside HBx.out (by omega) HBs.out).below ((Below.refl _ _).alloc (Nat.le_refl _) (.cells #[.slice A2 xs.length c2] 28))) (by decide))
            exact Box.frz y1 1
          clear hown' hg' he hbox hboxf
          go_wp2
          go_roundw
          case rel => exact HNx.out
          case measure => simp [intOf]; omega
    · obtain rfl : k = sides := by omega
      have k1 := HBx.out.c0
      have k2 := HBx.out.c1
      have k3 := HB0.out.c0
      have k4 := HB0.out.c1
      have k5 := Box.frz HB0.out 0
      have k6 := Box.frz HB0.out 1
      have hz7 := HB0.out.lt
      have hz8 := HBx.out.lt
      have HS2 := Lib.hid hsrc
      clear hO hbx hb0 hbl hsrc hlen
      go_wp2
      refine bodyPost_ret (v := .agg #[.int .i64 (b : Int), .slice A k c]) (by simp [results, Try.results57, go_sem, k3, k4]) rfl ?_
      have hg := grown_trans (grown_setCell wo ⟨w.heap.size, 0, none⟩ (.int .i64 (b : Int))) (grown_setCell _ ⟨w.heap.size, 1, none⟩ (.slice A k c))
      refine ⟨A, c, xss, us, by rw [HLen.out], HLen.out, hall.out, ?_, HS2.out.kept hg (fun q he => by cases he; exact hpl), (HBl.out.setCell (show B0 ≤ w.heap.size by omega) _).setCell (show B0 ≤ w.heap.size by omega) _⟩
      rw [HLen.out]
      exact OwnII.keptBox HO.out HB0.out hg
end Go.Proofs.Ytjkcdnfmmfpbjaa.DrawN

/- Sorting by insertion; the keys of a map, sorted; the pages that a cache holds; what stays true of a cache while the power is there. -/
import Derived.Test.YtfapgccnhonoiaaGreatMe

/- Sorting whole numbers by insertion: what it needs, without a program. -/
namespace Go.Proofs.YtfapgccnhonoiaaGreat

def ints (l : List Int) : List Value := l.map i64

theorem ints_len (l : List Int) : (ints l).length = l.length := List.length_map _
theorem ints_get (l : List Int) (i : Nat) : (ints l)[i]? = l[i]?.map i64 := List.getElem?_map
theorem ints_set (l : List Int) (i : Nat) (x : Int) : (ints l).set i (i64 x) = ints (l.set i x) := by simp [ints, List.map_set]

theorem perm_swap (l : List Int) (i j : Nat) (x y : Int) (hi : l[i]? = some x) (hj : l[j]? = some y) : ((l.set i y).set j x).Perm l := by
  obtain ⟨h1, e1⟩ := List.getElem?_eq_some_iff.1 hi
  obtain ⟨h2, e2⟩ := List.getElem?_eq_some_iff.1 hj
  have := Array.swap_perm (xs := l.toArray) (i := i) (j := j) (by simpa using h1) (by simpa using h2)
  rw [Array.perm_iff_toList_perm] at this
  simpa [Array.swap, e1, e2] using this

/-- An order: of two not each is ahead of the other; not being ahead goes on. -/
structure Way (lt : Int → Int → Bool) (S : Int → Prop) : Prop where
  asym : ∀ x y, S x → S y → lt x y = true → lt y x = false
  trans : ∀ x y z, S x → S y → S z → lt y x = false → lt z y = false → lt z x = false

def SortedBut (lt : Int → Int → Bool) (l : List Int) (i j : Nat) : Prop := ∀ a c x y, a < c → c ≤ i → c ≠ j → l[a]? = some x → l[c]? = some y → lt y x = false
def SortedTo (lt : Int → Int → Bool) (l : List Int) (i : Nat) : Prop := ∀ a c x y, a < c → c < i → l[a]? = some x → l[c]? = some y → lt y x = false

theorem SortedTo.but {lt : Int → Int → Bool} {l : List Int} {i : Nat} (h : SortedTo lt l i) : SortedBut lt l i i := fun a c x y h1 h2 h3 hx hy => h a c x y h1 (by omega) hx hy

theorem SortedBut.zero {lt : Int → Int → Bool} {l : List Int} {i : Nat} (h : SortedBut lt l i 0) : SortedTo lt l (i + 1) := fun a c x y h1 h2 hx hy => h a c x y h1 (by omega) (by omega) hx hy

theorem SortedBut.stop {lt : Int → Int → Bool} {S : Int → Prop} (w : Way lt S) {l : List Int} (hS : ∀ x ∈ l, S x) {i j : Nat} (h : SortedBut lt l i j) (hj : 0 < j) (hji : j ≤ i) {u v : Int} (hu : l[j]? = some u) (hv : l[j - 1]? = some v) (hn : lt u v = false) : SortedTo lt l (i + 1) := by
  intro a c x y h1 h2 hx hy
  by_cases hc : c = j
  · subst hc
    rw [hu] at hy
    cases hy
    by_cases ha : a = c - 1
    · rw [ha, hv] at hx; cases hx; exact hn
    · have h3 := h a (c - 1) x v (by omega) (by omega) (by omega) hx hv
      exact w.trans x v u (hS _ (List.mem_of_getElem? hx)) (hS _ (List.mem_of_getElem? hv)) (hS _ (List.mem_of_getElem? hu)) h3 hn
  · exact h a c x y h1 (by omega) hc hx hy

theorem SortedBut.swap {lt : Int → Int → Bool} {S : Int → Prop} (w : Way lt S) {l : List Int} (hS : ∀ x ∈ l, S x) {i j : Nat} (h : SortedBut lt l i j) (hj : 0 < j) (hji : j ≤ i) {u v : Int} (hu : l[j]? = some u) (hv : l[j - 1]? = some v) (hn : lt u v = true) : SortedBut lt ((l.set j v).set (j - 1) u) i (j - 1) := by
  obtain ⟨lj, _⟩ := List.getElem?_eq_some_iff.1 hu
  have g : ∀ k, ((l.set j v).set (j - 1) u)[k]? = if k = j - 1 then some u else if k = j then some v else l[k]? := by
    intro k
    rw [List.getElem?_set, List.getElem?_set]
    by_cases h1 : j - 1 = k
    · rw [if_pos h1, if_pos h1.symm, if_pos (by rw [List.length_set]; omega)]
    · rw [if_neg h1, if_neg (show ¬ k = j - 1 from fun e => h1 e.symm)]
      by_cases h2 : j = k
      · rw [if_pos h2, if_pos h2.symm, if_pos (by omega)]
      · rw [if_neg h2, if_neg (show ¬ k = j from fun e => h2 e.symm)]
  intro a c x y h1 h2 h3 hx hy
  rw [g] at hx hy
  rw [if_neg h3] at hy
  by_cases hc : c = j
  · subst hc
    rw [if_pos rfl] at hy
    cases hy
    by_cases ha : a = c - 1
    · rw [if_pos ha] at hx
      cases hx
      exact w.asym _ _ (hS _ (List.mem_of_getElem? hu)) (hS _ (List.mem_of_getElem? hv)) hn
    · rw [if_neg ha, if_neg (by omega)] at hx
      exact h a (c - 1) x v (by omega) (by omega) (by omega) hx hv
  · rw [if_neg hc] at hy
    by_cases ha : a = j - 1
    · rw [if_pos ha] at hx
      cases hx
      exact h j c u y (by omega) h2 hc hu hy
    · rw [if_neg ha] at hx
      by_cases ha2 : a = j
      · rw [if_pos ha2] at hx
        cases hx
        exact h (j - 1) c v y (by omega) h2 hc hv hy
      · rw [if_neg ha2] at hx
        exact h a c x y h1 h2 hc hx hy

theorem SortedTo.pair {lt : Int → Int → Bool} {l : List Int} (h : SortedTo lt l l.length) : l.Pairwise fun x y => lt y x = false := by
  rw [List.pairwise_iff_getElem]
  intro i j hi hj hij
  exact h i j _ _ hij hj (by simp [hi]) (by simp [hj])

/-- A block of whole numbers, and what stands behind. -/
theorem blk_cell {h : Heap} {b : Nat} {l : List Int} {x : List Value} (hb : Blk h b (ints l ++ x)) {i : Nat} {n : Int} (hi : l[i]? = some n) : cellAt h ⟨b, i, none⟩ = some (i64 n) := by
  refine hb.cell ?_
  obtain ⟨h1, _⟩ := List.getElem?_eq_some_iff.1 hi
  rw [List.getElem?_append_left (by rw [ints_len]; exact h1), ints_get, hi]
  rfl

theorem blk_okAt {h : Heap} {b : Nat} {l : List Int} {x : List Value} (hb : Blk h b (ints l ++ x)) {i : Nat} (hi : i < l.length) : okAt h ⟨b, i, none⟩ :=
  hb.ok (by rw [List.length_append, ints_len]; omega)

theorem blk_upd {h : Heap} {b : Nat} {l : List Int} {x : List Value} (hb : Blk h b (ints l ++ x)) {i : Nat} (hi : i < l.length) (n : Int) : Blk (upd h ⟨b, i, none⟩ (i64 n)) b (ints (l.set i n) ++ x) := by
  have := hb.upd i (i64 n)
  rwa [List.set_append_left _ _ (by rw [ints_len]; exact hi), ints_set] at this

theorem w64 (n : Int) (h0 : -9223372036854775808 ≤ n) (h1 : n < 9223372036854775808) : IntKind.wrap .i64 n = n := IntWalk.i64_in n ⟨by omega, by omega⟩

end Go.Proofs.YtfapgccnhonoiaaGreat

/- Insertion sort, as the library has it, in order and by a function. -/
namespace Go.Proofs.YtfapgccnhonoiaaGreat

theorem isNaN_ok (h : Heap) (x : Int) : CallH Tryz.prog 114 ⟨[i64 x]⟩ h fun v h' => v = .bool false ∧ h' = h := by
  refine isNaN_call x ?_
  unfold isNaN_vc
  simp

theorem cmpLess_ok (h : Heap) (x y : Int) : CallH Tryz.prog 103 ⟨[i64 x, i64 y]⟩ h fun v h' => v = .bool (decide (x < y)) ∧ h' = h := by
  refine cmpLess_call x y ⟨by kernel_rfl, (isNaN_ok h x).mono ?_⟩
  rintro _ _ ⟨rfl, rfl⟩
  exact ⟨false, rfl, nofun, fun _ => ⟨rfl, rfl⟩⟩

def ltO (x y : Int) : Bool := decide (x < y)

theorem wayO : Way ltO fun _ => True :=
  ⟨fun x y _ _ h => by simp only [ltO, decide_eq_true_eq, decide_eq_false_iff_not] at *; omega, fun x y z _ _ _ h1 h2 => by simp only [ltO, decide_eq_false_iff_not] at *; omega⟩

section
variable {h : Heap} {b : Nat} {l : List Int} {x : List Value}

/-- What a sort leaves. -/
def SortPost (lt : Int → Int → Bool) (h : Heap) (b : Nat) (l : List Int) (x : List Value) (h' : Heap) : Prop :=
  ∃ l', l'.Perm l ∧ l'.Pairwise (fun x y => lt y x = false) ∧ Blk h' b (ints l' ++ x) ∧ Keep h h' [b]

theorem insO_ok (cap : Nat) (hb : Blk h b (ints l ++ x)) (hl : l.length < 1000000000) : CallH Tryz.prog 97 ⟨[.slice (some ⟨b, 0, none⟩) l.length cap, i64 0, i64 l.length]⟩ h fun v h' => v = .tuple ⟨[]⟩ ∧ SortPost ltO h b l x h' := by
  have w1 : IntKind.wrap .i64 (0 + 1) = 1 := by decide
  refine insO_call _ l.length cap 0 l.length ⟨fun i hh => 1 ≤ i ∧ (i ≤ 1 ∨ i ≤ l.length) ∧ ∃ l', l'.Perm l ∧ SortedTo ltO l' i.toNat ∧ Blk hh b (ints l' ++ x) ∧ Keep h hh [b], fun i _ => (l.length + 2 - i).toNat, ?_, ?_⟩
  · rw [w1]
    exact ⟨by omega, by omega, l, List.Perm.refl _, fun a c x y h1 h2 => by omega, hb, Keep.refl _ _⟩
  rintro i h1 ⟨hi1, hi2, l1, p1, s1, b1, k1⟩
  refine ⟨fun e => ?_, fun e => ?_⟩
  · have hil : i < l.length := of_decide_eq_true e
    have wi : IntKind.wrap .i64 (i + 1) = i + 1 := w64 _ (by omega) (by omega)
    have next : ∀ hh l2, l2.Perm l → SortedTo ltO l2 (i.toNat + 1) → Blk hh b (ints l2 ++ x) → Keep h hh [b] → (1 ≤ i + 1 ∧ (i + 1 ≤ 1 ∨ i + 1 ≤ l.length) ∧ ∃ l', l'.Perm l ∧ SortedTo ltO l' (i + 1).toNat ∧ Blk hh b (ints l' ++ x) ∧ Keep h hh [b]) := by
      intro hh l2 hp hs hb hk
      exact ⟨by omega, by omega, l2, hp, by rw [show (i + 1).toNat = i.toNat + 1 by omega]; exact hs, hb, hk⟩
    have mless : (l.length + 2 - (i + 1) : Int).toNat < (l.length + 2 - i : Int).toNat := by omega
    refine ⟨fun j hh => 0 ≤ j ∧ j ≤ i ∧ ∃ l', l'.Perm l ∧ SortedBut ltO l' i.toNat j.toNat ∧ Blk hh b (ints l' ++ x) ∧ Keep h hh [b], fun j _ => j.toNat, ⟨by omega, by omega, l1, p1, s1.but, b1, k1⟩, ?_⟩
    rintro j h2 ⟨hj0, hji, l2, p2, s2, b2, k2⟩
    have len2 := p2.length_eq
    rw [wi]
    refine ⟨fun ej => ?_, fun ej => ?_⟩
    · have hj : 0 < j := of_decide_eq_true ej
      have wj : IntKind.wrap .i64 (j - 1) = j - 1 := w64 _ (by omega) (by omega)
      rw [wj]
      have hu : l2[j.toNat]? = some l2[j.toNat] := List.getElem?_eq_getElem (by omega)
      have hv : l2[j.toNat - 1]? = some l2[j.toNat - 1] := List.getElem?_eq_getElem (by omega)
      have ej1 : (j - 1).toNat = j.toNat - 1 := by omega
      simp only [addr_add, Nat.zero_add, Nat.mul_one, ej1]
      refine ⟨⟨by omega, by omega⟩, _, blk_cell b2 hu, ⟨by omega, by omega⟩, _, blk_cell b2 hv, by kernel_rfl, (cmpLess_ok h2 _ _).mono ?_⟩
      rintro _ h3 ⟨rfl, rfl⟩
      refine ⟨_, rfl, fun t => ?_, fun t => ?_⟩
      · refine ⟨⟨by omega, by omega⟩, _, blk_cell b2 hv, ⟨by omega, by omega⟩, _, blk_cell b2 hu, ⟨by omega, by omega⟩, trivial, blk_okAt b2 (by omega), fun h4 hh4 => ⟨⟨by omega, by omega⟩, trivial, ?_, fun h5 hh5 => ?_⟩⟩
        · rw [hh4]; exact blk_okAt (blk_upd b2 (by omega) _) (by rw [List.length_set]; omega)
        · have b4 := blk_upd b2 (i := j.toNat) (by omega) l2[j.toNat - 1]
          rw [← hh4] at b4
          have b5 := blk_upd b4 (i := j.toNat - 1) (by rw [List.length_set]; omega) l2[j.toNat]
          rw [← hh5] at b5
          have k4 : Keep h3 h4 [b] := by rw [hh4]; exact Keep.upd _ _ _ _ _ (by simp)
          have k5 : Keep h4 h5 [b] := by rw [hh5]; exact Keep.upd _ _ _ _ _ (by simp)
          have sw := s2.swap wayO (fun _ _ => trivial) (by omega) (by omega) hu hv t
          exact ⟨⟨by omega, by omega, _, (perm_swap l2 _ _ _ _ hu hv).trans p2, sw, b5, (k2.trans' k4).trans' k5⟩, by omega⟩
      · exact ⟨next _ l2 p2 (s2.stop wayO (fun _ _ => trivial) (by omega) (by omega) hu hv t) b2 k2, mless⟩
    · have hj : ¬ j > 0 := of_decide_eq_false ej
      have : j.toNat = 0 := by omega
      rw [this] at s2
      exact ⟨next _ l2 p2 s2.zero b2 k2, mless⟩
  · have hil : ¬ i < l.length := of_decide_eq_false e
    refine ⟨rfl, l1, p1, SortedTo.pair ?_, b1, k1⟩
    have len1 := p1.length_eq
    intro a c u v h1 h2
    exact s1 a c u v h1 (by omega)

theorem insC_ok {lt : Int → Int → Bool} {S : Int → Prop} (w : Way lt S) (hS : ∀ x ∈ l, S x) (f : FuncId) (caps : List Value) (cmp : Int → Int → Int) (hf : entersB Tryz.prog f = true)
    (hc : ∀ hh u v, Keep h hh [b] → u ∈ l → v ∈ l → CallH Tryz.prog f ⟨i64 u :: i64 v :: caps⟩ hh fun r h' => r = i64 (cmp u v) ∧ h' = hh) (hlt : ∀ u v, u ∈ l → v ∈ l → decide (cmp u v < 0) = lt u v)
    (cap : Nat) (hb : Blk h b (ints l ++ x)) (hl : l.length < 1000000000) : CallH Tryz.prog 87 ⟨[.slice (some ⟨b, 0, none⟩) l.length cap, i64 0, i64 l.length, .func (.func f) ⟨[]⟩ ⟨caps⟩]⟩ h fun v h' => v = .tuple ⟨[]⟩ ∧ SortPost lt h b l x h' := by
  have w1 : IntKind.wrap .i64 (0 + 1) = 1 := by decide
  refine insC_call _ l.length cap 0 l.length _ ⟨fun i hh => 1 ≤ i ∧ (i ≤ 1 ∨ i ≤ l.length) ∧ ∃ l', l'.Perm l ∧ SortedTo lt l' i.toNat ∧ Blk hh b (ints l' ++ x) ∧ Keep h hh [b], fun i _ => (l.length + 2 - i).toNat, ?_, ?_⟩
  · rw [w1]
    exact ⟨by omega, by omega, l, List.Perm.refl _, fun a c x y h1 h2 => by omega, hb, Keep.refl _ _⟩
  rintro i h1 ⟨hi1, hi2, l1, p1, s1, b1, k1⟩
  refine ⟨fun e => ?_, fun e => ?_⟩
  · have hil : i < l.length := of_decide_eq_true e
    have wi : IntKind.wrap .i64 (i + 1) = i + 1 := w64 _ (by omega) (by omega)
    have next : ∀ hh l2, l2.Perm l → SortedTo lt l2 (i.toNat + 1) → Blk hh b (ints l2 ++ x) → Keep h hh [b] → (1 ≤ i + 1 ∧ (i + 1 ≤ 1 ∨ i + 1 ≤ l.length) ∧ ∃ l', l'.Perm l ∧ SortedTo lt l' (i + 1).toNat ∧ Blk hh b (ints l' ++ x) ∧ Keep h hh [b]) := by
      intro hh l2 hp hs hb hk
      exact ⟨by omega, by omega, l2, hp, by rw [show (i + 1).toNat = i.toNat + 1 by omega]; exact hs, hb, hk⟩
    have mless : (l.length + 2 - (i + 1) : Int).toNat < (l.length + 2 - i : Int).toNat := by omega
    refine ⟨fun j hh => 0 ≤ j ∧ j ≤ i ∧ ∃ l', l'.Perm l ∧ SortedBut lt l' i.toNat j.toNat ∧ Blk hh b (ints l' ++ x) ∧ Keep h hh [b], fun j _ => j.toNat, ⟨by omega, by omega, l1, p1, s1.but, b1, k1⟩, ?_⟩
    rintro j h2 ⟨hj0, hji, l2, p2, s2, b2, k2⟩
    have len2 := p2.length_eq
    have hS2 : ∀ x ∈ l2, S x := fun y hy => hS y (p2.subset hy)
    rw [wi]
    refine ⟨fun ej => ?_, fun ej => ?_⟩
    · have hj : 0 < j := of_decide_eq_true ej
      have wj : IntKind.wrap .i64 (j - 1) = j - 1 := w64 _ (by omega) (by omega)
      rw [wj]
      have hu : l2[j.toNat]? = some l2[j.toNat] := List.getElem?_eq_getElem (by omega)
      have hv : l2[j.toNat - 1]? = some l2[j.toNat - 1] := List.getElem?_eq_getElem (by omega)
      have mu := p2.subset (List.mem_of_getElem? hu)
      have mv := p2.subset (List.mem_of_getElem? hv)
      have ej1 : (j - 1).toNat = j.toNat - 1 := by omega
      simp only [addr_add, Nat.zero_add, Nat.mul_one, ej1]
      refine ⟨⟨by omega, by omega⟩, _, blk_cell b2 hu, ⟨by omega, by omega⟩, _, blk_cell b2 hv, hf, (hc h2 _ _ k2 mu mv).mono ?_⟩
      rintro _ h3 ⟨rfl, rfl⟩
      refine ⟨_, rfl, fun t => ?_, fun t => ?_⟩
      · refine ⟨⟨by omega, by omega⟩, _, blk_cell b2 hv, ⟨by omega, by omega⟩, _, blk_cell b2 hu, ⟨by omega, by omega⟩, trivial, blk_okAt b2 (by omega), fun h4 hh4 => ⟨⟨by omega, by omega⟩, trivial, ?_, fun h5 hh5 => ?_⟩⟩
        · rw [hh4]; exact blk_okAt (blk_upd b2 (by omega) _) (by rw [List.length_set]; omega)
        · have b4 := blk_upd b2 (i := j.toNat) (by omega) l2[j.toNat - 1]
          rw [← hh4] at b4
          have b5 := blk_upd b4 (i := j.toNat - 1) (by rw [List.length_set]; omega) l2[j.toNat]
          rw [← hh5] at b5
          have k4 : Keep h3 h4 [b] := by rw [hh4]; exact Keep.upd _ _ _ _ _ (by simp)
          have k5 : Keep h4 h5 [b] := by rw [hh5]; exact Keep.upd _ _ _ _ _ (by simp)
          rw [hlt _ _ mu mv] at t
          have sw := s2.swap w hS2 (by omega) (by omega) hu hv t
          exact ⟨⟨by omega, by omega, _, (perm_swap l2 _ _ _ _ hu hv).trans p2, sw, b5, (k2.trans' k4).trans' k5⟩, by omega⟩
      · rw [hlt _ _ mu mv] at t
        exact ⟨next _ l2 p2 (s2.stop w hS2 (by omega) (by omega) hu hv t) b2 k2, mless⟩
    · have hj : ¬ j > 0 := of_decide_eq_false ej
      have : j.toNat = 0 := by omega
      rw [this] at s2
      exact ⟨next _ l2 p2 s2.zero b2 k2, mless⟩
  · have hil : ¬ i < l.length := of_decide_eq_false e
    refine ⟨rfl, l1, p1, SortedTo.pair ?_, b1, k1⟩
    have len1 := p1.length_eq
    intro a c u v h1 h2
    exact s1 a c u v h1 (by omega)

end
end Go.Proofs.YtfapgccnhonoiaaGreat

/- Sorting of at most twelve whole numbers, as the library has it. -/
namespace Go.Proofs.YtfapgccnhonoiaaGreat

theorem bLen64_ok (h : Heap) (n : Int) (h0 : 0 ≤ n) (h1 : n < 256) : CallH Tryz.prog 96 ⟨[.int .u64 n]⟩ h fun v h' => (∃ i, v = i64 i) ∧ h' = h := by
  have hw : IntKind.wrap .u8 n = n := IntWalk.u8_in n ⟨h0, by omega⟩
  refine bLen64_call n ⟨fun e => ?_, fun _ => ⟨fun e => ?_, fun _ => ⟨fun e => ?_, fun _ => ⟨?_, ?_⟩⟩⟩⟩
  · have := of_decide_eq_true e; omega
  · have := of_decide_eq_true e; omega
  · have := of_decide_eq_true e; omega
  · rw [hw]; exact ⟨h0, h1⟩
  · rw [hw]
    refine ⟨_, getElem?_pos _ _ ?_, ⟨_, rfl⟩, rfl⟩
    exact Nat.lt_of_lt_of_eq (m := 256) (by omega) (by kernel_rfl)

theorem bLen_ok (h : Heap) (n : Int) (h0 : 0 ≤ n) (h1 : n < 256) : CallH Tryz.prog 85 ⟨[.int .u64 n]⟩ h fun v h' => (∃ i, v = i64 i) ∧ h' = h := by
  refine bLen_call n ⟨by kernel_rfl, (bLen64_ok h n h0 h1).mono ?_⟩
  rintro _ _ ⟨⟨i, rfl⟩, rfl⟩
  exact ⟨i, rfl, ⟨i, rfl⟩, rfl⟩

section
variable {h : Heap} {b : Nat} {l : List Int} {x : List Value}

theorem pdqO_ok (cap : Nat) (lim : Int) (hb : Blk h b (ints l ++ x)) (hl : l.length ≤ 12) : CallH Tryz.prog 86 ⟨[.slice (some ⟨b, 0, none⟩) l.length cap, i64 0, i64 l.length, i64 lim]⟩ h fun v h' => v = .tuple ⟨[]⟩ ∧ SortPost ltO h b l x h' := by
  refine pdqO_call _ l.length cap 0 l.length lim ⟨fun i j _ _ _ hh => i = 0 ∧ j = l.length ∧ hh = h, fun _ _ _ _ _ _ => 0, ⟨rfl, rfl, rfl⟩, ?_⟩
  rintro _ _ _ _ _ _ ⟨rfl, rfl, rfl⟩
  have hw : IntKind.wrap .i64 ((l.length : Int) - 0) = l.length := by rw [Int.sub_zero]; exact w64 _ (by omega) (by omega)
  rw [hw]
  refine ⟨fun _ => ⟨by kernel_rfl, (insO_ok cap hb (by omega)).mono ?_⟩, fun e => ?_⟩
  · rintro _ h' ⟨rfl, hp⟩
    exact ⟨rfl, rfl, hp⟩
  · have := of_decide_eq_false e; omega

theorem sSort_ok (cap : Nat) (hb : Blk h b (ints l ++ x)) (hl : l.length ≤ 12) : CallH Tryz.prog 81 ⟨[.slice (some ⟨b, 0, none⟩) l.length cap]⟩ h fun v h' => v = .tuple ⟨[]⟩ ∧ SortPost ltO h b l x h' := by
  have hw : IntKind.wrap .u64 (l.length : Int) = l.length := IntWalk.u64_in _ ⟨by omega, by omega⟩
  refine sSort_call _ l.length cap ⟨by kernel_rfl, ?_⟩
  rw [hw]
  refine (bLen_ok h _ (by omega) (by omega)).mono ?_
  rintro _ _ ⟨⟨i, rfl⟩, rfl⟩
  refine ⟨i, rfl, by kernel_rfl, (pdqO_ok cap i hb hl).mono ?_⟩
  rintro _ h' ⟨rfl, hp⟩
  exact ⟨rfl, rfl, hp⟩

theorem sSort_nil (h : Heap) (cap : Nat) : CallH Tryz.prog 81 ⟨[.slice none 0 cap]⟩ h fun v h' => v = .tuple ⟨[]⟩ ∧ h' = h := by
  have hw : IntKind.wrap .u64 ((0 : Nat) : Int) = 0 := by decide
  refine sSort_call _ 0 cap ⟨by kernel_rfl, ?_⟩
  rw [hw]
  refine (bLen_ok h _ (by omega) (by omega)).mono ?_
  rintro _ h1 ⟨⟨lim, rfl⟩, rfl⟩
  refine ⟨lim, rfl, by kernel_rfl, ?_⟩
  refine CallH.mono (R := fun v h' => v = .tuple ⟨[]⟩ ∧ h' = h1) ?_ (by rintro _ _ ⟨rfl, rfl⟩; exact ⟨rfl, rfl, rfl⟩)
  refine pdqO_call _ 0 cap 0 (0 : Nat) lim ⟨fun i j _ _ _ hh => i = 0 ∧ j = 0 ∧ hh = h1, fun _ _ _ _ _ _ => 0, ⟨rfl, rfl, rfl⟩, ?_⟩
  rintro _ _ _ _ _ h2 ⟨rfl, rfl, rfl⟩
  refine ⟨fun _ => ⟨by kernel_rfl, ?_⟩, fun e => by revert e; decide⟩
  refine CallH.mono (R := fun v h' => v = .tuple ⟨[]⟩ ∧ h' = h2) ?_ (by rintro _ _ ⟨rfl, rfl⟩; exact ⟨rfl, rfl, rfl⟩)
  refine insO_call _ 0 cap 0 0 ⟨fun i hh => i = 1 ∧ hh = h2, fun _ _ => 0, ⟨by decide, rfl⟩, ?_⟩
  rintro _ _ ⟨rfl, rfl⟩
  exact ⟨fun e => absurd (of_decide_eq_true e) (by decide), fun _ => ⟨rfl, rfl⟩⟩

section
variable {lt : Int → Int → Bool} {S : Int → Prop}

theorem pdqC_ok (w : Way lt S) (hS : ∀ x ∈ l, S x) (f : FuncId) (caps : List Value) (cmp : Int → Int → Int) (hf : entersB Tryz.prog f = true)
    (hc : ∀ hh u v, Keep h hh [b] → u ∈ l → v ∈ l → CallH Tryz.prog f ⟨i64 u :: i64 v :: caps⟩ hh fun r h' => r = i64 (cmp u v) ∧ h' = hh) (hlt : ∀ u v, u ∈ l → v ∈ l → decide (cmp u v < 0) = lt u v)
    (cap : Nat) (lim : Int) (hb : Blk h b (ints l ++ x)) (hl : l.length ≤ 12) : CallH Tryz.prog 84 ⟨[.slice (some ⟨b, 0, none⟩) l.length cap, i64 0, i64 l.length, i64 lim, .func (.func f) ⟨[]⟩ ⟨caps⟩]⟩ h fun v h' => v = .tuple ⟨[]⟩ ∧ SortPost lt h b l x h' := by
  refine pdqC_call _ l.length cap 0 l.length lim _ ⟨fun i j _ _ _ hh => i = 0 ∧ j = l.length ∧ hh = h, fun _ _ _ _ _ _ => 0, ⟨rfl, rfl, rfl⟩, ?_⟩
  rintro _ _ _ _ _ _ ⟨rfl, rfl, rfl⟩
  have hw : IntKind.wrap .i64 ((l.length : Int) - 0) = l.length := by rw [Int.sub_zero]; exact w64 _ (by omega) (by omega)
  rw [hw]
  refine ⟨fun _ => ⟨by kernel_rfl, (insC_ok w hS f caps cmp hf hc hlt cap hb (by omega)).mono ?_⟩, fun e => ?_⟩
  · rintro _ h' ⟨rfl, hp⟩
    exact ⟨rfl, rfl, hp⟩
  · have := of_decide_eq_false e; omega

theorem sSortFunc_ok (w : Way lt S) (hS : ∀ x ∈ l, S x) (f : FuncId) (caps : List Value) (cmp : Int → Int → Int) (hf : entersB Tryz.prog f = true)
    (hc : ∀ hh u v, Keep h hh [b] → u ∈ l → v ∈ l → CallH Tryz.prog f ⟨i64 u :: i64 v :: caps⟩ hh fun r h' => r = i64 (cmp u v) ∧ h' = hh) (hlt : ∀ u v, u ∈ l → v ∈ l → decide (cmp u v < 0) = lt u v)
    (cap : Nat) (hb : Blk h b (ints l ++ x)) (hl : l.length ≤ 12) : CallH Tryz.prog 79 ⟨[.slice (some ⟨b, 0, none⟩) l.length cap, .func (.func f) ⟨[]⟩ ⟨caps⟩]⟩ h fun v h' => v = .tuple ⟨[]⟩ ∧ SortPost lt h b l x h' := by
  have hw : IntKind.wrap .u64 (l.length : Int) = l.length := IntWalk.u64_in _ ⟨by omega, by omega⟩
  refine sSortFunc_call _ l.length cap _ ⟨by kernel_rfl, ?_⟩
  rw [hw]
  refine (bLen_ok h _ (by omega) (by omega)).mono ?_
  rintro _ _ ⟨⟨i, rfl⟩, rfl⟩
  refine ⟨i, rfl, by kernel_rfl, (pdqC_ok w hS f caps cmp hf hc hlt cap i hb hl).mono ?_⟩
  rintro _ h' ⟨rfl, hp⟩
  exact ⟨rfl, rfl, hp⟩

theorem sSortFunc_nil (h : Heap) (cap : Nat) (g : Value) : CallH Tryz.prog 79 ⟨[.slice none 0 cap, g]⟩ h fun v h' => v = .tuple ⟨[]⟩ ∧ h' = h := by
  have hw : IntKind.wrap .u64 ((0 : Nat) : Int) = 0 := by decide
  refine sSortFunc_call _ 0 cap g ⟨by kernel_rfl, ?_⟩
  rw [hw]
  refine (bLen_ok h _ (by omega) (by omega)).mono ?_
  rintro _ h1 ⟨⟨lim, rfl⟩, rfl⟩
  refine ⟨lim, rfl, by kernel_rfl, ?_⟩
  refine CallH.mono (R := fun v h' => v = .tuple ⟨[]⟩ ∧ h' = h1) ?_ (by rintro _ _ ⟨rfl, rfl⟩; exact ⟨rfl, rfl, rfl⟩)
  refine pdqC_call _ 0 cap 0 (0 : Nat) lim g ⟨fun i j _ _ _ hh => i = 0 ∧ j = 0 ∧ hh = h1, fun _ _ _ _ _ _ => 0, ⟨rfl, rfl, rfl⟩, ?_⟩
  rintro _ _ _ _ _ h2 ⟨rfl, rfl, rfl⟩
  refine ⟨fun _ => ⟨by kernel_rfl, ?_⟩, fun e => by revert e; decide⟩
  refine CallH.mono (R := fun v h' => v = .tuple ⟨[]⟩ ∧ h' = h2) ?_ (by rintro _ _ ⟨rfl, rfl⟩; exact ⟨rfl, rfl, rfl⟩)
  refine insC_call _ 0 cap 0 0 g ⟨fun i hh => i = 1 ∧ hh = h2, fun _ _ => 0, ⟨by decide, rfl⟩, ?_⟩
  rintro _ _ ⟨rfl, rfl⟩
  exact ⟨fun e => absurd (of_decide_eq_true e) (by decide), fun _ => ⟨rfl, rfl⟩⟩

end
end
end Go.Proofs.YtfapgccnhonoiaaGreat

/- Slices that grow: of elements of one cell. -/
namespace Go.Proofs.YtfapgccnhonoiaaGreat

def blks (p : Option Addr) : List Nat := match p with | some a => [a.block] | none => []

/-- A slice with its room, from the first cell of its block on. -/
def Vec (h : Heap) (p : Option Addr) (n c lo : Nat) (vs : List Value) : Prop :=
  n = vs.length ∧ ((p = none ∧ c = 0 ∧ vs = []) ∨ ∃ b x, p = some ⟨b, 0, none⟩ ∧ lo ≤ b ∧ Blk h b (vs ++ x) ∧ n + x.length = c)

theorem Vec.nil (h : Heap) (lo : Nat) : Vec h none 0 0 lo [] := ⟨rfl, .inl ⟨rfl, rfl, rfl⟩⟩

theorem Vec.keep {h h' : Heap} {p : Option Addr} {n c lo : Nat} {vs : List Value} {F : List Nat} (v : Vec h p n c lo vs) (k : Keep h h' F) (hF : ∀ b ∈ blks p, b ∉ F) : Vec h' p n c lo vs := by
  obtain ⟨h1, h2⟩ := v
  refine ⟨h1, ?_⟩
  rcases h2 with h2 | ⟨b, x, rfl, h3, h4, h5⟩
  · exact .inl h2
  · exact .inr ⟨b, x, rfl, h3, h4.keep k (hF b (by simp [blks])), h5⟩

theorem Vec.lt {h : Heap} {p : Option Addr} {n c lo : Nat} {vs : List Value} (v : Vec h p n c lo vs) : ∀ b ∈ blks p, b < h.size ∧ lo ≤ b := by
  intro b hb
  rcases v.2 with ⟨rfl, _, _⟩ | ⟨b', x, rfl, h3, h4, h5⟩
  · simp [blks] at hb
  · simp only [blks, List.mem_singleton] at hb
    rw [hb]; exact ⟨h4.lt, h3⟩

theorem Vec.mono {h : Heap} {p : Option Addr} {n c lo lo' : Nat} {vs : List Value} (v : Vec h p n c lo vs) (hl : lo' ≤ lo) : Vec h p n c lo' vs := by
  obtain ⟨h1, h2⟩ := v
  refine ⟨h1, ?_⟩
  rcases h2 with h2 | ⟨b, x, rfl, h3, h4, h5⟩
  · exact .inl h2
  · exact .inr ⟨b, x, rfl, Nat.le_trans hl h3, h4, h5⟩

theorem Vec.cell {h : Heap} {p : Option Addr} {n c lo : Nat} {vs : List Value} (v : Vec h p n c lo vs) {i : Nat} {w : Value} (hi : vs[i]? = some w) : ∃ b, p = some ⟨b, 0, none⟩ ∧ lo ≤ b ∧ b < h.size ∧ cellAt h ⟨b, i, none⟩ = some w := by
  obtain ⟨h1, _⟩ := List.getElem?_eq_some_iff.1 hi
  rcases v.2 with ⟨rfl, _, rfl⟩ | ⟨b', x, rfl, h3, h4, h5⟩
  · simp at h1
  · exact ⟨b', rfl, h3, h4.lt, h4.cell (by rw [List.getElem?_append_left h1]; exact hi)⟩

/-- One more. -/
theorem Vec.append {h : Heap} {p : Option Addr} {n c lo : Nat} {vs : List Value} (V : Vec h p n c lo vs) (hlo : lo ≤ h.size) (w z : Value) (hw : isCell w = true) (e : TypeId) (sz : Nat) (hsz : 0 < sz) (hs : (n + 1) * sz ≤ 70368744177664) (K : Heap → Option Addr → Nat → Prop)
    (hk : ∀ h' p' c', Vec h' p' (n + 1) c' lo (vs ++ [w]) → Keep h h' (blks p) → (∀ b ∈ blks p', b ∈ blks p ∨ h.size ≤ b) → K h' p' c') (n7 : Nat) (h4 : Heap) (hn7 : n7 = h.size) (hh4 : h4 = h.push (.cells ⟨[w]⟩ e (0, 0))) :
    ∃ l1, srcIs h4 1 1 (.slice (some ⟨n7, 0, none⟩) 1 1) l1 ∧ (∀ v, v ∈ l1 → isCell v = true) ∧ l1.length = 1 ∧
      (n + 1 ≤ c → match (generalizing := false) p with
        | some a1 => okRow h4 (a1.add (n * 1)) l1.length ∧ ∀ h5, h5 = updRow h4 (a1.add (n * 1)) 0 l1 → K h5 p c
        | none => K h4 p c) ∧
      (c < n + 1 → (n + 1) * sz ≤ 70368744177664 ∧ 0 < sz ∧ ∃ l2, srcIs h4 1 n (.slice p n c) l2 ∧ ∀ n8, n + 1 ≤ n8 → ∀ (n9 : Nat) (h5 : Heap), n9 = h4.size → h5 = h4.push (.cells ⟨List.append (List.append l2 l1) (zrow [z] (n8 - (n + 1)))⟩ e (0, 0)) → K h5 (some ⟨n9, 0, none⟩) n8) := by
  have k4 : Keep h h4 [] := by rw [hh4]; exact Keep.push _ _ _
  have b4 : Blk h4 n7 [w] := by rw [hh4, hn7]; exact Blk.new _ _ _
  have s4 : h4.size = h.size + 1 := by rw [hh4]; simp
  refine ⟨[w], ?_, fun v hv => by rw [List.mem_singleton.1 hv]; exact hw, rfl, ?_, ?_⟩
  · show rowAt h4 ⟨n7, 0, none⟩ (1 * 1) = some [w]
    rw [b4.row (by simp)]
    rfl
  · intro hle
    obtain ⟨h1, h2⟩ := V
    rcases h2 with ⟨rfl, hc, _⟩ | ⟨b, x, rfl, h3, hb, hx⟩
    · omega
    · have hb4 := hb.keep k4 (by simp)
      simp only [addr_add, Nat.zero_add, Nat.mul_one]
      refine ⟨hb4.okRow (by simp only [List.length_append, List.length_cons, List.length_nil]; omega), fun h5 hh5 => hk h5 _ c ⟨by simp [h1], .inr ⟨b, x.drop 1, rfl, h3, ?_, by simp only [List.length_drop]; omega⟩⟩ ?_ (fun _ hb => .inl hb)⟩
      · have := hb4.updRow (k := n) (vs := [w]) (by simp only [List.length_append, List.length_cons, List.length_nil]; omega)
        rw [← hh5] at this
        have e1 : (vs ++ x).take n = vs := by rw [h1]; simp
        have e2 : (vs ++ x).drop (n + [w].length) = x.drop 1 := by rw [h1, List.drop_append]; simp
        rw [e1, e2] at this
        exact this
      · refine k4.mono (F' := blks (some ⟨b, 0, none⟩)) (by simp) |>.trans' ?_
        rw [hh5]
        exact Keep.updRow _ _ _ _ _ (by simp [blks])
  · intro _
    refine ⟨hs, hsz, vs, ?_, fun n8 hn8 n9 h5 hn9 hh5 => hk h5 _ n8 ⟨by simp [V.1], .inr ⟨n9, zrow [z] (n8 - (n + 1)), rfl, by omega, ?_, ?_⟩⟩ ?_ ?_⟩
    · obtain ⟨h1, h2⟩ := V
      rcases h2 with ⟨rfl, hc, rfl⟩ | ⟨b, x, rfl, h3, hb, hx⟩
      · rfl
      · show rowAt h4 ⟨b, 0, none⟩ (n * 1) = some vs
        rw [(hb.keep k4 (by simp)).row (by simp only [List.length_append]; omega), h1]
        simp
    · rw [hh5, hn9]
      exact Blk.new _ _ _
    · rw [zrow_one]; simp only [List.length_replicate]; omega
    · refine (k4.mono (by simp)).trans' ?_
      rw [hh5]
      exact Keep.push _ _ _
    · intro b hb
      simp only [blks, List.mem_singleton] at hb
      right; omega

def u8s (l : List Int) : List Value := l.map fun n => .int .u8 n

theorem u8s_get (l : List Int) (i : Nat) : (u8s l)[i]? = l[i]?.map fun n => Value.int .u8 n := List.getElem?_map
theorem u8s_len (l : List Int) : (u8s l).length = l.length := List.length_map _

end Go.Proofs.YtfapgccnhonoiaaGreat

/- The keys of a map, gone through by a range over a function. -/
namespace Go.Proofs.YtfapgccnhonoiaaGreat

def keyI (e : MapEntry) : Int := match e.key with | .int _ n => n | _ => 0

theorem ents_keys : ∀ (es : List MapEntry) (l : AL), entsOf es l → es.map keyI = l.map (·.1)
  | [], [], _ => rfl
  | [], _ :: _, h => h.elim
  | _ :: _, [], h => h.elim
  | e :: r, x :: s, h => by
    have : keyI e = x.1 := by unfold keyI; rw [h.1]
    simp [this, ents_keys r s h.2.2]

theorem ents_key : ∀ (es : List MapEntry) (l : AL), entsOf es l → ∀ e ∈ es, e.key = i64 (keyI e)
  | [], [], _, _, he => by cases he
  | [], _ :: _, h, _, _ => h.elim
  | _ :: _, [], h, _, _ => h.elim
  | e :: r, x :: s, h, a, ha => by
    rcases List.mem_cons.1 ha with rfl | ha
    · unfold keyI; rw [h.1]
    · exact ents_key r s h.2.2 a ha

theorem nodup_of_born {l : List MapEntry} (h : (l.map (·.born)).Nodup) : l.Nodup := by
  induction l with
  | nil => exact List.nodup_nil
  | cons a r ih =>
    simp only [List.map_cons, List.nodup_cons] at h
    exact List.nodup_cons.2 ⟨fun ha => h.1 (List.mem_map_of_mem ha), ih h.2⟩

theorem mKeys1_ok {h : Heap} {b1 mb n2 : Nat} {es : Array MapEntry} {clk : Nat} {al : AL} {R : Value → Heap → Prop} (hb : cellAt h ⟨b1, 0, none⟩ = some (.map (some mb))) (hm : h[mb]? = some (.map es clk)) (he : EntsI es clk al)
    (Inv : List Int → Heap → Prop) (start : Inv [] (h.push (.mapIter (some mb) clk ⟨[]⟩ clk)))
    (frame : ∀ ds h1 h2, Inv ds h1 → Keep h1 h2 [h.size] → Inv ds h2)
    (step : ∀ ds k h1, Inv ds h1 → k ∈ al.map (·.1) → ds.length < al.length → CallV Tryz.prog (yieldV n2) ⟨[i64 k]⟩ h1 fun v h2 => (v = .bool true ∧ Inv (ds ++ [k]) h2 ∧ h2[h.size]? = h1[h.size]? ∧ h2[mb]? = h1[mb]?) ∨ (v = .bool false ∧ R (.tuple ⟨[]⟩) h2))
    (finish : ∀ ds h1, Inv ds h1 → ds.Perm (al.map (·.1)) → R (.tuple ⟨[]⟩) h1) :
    CallH Tryz.prog 80 ⟨[yieldV n2, ptr b1]⟩ h R := by
  refine mKeys1_call _ b1 ⟨_, hb, es, clk, hm, fun it h1 hit hh1 => ?_⟩
  subst hit
  have hlt := (Array.getElem?_eq_some_iff.1 hm).1
  have hne : h.size ≠ mb := by omega
  refine ⟨fun hh => ∃ told ds, IterR hh h.size mb es clk told clk ds ∧ Inv (ds.map keyI) hh, fun hh => iterM h.size es.size hh, ⟨_, [], by rw [hh1]; exact IterR.start hm, by rw [hh1]; exact start⟩, ?_⟩
  rintro hh ⟨told, ds, hi, hinv⟩
  refine ⟨rfl, .inr ⟨mb, clk, told, clk, es, clk, hi.iter, hi.map, hi.some he, ?_, fun hf => ?_⟩⟩
  · rintro x ⟨hx, hnt⟩ h2 hh2
    have hi2 := hi.step hne hx hnt
    rw [← hh2] at hi2
    have k2 : Keep hh h2 [h.size] := by rw [hh2]; exact Keep.set _ _ _ _ (by simp)
    have hinv2 := frame _ _ _ hinv k2
    have hm2 : iterM h.size es.size h2 < iterM h.size es.size hh := by
      have h1 := hi2.few
      have h2' : told.size = ds.length := by
        have := congrArg List.length hi.told
        simpa using this
      unfold iterM
      rw [hi2.iter, hi.iter]
      simp only [List.length_append, List.length_cons, List.length_nil, Array.size_push] at h1 ⊢
      omega
    refine ⟨rfl, mb, clk, told.push x.born, clk, es, x.born, x, hi2.iter, by simp, hi2.map, he.found hx, ?_⟩
    have hkey := ents_key _ _ he.ents x hx
    rw [hkey]
    have hmem : keyI x ∈ al.map (·.1) := by rw [← ents_keys _ _ he.ents]; exact List.mem_map_of_mem hx
    have hfew : (ds.map keyI).length < al.length := by
      have h1 := hi2.few
      rw [he.size] at h1
      simp only [List.length_append, List.length_cons, List.length_nil] at h1
      rw [List.length_map]; omega
    refine (step _ _ h2 hinv2 hmem hfew).mono ?_
    rintro v h3 (⟨rfl, i3, e1, e2⟩ | ⟨rfl, hR⟩)
    · refine ⟨true, rfl, nofun, fun _ => ⟨⟨told.push x.born, ds ++ [x], ⟨by rw [e1, hi2.iter], hi2.told, by rw [e2, hi2.map], hi2.sub, hi2.nodup, hi2.hi⟩, by simpa using i3⟩, ?_⟩⟩
      have : iterM h.size es.size h3 = iterM h.size es.size h2 := by unfold iterM; rw [e1]
      show iterM h.size es.size h3 < iterM h.size es.size hh
      rw [this]; exact hm2
    · exact ⟨false, rfl, fun _ => hR, nofun⟩
  · refine finish _ hh hinv ?_
    have hp : ds.Perm es.toList := (List.perm_ext_iff_of_nodup (nodup_of_born hi.nodup) (nodup_of_born he.apart)).2 fun x => ⟨hi.sub x, hi.all he hf x⟩
    rw [← ents_keys _ _ he.ents]
    exact hp.map _

end Go.Proofs.YtfapgccnhonoiaaGreat

/- The keys of a map as a slice, and sorted. -/
namespace Go.Proofs.YtfapgccnhonoiaaGreat

theorem Keep.get {h h' : Heap} {F : List Nat} (k : Keep h h' F) {b : Nat} {o : Obj} (hb : h[b]? = some o) (hn : b ∉ F) : h'[b]? = some o := by
  rw [k.same b (Array.getElem?_eq_some_iff.1 hb).1 hn, hb]

theorem get_push_lt (h : Heap) (o : Obj) {b : Nat} (hb : b < h.size) : (h.push o)[b]? = h[b]? := by
  rw [Array.getElem?_push, if_neg (by omega)]
theorem get_push_eq (h : Heap) (o : Obj) : (h.push o)[h.size]? = some o := by simp

theorem ints_snoc (l : List Int) (k : Int) : ints l ++ [i64 k] = ints (l ++ [k]) := by simp [ints]

def SeqI (h : Heap) (n1 n2 n3 lo : Nat) (rec2 : LoopState → Option Code → Obj) (ds : List Int) (hh : Heap) : Prop :=
  hh[n2]? = some (rec2 .ready none) ∧ hh[n3]? = some (.deferred (some [])) ∧ (∃ p n c, Blk hh n1 [.slice p n c] ∧ Vec hh p n c (lo + 1) (ints ds)) ∧ Keep h hh [] ∧ lo < hh.size

theorem sAppendSeq_ok {h : Heap} {b1 mb : Nat} {es : Array MapEntry} {clk : Nat} {al : AL} (hb : Blk h b1 [.map (some mb)]) (hm : h[mb]? = some (.map es clk)) (he : EntsI es clk al) (hl : al.length < 1000000000) :
    CallH Tryz.prog 83 ⟨[.slice none 0 0, .func (.func 80) #[] #[ptr b1]]⟩ h fun v h' => ∃ p n c ds, v = .slice p n c ∧ Vec h' p n c h.size (ints ds) ∧ ds.Perm (al.map (·.1)) ∧ Keep h h' [] := by
  refine sAppendSeq_call none 0 0 b1 fun n1 h0 hn1 hh0 => ⟨by kernel_rfl, fun n2 n3 rec2 h1 hn3 hn2 hrec hh1 hy => ?_⟩
  have s0 : h0.size = h.size + 1 := by rw [hh0]; simp
  have s1 : h1.size = h.size + 3 := by rw [hh1]; simp [s0]
  have k0 : Keep h h0 [] := by rw [hh0]; exact Keep.push _ _ _
  have k1 : Keep h0 h1 [] := by rw [hh1]; exact (Keep.push _ _ _).trans' (Keep.push _ _ _)
  have hn2' : n2 = h.size + 2 := by omega
  have hn3' : n3 = h.size + 1 := by omega
  have hmlt := (Array.getElem?_eq_some_iff.1 hm).1
  have box1 : Blk h1 n1 [.slice none 0 0] := by
    have : Blk h0 n1 [.slice none 0 0] := by rw [hh0, hn1]; exact Blk.new _ _ _
    exact this.keep k1 (by simp)
  have l1 : h1[n2]? = some (rec2 .ready none) := by rw [hh1, hn2, show h0.size + 1 = (h0.push (Obj.deferred (some []))).size by simp]; exact get_push_eq _ _
  have d1 : h1[n3]? = some (.deferred (some [])) := by
    rw [hh1, hn3, get_push_lt _ _ (by simp)]; exact get_push_eq _ _
  refine mKeys1_ok (es := es) (clk := clk) (al := al) (mb := mb) ((hb.keep (k0.trans' k1) (by simp)).cell rfl) ((k0.trans' k1).get hm (by simp)) he
    (SeqI h n1 n2 n3 h1.size rec2)
    ?_ ?_ ?_ ?_
  · have kp := Keep.push h1 (.mapIter (some mb) clk ⟨[]⟩ clk) []
    exact ⟨kp.get l1 (by simp), kp.get d1 (by simp), ⟨none, 0, 0, box1.keep kp (by simp), Vec.nil _ _⟩, (k0.trans' k1).trans' kp, by simp⟩
  · rintro ds ha hb' ⟨i1, i2, ⟨p, n, c, i3, i4⟩, i5, i6⟩ k
    have szk := k.size
    refine ⟨k.get i1 (by simp; omega), k.get i2 (by simp; omega), ⟨p, n, c, i3.keep k (by simp; omega), i4.keep k fun b hb => ?_⟩, i5.trans k (by simp; omega), by omega⟩
    have := i4.lt b hb
    simp; omega
  · rintro ds k h2 ⟨i1, i2, ⟨p, n, c, i3, i4⟩, i5, i6⟩ hk hfew
    have hn : n = ds.length := by rw [i4.1, ints_len]
    suffices key : ∀ Q : Value → Heap → Prop, (∀ hz, SeqI h n1 n2 n3 h1.size rec2 (ds ++ [k]) hz ∧ hz[h1.size]? = h2[h1.size]? ∧ hz[mb]? = h2[mb]? → Q (.bool true) hz) → CallV Tryz.prog (yieldV n2) ⟨[i64 k]⟩ h2 Q from key _ fun hz hz' => .inl ⟨rfl, hz'⟩
    intro Q hQ
    refine hy k h2 Q i1 ⟨i1, fun h3 hh3 => ⟨p, n, c, ?_, ⟨by omega, trivial⟩, ?_⟩⟩
    · have k3 : Keep h2 h3 [n2] := by rw [hh3]; exact Keep.set _ _ _ _ (by simp)
      exact (i3.keep k3 (by simp; omega)).cell rfl
    have k3 : Keep h2 h3 [n2] := by rw [hh3]; exact Keep.set _ _ _ _ (by simp)
    have sz3 : h3.size = h2.size := by rw [hh3]; simp
    have l3 : h3[n2]? = some (rec2 .busy none) := by
      rw [hh3, Array.getElem?_setIfInBounds_self_of_lt (Array.getElem?_eq_some_iff.1 i1).1]
    have box3 := i3.keep k3 (by simp; omega)
    have v3 := i4.keep k3 fun b hb => by have := i4.lt b hb; simp; omega
    have d3 := k3.get i2 (by simp; omega)
    refine fun n7 h4 hn7 hh4 => Vec.append v3 (by omega) (i64 k) (.int .i64 (Int.ofNat 0)) rfl 3 8 (by omega) (by omega)
      (fun hx px cx => true = true ∧ okAt hx ⟨n1, 0, none⟩ ∧ ∀ hy, hy = upd hx ⟨n1, 0, none⟩ (.slice px (n + 1) cx) → hy[n2]? = some (rec2 .busy none) ∧ ∀ hz, hz = hy.setIfInBounds n2 (rec2 .ready none) → Q (.bool true) hz) ?_ n7 h4 hn7 hh4
    intro hx px cx vx kx fx
    have nin : ∀ b, b ≤ h1.size → b ∉ blks p := fun b hb hm => by have := i4.lt b hm; omega
    have boxx := box3.keep kx (nin _ (by omega))
    refine ⟨rfl, boxx.ok (by simp), fun hy hhy => ?_⟩
    have ky : Keep hx hy [n1] := by rw [hhy]; exact Keep.upd _ _ _ _ _ (by simp)
    have boxy := boxx.upd 0 (.slice px (n + 1) cx)
    rw [← hhy] at boxy
    have ly := ky.get (kx.get l3 (nin _ (by omega))) (by simp; omega)
    refine ⟨ly, fun hz hhz => hQ hz ⟨⟨?_, ?_, ⟨px, n + 1, cx, ?_, ?_⟩, ?_, ?_⟩, ?_, ?_⟩⟩
    all_goals have kz : Keep hy hz [n2] := by rw [hhz]; exact Keep.set _ _ _ _ (by simp)
    all_goals have szx := kx.size
    all_goals have szy := ky.size
    all_goals have szz := kz.size
    · rw [hhz, Array.getElem?_setIfInBounds_self_of_lt (Array.getElem?_eq_some_iff.1 ly).1]
    · exact kz.get (ky.get (kx.get d3 (nin _ (by omega))) (by simp; omega)) (by simp; omega)
    · exact boxy.keep kz (by simp; omega)
    · rw [← ints_snoc]
      refine (vx.keep ky fun b hb => ?_).keep kz fun b hb => ?_
      · have := vx.lt b hb; simp; omega
      · have := vx.lt b hb; simp; omega
    · refine (((i5.trans k3 ?_).trans kx fun b hb => ?_).trans ky ?_).trans kz ?_
      · simp; omega
      · have := i4.lt b hb; right; omega
      · simp; omega
      · simp; omega
    · omega
    · rw [kz.same _ (by omega) (by simp; omega), ky.same _ (by omega) (by simp; omega), kx.same _ (by omega) (nin _ (by omega)), k3.same _ (by omega) (by simp; omega)]
    · rw [kz.same _ (by omega) (by simp; omega), ky.same _ (by omega) (by simp; omega), kx.same _ (by omega) (nin _ (by omega)), k3.same _ (by omega) (by simp; omega)]
  · rintro ds h2 ⟨i1, i2, ⟨p, n, c, i3, i4⟩, i5, i6⟩ hp
    refine ⟨i1, fun h3 hh3 => ⟨p, n, c, ?_, ?_, fun h4 hh4 => ⟨p, n, c, ds, rfl, ?_, hp, ?_⟩⟩⟩
    all_goals have k3 : Keep h2 h3 [n2] := by rw [hh3]; exact Keep.set _ _ _ _ (by simp)
    all_goals have szz := k3.size
    · exact (i3.keep k3 (by simp; omega)).cell rfl
    · exact k3.get i2 (by simp; omega)
    all_goals have k4 : Keep h3 h4 [n3] := by rw [hh4]; exact Keep.set _ _ _ _ (by simp)
    · refine ((i4.keep k3 fun b hb => ?_).keep k4 fun b hb => ?_).mono (by omega)
      · have := i4.lt b hb; simp; omega
      · have := i4.lt b hb; simp; omega
    · exact (i5.trans k3 (by simp; omega)).trans k4 (by simp; omega)

end Go.Proofs.YtfapgccnhonoiaaGreat

/- The keys of a map, collected and sorted. -/
namespace Go.Proofs.YtfapgccnhonoiaaGreat

theorem mKeys_ok (h : Heap) (mb : Nat) : CallH Tryz.prog 61 ⟨[.map (some mb)]⟩ h fun v h' => ∃ b1, v = .func (.func 80) #[] #[ptr b1] ∧ Blk h' b1 [.map (some mb)] ∧ Keep h h' [] ∧ h.size ≤ b1 := by
  refine mKeys_call (some mb) fun n1 h1 hn1 hh1 => ⟨n1, rfl, ?_, ?_, by omega⟩
  · rw [hh1, hn1]; exact Blk.new _ _ _
  · rw [hh1]; exact Keep.push _ _ _

section
variable {h : Heap} {b1 mb : Nat} {al : AL}

theorem sCollect_ok (hb : Blk h b1 [.map (some mb)]) (hm : MapI h mb al) (hl : al.length < 1000000000) :
    CallH Tryz.prog 78 ⟨[.func (.func 80) #[] #[ptr b1]]⟩ h fun v h' => ∃ p n c ds, v = .slice p n c ∧ Vec h' p n c h.size (ints ds) ∧ ds.Perm (al.map (·.1)) ∧ Keep h h' [] := by
  obtain ⟨es, clk, hm, he⟩ := hm
  refine sCollect_call _ ⟨by kernel_rfl, (sAppendSeq_ok hb hm he hl).mono ?_⟩
  rintro _ h' ⟨p, n, c, ds, rfl, hv⟩
  exact ⟨_, _, _, rfl, p, n, c, ds, rfl, hv⟩

theorem sSorted_ok (hb : Blk h b1 [.map (some mb)]) (hm : MapI h mb al) (hl : al.length ≤ 12) :
    CallH Tryz.prog 75 ⟨[.func (.func 80) #[] #[ptr b1]]⟩ h fun v h' => ∃ p n c ds, v = .slice p n c ∧ Vec h' p n c h.size (ints ds) ∧ ds.Perm (al.map (·.1)) ∧ ds.Pairwise (fun x y => x ≤ y) ∧ Keep h h' [] := by
  refine sSorted_call _ ⟨by kernel_rfl, (sCollect_ok hb hm (by omega)).mono ?_⟩
  rintro _ h1 ⟨p, n, c, ds, rfl, ⟨hn, hv⟩, hp, k1⟩
  rw [ints_len] at hn
  have hlen : ds.length ≤ 12 := by have := hp.length_eq; simp at this; omega
  refine ⟨p, n, c, rfl, by kernel_rfl, ?_⟩
  rcases hv with ⟨rfl, rfl, hds⟩ | ⟨b, x, rfl, hlo, hbl, hx⟩
  · have : ds = [] := by simpa [ints] using hds
    subst this
    have : n = 0 := hn
    subst this
    refine (sSort_nil h1 0).mono ?_
    rintro _ _ ⟨rfl, rfl⟩
    exact ⟨rfl, _, _, _, [], rfl, Vec.nil _ _, hp, by simp, k1⟩
  · subst hn
    refine (sSort_ok c hbl hlen).mono ?_
    rintro _ h2 ⟨rfl, l', p', s', b', k'⟩
    refine ⟨rfl, _, _, _, l', rfl, ⟨by rw [ints_len, p'.length_eq], .inr ⟨b, x, rfl, hlo, b', hx⟩⟩, p'.trans hp, s'.imp ?_, k1.trans k' (by simpa using hlo)⟩
    intro a b hab
    have : ¬ b < a := of_decide_eq_false hab
    omega

theorem sSortedFunc_ok {lt : Int → Int → Bool} {S : Int → Prop} (w : Way lt S) (hb : Blk h b1 [.map (some mb)]) (hm : MapI h mb al) (hl : al.length ≤ 12) (hS : ∀ x ∈ al.map (·.1), S x) (f : FuncId) (caps : List Value) (cmp : Int → Int → Int) (hf : entersB Tryz.prog f = true)
    (hc : ∀ hh u v, Keep h hh [] → u ∈ al.map (·.1) → v ∈ al.map (·.1) → CallH Tryz.prog f ⟨i64 u :: i64 v :: caps⟩ hh fun r h' => r = i64 (cmp u v) ∧ h' = hh) (hlt : ∀ u v, u ∈ al.map (·.1) → v ∈ al.map (·.1) → decide (cmp u v < 0) = lt u v) :
    CallH Tryz.prog 60 ⟨[.func (.func 80) #[] #[ptr b1], .func (.func f) ⟨[]⟩ ⟨caps⟩]⟩ h fun v h' => ∃ p n c ds, v = .slice p n c ∧ Vec h' p n c h.size (ints ds) ∧ ds.Perm (al.map (·.1)) ∧ ds.Pairwise (fun x y => lt y x = false) ∧ Keep h h' [] := by
  refine sSortedFunc_call _ _ ⟨by kernel_rfl, (sCollect_ok hb hm (by omega)).mono ?_⟩
  rintro _ h1 ⟨p, n, c, ds, rfl, ⟨hn, hv⟩, hp, k1⟩
  rw [ints_len] at hn
  have hlen : ds.length ≤ 12 := by have := hp.length_eq; simp at this; omega
  refine ⟨p, n, c, rfl, by kernel_rfl, ?_⟩
  rcases hv with ⟨rfl, rfl, hds⟩ | ⟨b, x, rfl, hlo, hbl, hx⟩
  · have : ds = [] := by simpa [ints] using hds
    subst this
    have : n = 0 := hn
    subst this
    refine (sSortFunc_nil h1 0 _).mono ?_
    rintro _ _ ⟨rfl, rfl⟩
    exact ⟨rfl, _, _, _, [], rfl, Vec.nil _ _, hp, by simp, k1⟩
  · subst hn
    refine (sSortFunc_ok w (fun x hx => hS x (hp.subset hx)) f caps cmp hf (fun hh u v k hu hv => hc hh u v (k1.trans k (by simpa using hlo)) (hp.subset hu) (hp.subset hv)) (fun u v hu hv => hlt u v (hp.subset hu) (hp.subset hv)) c hbl hlen).mono ?_
    rintro _ h2 ⟨rfl, l', p', s', b', k'⟩
    exact ⟨rfl, _, _, _, l', rfl, ⟨by rw [ints_len, p'.length_eq], .inr ⟨b, x, rfl, hlo, b', hx⟩⟩, p'.trans hp, s', k1.trans k' (by simpa using hlo)⟩

end
end Go.Proofs.YtfapgccnhonoiaaGreat

/- The cache, part 13: Held. -/
namespace Go.Proofs.YtfapgccnhonoiaaGreat

def Ck.usedOf (K : Ck) (k : Int) : Int := match efind k K.l with | some e => e.used | none => 0
def Ck.later (K : Ck) (x y : Int) : Bool := decide (K.usedOf y < K.usedOf x)

theorem Ck.wayL (K : Ck) : Way K.later fun _ => True :=
  ⟨fun x y _ _ h => by simp only [Ck.later, decide_eq_true_eq, decide_eq_false_iff_not] at *; omega, fun x y z _ _ _ h1 h2 => by simp only [Ck.later, decide_eq_false_iff_not] at *; omega⟩

/-- What Held tells. -/
def Ck.heldR (K : Ck) (ds : List Int) : Prop := ds.Perm (K.l.map (·.p)) ∧ ds.Pairwise fun x y => K.usedOf y ≤ K.usedOf x

section
variable {h : Heap} {c da : Nat} {K : Ck} {q : Cp}

theorem alOf_keys (L : List (En × Ep)) : (alOf L).map (·.1) = L.map fun x => x.1.p := by
  simp [alOf]

theorem CacheR.alKeys (r : CacheR h c da K q) : (alOf q.L).map (·.1) = K.l.map (·.p) := by
  rw [alOf_keys, r.l, List.map_map]; rfl

theorem efind_mem {k : Int} : ∀ {l : List En} {e : En}, efind k l = some e → e ∈ l ∧ e.p = k
  | [], _, h => nomatch h
  | x :: r, e, h => by
    simp only [efind] at h
    split at h
    · rename_i hk
      cases h
      exact ⟨List.mem_cons_self, hk.symm⟩
    · obtain ⟨h1, h2⟩ := efind_mem h
      exact ⟨List.mem_cons_of_mem _ h1, h2⟩

theorem cHeld1_ok (r : CacheR h c da K q) (hu : ∀ e ∈ K.l, 0 ≤ e.used ∧ e.used < 4611686018427387904) {b : Nat} (hb : Blk h b [ptr c]) {u v : Int} (mu : u ∈ K.l.map (·.p)) (mv : v ∈ K.l.map (·.p)) :
    CallH Tryz.prog 62 ⟨[i64 u, i64 v, ptr b]⟩ h fun x h' => x = i64 (K.usedOf v - K.usedOf u) ∧ h' = h := by
  obtain ⟨es, he, _, hk, hg⟩ := r.map.is
  have get : ∀ k, k ∈ K.l.map (·.p) → ∃ x ∈ q.L, x.1.p = k ∧ aget k (alOf q.L) = some (ptr x.2.hb) ∧ K.usedOf k = x.1.used ∧ x.1 ∈ K.l := by
    intro k hkm
    have ha := al_get k q.L
    rw [← r.l] at ha
    cases hgk : aget k (alOf q.L) with
    | none =>
      rw [hgk] at ha
      obtain ⟨e, he, hek⟩ := List.mem_map.1 hkm
      rw [r.l] at he
      obtain ⟨x, hx, rfl⟩ := List.mem_map.1 he
      exact absurd hek (ha.1 x hx)
    | some w =>
      rw [hgk] at ha
      obtain ⟨x, hx, h1, h2, h3⟩ := ha
      refine ⟨x, hx, h1, by rw [h2], ?_, ?_⟩
      · unfold Ck.usedOf; rw [h3]
      · rw [r.l]; exact List.mem_map_of_mem hx
  obtain ⟨x, hx, hxp, hxg, hxu, hxK⟩ := get v mv
  obtain ⟨y, hy, hyp, hyg, hyu, hyK⟩ := get u mu
  refine cHeld1_call u v b ⟨_, hb.cell rfl, _, r.blk.cell rfl, es, he, hk v, fun w hw => ?_, fun hw => ?_⟩
  · rw [hg, hxg] at hw
    cases hw
    refine ⟨_, rfl, _, by rw [addr_add]; exact (r.ents x hx).held.cell rfl, _, hb.cell rfl, _, r.blk.cell rfl, es, he, hk u, fun w hw => ?_, fun hw => ?_⟩
    · rw [hg, hyg] at hw
      cases hw
      refine ⟨_, rfl, _, by rw [addr_add]; exact (r.ents y hy).held.cell rfl, ?_, rfl⟩
      have := hu _ hxK
      have := hu _ hyK
      rw [w64 _ (by omega) (by omega), hxu, hyu]
    · rw [hg, hyg] at hw; cases hw
  · rw [hg, hxg] at hw; cases hw

theorem cHeld_ok (r : CacheR h c da K q) (hu : ∀ e ∈ K.l, 0 ≤ e.used ∧ e.used < 4611686018427387904) (hn : K.l.length ≤ 12) :
    CallH Tryz.prog 20 ⟨[ptr c]⟩ h fun v h' => ∃ p n cap ds, v = .slice p n cap ∧ Vec h' p n cap h.size (ints ds) ∧ K.heldR ds ∧ Keep h h' [] := by
  refine cHeld_call c fun n1 h1 hn1 hh1 => ?_
  have k1 : Keep h h1 [] := by rw [hh1]; exact Keep.push _ _ _
  have box : Blk h1 n1 [ptr c] := by rw [hh1, hn1]; exact Blk.new _ _ _
  have r1 := r.keep k1 (by simp)
  refine ⟨_, box.cell rfl, by kernel_rfl, (cNone_ok r1).mono ?_⟩
  rintro _ h1 ⟨rfl, rfl⟩
  refine ⟨false, rfl, nofun, fun _ => ⟨_, box.cell rfl, _, r1.blk.cell rfl, by kernel_rfl, (mKeys_ok h1 q.mb).mono ?_⟩⟩
  rintro _ h2 ⟨b1, rfl, hb1, k2, _⟩
  have r2 := r1.keep k2 (by simp)
  have hlen : (alOf q.L).length ≤ 12 := by
    have := congrArg List.length r.l
    simp only [List.length_map] at this
    simp [alOf]; omega
  refine ⟨_, rfl, by kernel_rfl, (sSortedFunc_ok K.wayL hb1 r2.map hlen (fun _ _ => trivial) 62 [ptr n1] (fun u v => K.usedOf v - K.usedOf u) (by kernel_rfl) ?_ ?_).mono ?_⟩
  · intro hh u v k hu' hv'
    rw [r2.alKeys] at hu' hv'
    exact cHeld1_ok (r2.keep k (by simp)) hu ((box.keep k2 (by simp)).keep k (by simp)) hu' hv'
  · intro u v _ _
    simp only [Ck.later]
    congr 1
    simp only [eq_iff_iff]
    omega
  · rintro _ h3 ⟨p, n, cap, ds, rfl, hv, hp, hs, k3⟩
    refine ⟨_, _, _, rfl, p, n, cap, ds, rfl, hv.mono (Nat.le_trans k1.size k2.size), ⟨?_, hs.imp ?_⟩, (k1.trans' k2).trans' k3⟩
    · rw [← r2.alKeys]; exact hp
    · intro a b hab
      simp only [Ck.later, decide_eq_false_iff_not] at hab
      omega

end
end Go.Proofs.YtfapgccnhonoiaaGreat

/- The references' comparisons of bytes, and of whole numbers. -/
namespace Go.Proofs.YtfapgccnhonoiaaGreat

theorem rowAt_cell {h : Heap} {b o n : Nat} {l : List Value} (hr : rowAt h ⟨b, o, none⟩ n = some l) {i : Nat} {v : Value} (hi : l[i]? = some v) : cellAt h (Addr.add ⟨b, o, none⟩ i) = some v :=
  (cellAt_of_row hr).2 i v hi

/-- The cells of a slice of bytes. -/
theorem SlAt.cell {h : Heap} {q : Option Addr} {l : Nat} {pg : List Value} {F : List Nat} (s : SlAt h q l pg F) {i : Nat} (hi : i < l) : ∃ a n, q = some a ∧ cellAt h (a.add (i * 1)) = some (.int .u8 n) ∧ pg[i]? = some (.int .u8 n) := by
  obtain ⟨h1, h2, h3⟩ := s
  obtain ⟨b, o, hq, _, _, hr⟩ := h3.resolve_left (by omega)
  have hlt : i < pg.length := by omega
  obtain ⟨n, hn⟩ := h2 _ (List.getElem_mem hlt)
  refine ⟨_, n, hq, ?_, by rw [List.getElem?_eq_getElem hlt, hn]⟩
  rw [Nat.mul_one]
  exact rowAt_cell hr (by rw [List.getElem?_eq_getElem hlt, hn])

section
variable {h : Heap} {q1 q2 : Option Addr} {l1 l2 : Nat} {pg1 pg2 : List Value} {F1 F2 : List Nat}

theorem take_snoc {l : List Value} {n : Nat} {v : Value} (hv : l[n]? = some v) : l.take (n + 1) = l.take n ++ [v] := by
  rw [List.take_add_one, hv]; rfl

/-- How many bytes two begin with that are the same. -/
def preR (pg1 pg2 : List Value) (n : Nat) : Prop := n ≤ pg1.length ∧ n ≤ pg2.length ∧ pg1.take n = pg2.take n ∧ (n < pg1.length → n < pg2.length → pg1[n]? ≠ pg2[n]?)

theorem rPrefix_ok (s1 : SlAt h q1 l1 pg1 F1) (s2 : SlAt h q2 l2 pg2 F2) (c1 c2 : Nat) (hb : l1 < 1000000000000) : CallH Tryz.prog 76 ⟨[.slice q1 l1 c1, .slice q2 l2 c2]⟩ h fun v h' => ∃ n : Nat, v = i64 n ∧ preR pg1 pg2 n ∧ h' = h := by
  have e1 := s1.1
  have e2 := s2.1
  refine rPrefix_call q1 l1 c1 q2 l2 c2 ⟨fun i hh => hh = h ∧ ∃ n : Nat, i = n ∧ n ≤ pg1.length ∧ n ≤ pg2.length ∧ pg1.take n = pg2.take n, fun i _ => (l1 - i).toNat, ⟨rfl, 0, rfl, by omega, by omega, rfl⟩, ?_⟩
  rintro _ hh ⟨rfl, n, rfl, h1, h2, h3⟩
  refine ⟨fun t1 => ⟨fun t2 => ?_, fun t2 => ?_⟩, fun t1 => ?_⟩
  · have t1 : (n : Int) < l1 := of_decide_eq_true t1
    have t2 : (n : Int) < l2 := of_decide_eq_true t2
    obtain ⟨a1, x1, rfl, hc1, hg1⟩ := s1.cell (i := n) (by omega)
    obtain ⟨a2, x2, rfl, hc2, hg2⟩ := s2.cell (i := n) (by omega)
    refine ⟨⟨by omega, t1⟩, x1, hc1, ⟨by omega, t2⟩, x2, hc2, fun t3 => ?_, fun t3 => ?_⟩
    · have t3 : x1 = x2 := by simpa using t3
      have hw : IntKind.wrap .i64 ((n : Int) + 1) = (n + 1 : Nat) := by rw [w64 _ (by omega) (by omega)]; rfl
      rw [hw]
      refine ⟨⟨rfl, n + 1, rfl, by omega, by omega, ?_⟩, (show ((l1 : Int) - ((n + 1 : Nat) : Int)).toNat < ((l1 : Int) - (n : Int)).toNat by omega)⟩
      rw [take_snoc hg1, take_snoc hg2, h3, t3]
    · refine ⟨n, rfl, ⟨h1, h2, h3, fun _ _ e => ?_⟩, rfl⟩
      rw [hg1, hg2] at e
      cases e
      simp at t3
  · have t2 : ¬ (n : Int) < l2 := of_decide_eq_false t2
    exact ⟨n, rfl, ⟨h1, h2, h3, fun _ h => by omega⟩, rfl⟩
  · have t1 : ¬ (n : Int) < l1 := of_decide_eq_false t1
    exact ⟨n, rfl, ⟨h1, h2, h3, fun h _ => by omega⟩, rfl⟩

theorem rCompare_eq (s1 : SlAt h q1 l1 pg1 F1) (s2 : SlAt h q2 l2 pg2 F2) (c1 c2 : Nat) (hb : l1 < 1000000000000) : CallH Tryz.prog 53 ⟨[.slice q1 l1 c1, .slice q2 l2 c2]⟩ h fun v h' => ∃ n : Int, v = i64 n ∧ (n = 0 ↔ pg1 = pg2) ∧ h' = h := by
  have e1 := s1.1
  have e2 := s2.1
  refine rCompare_call q1 l1 c1 q2 l2 c2 ⟨by kernel_rfl, (rPrefix_ok s1 s2 c1 c2 hb).mono ?_⟩
  rintro _ h ⟨n, rfl, ⟨h1, h2, h3, h4⟩, rfl⟩
  have ne : n ≠ l1 ∨ n ≠ l2 → pg1 ≠ pg2 := by
    rintro hn rfl
    exact h4 (by omega) (by omega) rfl
  have fin : ((n : Int) == (l1 : Int)) = false → ((n : Int) == (l2 : Int)) = false → ∃ a1 x1, q1 = some a1 ∧ cellAt h (a1.add (((n : Int)).toNat * 1)) = some (.int .u8 x1) ∧ ∃ a2 x2, q2 = some a2 ∧ cellAt h (a2.add (((n : Int)).toNat * 1)) = some (.int .u8 x2) ∧ pg1 ≠ pg2 ∧ n < l1 ∧ n < l2 := by
    intro t1 t2
    simp only [beq_eq_false_iff_ne] at t1 t2
    have hn1 : n < l1 := by omega
    have hn2 : n < l2 := by omega
    obtain ⟨a1, x1, p1, hc1, hg1⟩ := s1.cell hn1
    obtain ⟨a2, x2, p2, hc2, hg2⟩ := s2.cell hn2
    exact ⟨a1, x1, p1, hc1, a2, x2, p2, hc2, ne (by omega), hn1, hn2⟩
  refine ⟨n, rfl, fun t1 => ⟨fun t2 => ?_, fun t2 => ⟨fun _ => ?_, fun t3 => ?_⟩⟩, fun t1 => ⟨fun t2 => ?_, fun _ => ⟨fun t2 => ?_, fun t2 => ?_⟩⟩⟩
  · simp only [beq_iff_eq] at t1 t2
    refine ⟨0, rfl, ⟨fun _ => ?_, fun _ => rfl⟩, rfl⟩
    rw [List.take_of_length_le (by omega), List.take_of_length_le (by omega)] at h3
    exact h3
  · simp only [beq_eq_false_iff_ne] at t2
    exact ⟨-1, rfl, ⟨fun h => (by omega), fun h => absurd h (ne (by omega))⟩, rfl⟩
  · rw [t1] at t3; cases t3
  · rw [t1] at t2; cases t2
  · simp only [beq_eq_false_iff_ne] at t1
    exact ⟨1, rfl, ⟨fun h => (by omega), fun h => absurd h (ne (by omega))⟩, rfl⟩
  · obtain ⟨a1, x1, rfl, hc1, a2, x2, rfl, hc2, hne, hn1, hn2⟩ := fin t1 t2
    refine ⟨⟨by omega, by omega⟩, x1, hc1, ⟨by omega, by omega⟩, x2, hc2, fun _ => ⟨1, rfl, ⟨fun h => (by omega), fun h => absurd h hne⟩, rfl⟩, fun _ => ⟨-1, rfl, ⟨fun h => (by omega), fun h => absurd h hne⟩, rfl⟩⟩

theorem rSame_ok (s1 : SlAt h q1 l1 pg1 F1) (s2 : SlAt h q2 l2 pg2 F2) (c1 c2 : Nat) (hb : l1 < 1000000000000) : CallH Tryz.prog 15 ⟨[.slice q1 l1 c1, .slice q2 l2 c2]⟩ h fun v h' => ∃ t, v = .bool t ∧ (t = true ↔ pg1 = pg2) ∧ h' = h := by
  refine rSame_call q1 l1 c1 q2 l2 c2 ⟨by kernel_rfl, (rCompare_eq s1 s2 c1 c2 hb).mono ?_⟩
  rintro _ h ⟨n, rfl, hn, rfl⟩
  exact ⟨n, rfl, _, rfl, by simpa using hn, rfl⟩

/-- Two rows of whole numbers. -/
theorem rInts_ok {n1 n2 c1 c2 lo1 lo2 : Nat} {v1 v2 : List Int} (s1 : Vec h q1 n1 c1 lo1 (ints v1)) (s2 : Vec h q2 n2 c2 lo2 (ints v2)) (hb : n1 < 1000000000000) : CallH Tryz.prog 19 ⟨[.slice q1 n1 c1, .slice q2 n2 c2]⟩ h fun v h' => v = .bool (decide (v1 = v2)) ∧ h' = h := by
  have e1 : n1 = v1.length := by rw [s1.1, ints_len]
  have e2 : n2 = v2.length := by rw [s2.1, ints_len]
  refine rInts_call q1 n1 c1 q2 n2 c2 ⟨fun t => ?_, fun t => ?_⟩
  · have : v1 ≠ v2 := by
      rintro rfl
      simp only [bne_iff_ne, ne_eq] at t
      omega
    simp [this]
  · have hn : n1 = n2 := by
      have : (n1 : Int) = n2 := by simpa using t
      omega
    refine ⟨fun i hh => hh = h ∧ ∃ n : Nat, i = n ∧ n ≤ n1 ∧ v1.take n = v2.take n, fun i _ => (n1 - i).toNat, ⟨rfl, 0, rfl, by omega, rfl⟩, ?_⟩
    rintro _ hh ⟨rfl, n, rfl, h1, h3⟩
    refine ⟨fun t1 => ?_, fun t1 => ?_⟩
    · have t1 : (n : Int) < n1 := of_decide_eq_true t1
      have g1 : v1[n]? = some v1[n] := List.getElem?_eq_getElem (by omega)
      have g2 : v2[n]? = some v2[n] := List.getElem?_eq_getElem (by omega)
      obtain ⟨b1, rfl, _, _, hc1⟩ := s1.cell (i := n) (w := i64 v1[n]) (by rw [ints_get, g1]; rfl)
      obtain ⟨b2, rfl, _, _, hc2⟩ := s2.cell (i := n) (w := i64 v2[n]) (by rw [ints_get, g2]; rfl)
      refine ⟨⟨by omega, t1⟩, _, by rw [addr_add]; simpa using hc1, ⟨by omega, by omega⟩, _, by rw [addr_add]; simpa using hc2, fun t3 => ?_, fun t3 => ?_⟩
      · have : v1 ≠ v2 := by
          rintro rfl
          simp at t3
        simp [this]
      · have t3 : v1[n] = v2[n] := by simpa using t3
        have hw : IntKind.wrap .i64 ((n : Int) + 1) = (n + 1 : Nat) := by rw [w64 _ (by omega) (by omega)]; rfl
        rw [hw]
        refine ⟨⟨rfl, n + 1, rfl, by omega, ?_⟩, (show ((n1 : Int) - ((n + 1 : Nat) : Int)).toNat < ((n1 : Int) - (n : Int)).toNat by omega)⟩
        rw [List.take_add_one, List.take_add_one, h3, g1, g2, t3]
    · have t1 : ¬ (n : Int) < n1 := of_decide_eq_false t1
      rw [List.take_of_length_le (by omega), List.take_of_length_le (by omega)] at h3
      simp [h3]

end
end Go.Proofs.YtfapgccnhonoiaaGreat

/- The cache and its disk, told without places: what stays true, and what is shown. -/
namespace Go.Proofs.YtfapgccnhonoiaaGreat

/-! ### Looking for a page -/

theorem efind_emod (j k : Int) (f : En → En) (hf : ∀ e, (f e).p = e.p) : ∀ l, efind j (emod k f l) = if j = k then (efind j l).map f else efind j l
  | [] => by simp [emod, efind]
  | x :: r => by
    have ih := efind_emod j k f hf r
    simp only [emod, List.map_cons, efind] at ih ⊢
    by_cases h1 : x.p = k
    · simp only [h1, if_true, hf]
      by_cases h2 : j = k
      · simp [h2]
      · simp only [h2, if_false] at ih ⊢
        exact ih
    · simp only [h1, if_false]
      by_cases h2 : j = x.p
      · have : ¬ j = k := fun e => h1 (by rw [← h2, e])
        simp [h2, h1]
      · simp only [h2, if_false]
        exact ih

theorem efind_edel (j k : Int) : ∀ l, (l.map (·.p)).Nodup → efind j (edel k l) = if j = k then none else efind j l
  | [], _ => by simp [edel, efind]
  | x :: r, hn => by
    simp only [List.map_cons, List.nodup_cons] at hn
    simp only [edel]
    by_cases h1 : k = x.p
    · rw [if_pos h1]
      by_cases h2 : j = k
      · rw [if_pos h2, h2, efind_none]
        exact fun e he hk => hn.1 (List.mem_map.2 ⟨e, he, by rw [hk, h1]⟩)
      · rw [if_neg h2]
        simp only [efind]
        rw [if_neg (fun e => h2 (by rw [e, h1]))]
    · rw [if_neg h1]
      simp only [efind]
      by_cases h2 : j = x.p
      · rw [if_pos h2, if_pos h2, if_neg (fun e => h1 (by rw [← e, h2]))]
      · rw [if_neg h2, if_neg h2]
        exact efind_edel j k r hn.2

theorem efind_snoc (j : Int) (e : En) : ∀ l, efind j (l ++ [e]) = match efind j l with | some x => some x | none => if j = e.p then some e else none
  | [] => by simp [efind]
  | x :: r => by
    simp only [List.cons_append, efind]
    by_cases h : j = x.p
    · simp [h]
    · simp only [h, if_false]
      exact efind_snoc j e r

theorem efind_of {l : List En} (hn : (l.map (·.p)).Nodup) {e : En} (he : e ∈ l) : efind e.p l = some e := by
  induction l with
  | nil => cases he
  | cons x r ih =>
    simp only [List.map_cons, List.nodup_cons] at hn
    simp only [efind]
    rcases List.mem_cons.1 he with rfl | he
    · simp
    · rw [if_neg (fun e' => hn.1 (List.mem_map.2 ⟨e, he, e'⟩))]
      exact ih hn.2 he

theorem emod_mem {k : Int} {f : En → En} {l : List En} {x : En} (hx : x ∈ emod k f l) : ∃ e ∈ l, (e.p = k ∧ x = f e) ∨ (e.p ≠ k ∧ x = e) := by
  obtain ⟨e, he, rfl⟩ := List.mem_map.1 hx
  refine ⟨e, he, ?_⟩
  by_cases hk : e.p = k
  · exact .inl ⟨hk, by rw [if_pos hk]⟩
  · exact .inr ⟨hk, by rw [if_neg hk]⟩

theorem edel_length {k : Int} : ∀ {l : List En} {e : En}, efind k l = some e → (edel k l).length + 1 = l.length
  | [], _, h => nomatch h
  | x :: r, e, h => by
    simp only [efind] at h
    simp only [edel]
    split at h
    · rename_i hk; rw [if_pos hk]; rfl
    · rename_i hk
      rw [if_neg hk]
      simp [edel_length h]

theorem edel_mem {k : Int} : ∀ {l : List En}, (l.map (·.p)).Nodup → ∀ x ∈ edel k l, x ∈ l ∧ x.p ≠ k
  | [], _, x, hx => nomatch hx
  | y :: r, hn, x, hx => by
    simp only [List.map_cons, List.nodup_cons] at hn
    simp only [edel] at hx
    split at hx
    · rename_i hk
      exact ⟨List.mem_cons_of_mem _ hx, fun e => hn.1 (List.mem_map.2 ⟨x, hx, by rw [e, hk]⟩)⟩
    · rename_i hk
      rcases List.mem_cons.1 hx with hx | hx
      · rw [hx]; exact ⟨List.mem_cons_self, fun e => hk e.symm⟩
      · obtain ⟨h1, h2⟩ := edel_mem hn.2 x hx
        exact ⟨List.mem_cons_of_mem _ h1, h2⟩

/-! ### What the disk shows -/

theorem sget_sset (j k v : Int) : ∀ l, (sget k l).isSome = true → sget j (sset k v l) = if j = k then some v else sget j l
  | [], h => by simp [sget] at h
  | x :: r, h => by
    simp only [sget] at h
    simp only [sset]
    by_cases h1 : k = x.1
    · rw [if_pos h1]
      simp only [sget]
      by_cases h2 : j = k
      · rw [if_pos h2, if_pos h2]
      · rw [if_neg h2, if_neg h2, if_neg (fun e => h2 (by rw [e, h1]))]
    · rw [if_neg h1]
      rw [if_neg h1] at h
      simp only [sget]
      by_cases h2 : j = x.1
      · rw [if_pos h2, if_pos h2, if_neg (fun e => h1 (by rw [← e, h2]))]
      · rw [if_neg h2, if_neg h2]
        exact sget_sset j k v r h

theorem sget_snoc (j k v : Int) : ∀ l, sget k l = none → sget j (l ++ [(k, v)]) = if j = k then some v else sget j l
  | [], _ => by simp [sget]
  | x :: r, h => by
    simp only [sget] at h
    split at h
    · cases h
    · rename_i h1
      simp only [List.cons_append, sget]
      by_cases h2 : j = x.1
      · rw [if_pos h2, if_pos h2, if_neg (fun e => h1 (by rw [← e, h2]))]
      · rw [if_neg h2, if_neg h2]
        exact sget_snoc j k v r h

theorem sget_sput (j k v : Int) (l : List (Int × Int)) : sget j (sput k v l) = if j = k then some v else sget j l := by
  unfold sput
  split
  · rename_i h; exact sget_sset j k v l h
  · rename_i h
    refine sget_snoc j k v l ?_
    cases hs : sget k l with
    | none => rfl
    | some x => rw [hs] at h; simp at h

theorem Dk.lay_show {D : Dk} (o : DkOK D) (i : Int) (pg : List Value) (j : Int) : (D.lay i pg).show j = if j = i then pg else D.show j := by
  unfold Dk.show Dk.lay
  simp only [sget_sput]
  by_cases h : j = i
  · simp [h]
  · simp only [h, if_false]
    cases hs : sget j D.sh with
    | none => rfl
    | some k =>
      have := o.keys _ (sget_mem _ _ _ hs)
      simp only at this ⊢
      rw [List.getElem?_append_left (by omega)]

theorem Dk.spend_calm {D : Dk} (ha : D.armed = false) : D.spend.2 = true ∧ D.spend.1.st = D.st ∧ D.spend.1.ws = D.ws ∧ D.spend.1.sh = D.sh ∧ D.spend.1.off = D.off ∧ D.spend.1.armed = false := by
  unfold Dk.spend
  simp [ha]

theorem Dk.show_of {D D' : Dk} (h1 : D'.st = D.st) (h2 : D'.ws = D.ws) (h3 : D'.sh = D.sh) (j : Int) : D'.show j = D.show j := by
  unfold Dk.show
  rw [h1, h2, h3]

theorem Dk.ok_of {D D' : Dk} (h1 : D'.st = D.st) (h2 : D'.ws = D.ws) (h3 : D'.sh = D.sh) (o : DkOK D) : DkOK D' := by
  obtain ⟨a, b, c, d, e, f, g⟩ := o
  constructor <;> simp only [h1, h2, h3] <;> assumption

/-- A write, while the power is there for good. -/
theorem Dk.write_calm {D : Dk} (o : DkOK D) (ha : D.armed = false) {i : Int} {pg : List Value} (h0 : 0 ≤ i) (h1 : i < D.st.length) (hp : okPage pg) (hb : D.ws.length < 1000000) :
    (D.write i pg).2 = 0 ∧ DkOK (D.write i pg).1 ∧ (D.write i pg).1.st = D.st ∧ (D.write i pg).1.ws.length = D.ws.length + 1 ∧ (D.write i pg).1.off = D.off ∧ (D.write i pg).1.armed = false ∧ ∀ j, (D.write i pg).1.show j = if j = i then pg else D.show j := by
  have hs := Dk.spend_calm (D := D.lay i pg) ha
  unfold Dk.write
  refine ⟨by rw [hs.1]; rfl, Dk.ok_of hs.2.1 hs.2.2.1 hs.2.2.2.1 (Dk.lay_ok o h0 h1 hp hb), hs.2.1, ?_, hs.2.2.2.2.1, hs.2.2.2.2.2, fun j => ?_⟩
  · show (D.lay i pg).spend.1.ws.length = _
    rw [hs.2.2.1]; simp [Dk.lay]
  · show (D.lay i pg).spend.1.show j = _
    rw [Dk.show_of hs.2.1 hs.2.2.1 hs.2.2.2.1]; exact Dk.lay_show o i pg j

end Go.Proofs.YtfapgccnhonoiaaGreat

/- What stays true of a cache and its disk while the power is there for good. -/
namespace Go.Proofs.YtfapgccnhonoiaaGreat

/-- What a page shows. -/
def viewOf (D : Dk) (K : Ck) (k : Int) : List Value := match efind k K.l with | some e => e.b | none => D.show k
def Ck.pinOf (K : Ck) (k : Int) : Int := match efind k K.l with | some e => e.pins | none => 0

structure Good (D : Dk) (K : Ck) (n t : Nat) : Prop where
  ok : DkOK D
  pages : D.st.length = n
  on : D.off = false
  calm : D.armed = false
  few : D.ws.length ≤ t
  room : (K.l.length : Int) ≤ K.size
  two : 2 ≤ K.size
  keys : ∀ e ∈ K.l, 0 ≤ e.p ∧ e.p < n
  nodup : (K.l.map (·.p)).Nodup
  good : ∀ e ∈ K.l, okPage e.b ∧ 0 ≤ e.pins
  clean : ∀ e ∈ K.l, e.ch = false → e.b = D.show e.p
  clock : 0 ≤ K.clock ∧ K.clock ≤ t
  used : ∀ e ∈ K.l, 0 < e.used ∧ e.used ≤ K.clock
  apart : (K.l.map (·.used)).Nodup

/-- Room can be made. -/
def Ck.free (K : Ck) : Prop := (K.l.length : Int) < K.size ∨ ∃ e ∈ K.l, ¬ 0 < e.pins

/-- Nothing that is shown or pinned is another one. -/
structure Alike (D : Dk) (K : Ck) (D' : Dk) (K' : Ck) : Prop where
  view : ∀ j, viewOf D' K' j = viewOf D K j
  pins : ∀ j, K'.pinOf j = K.pinOf j
  size : K'.size = K.size

theorem Alike.refl (D : Dk) (K : Ck) : Alike D K D K := ⟨fun _ => rfl, fun _ => rfl, rfl⟩
theorem Alike.trans {D D' D'' : Dk} {K K' K'' : Ck} (a : Alike D K D' K') (b : Alike D' K' D'' K'') : Alike D K D'' K'' :=
  ⟨fun j => (b.view j).trans (a.view j), fun j => (b.pins j).trans (a.pins j), b.size.trans a.size⟩

section
variable {D D' : Dk} {K K' : Ck} {n t : Nat}

theorem Good.mono (g : Good D K n t) {t' : Nat} (h : t ≤ t') : Good D K n t' :=
  { g with few := Nat.le_trans g.few h, clock := ⟨g.clock.1, by have := g.clock.2; omega⟩ }

theorem Good.find (g : Good D K n t) {e : En} (he : e ∈ K.l) : efind e.p K.l = some e := efind_of g.nodup he

/-- An entry that is not pinned is dropped; the disk shows its bytes by now. -/
theorem Good.drop (g : Good D K n t) {D' : Dk} {t' : Nat} (ht : t ≤ t') (ok : DkOK D') (hp : D'.st.length = n) (hon : D'.off = false) (hcalm : D'.armed = false) (hfew : D'.ws.length ≤ t') {e : En} (he : e ∈ K.l) (hpin : ¬ 0 < e.pins) (hshow : ∀ j, D'.show j = if j = e.p then e.b else D.show j) :
    Good D' { K with l := edel e.p K.l } n t' ∧ Alike D K D' { K with l := edel e.p K.l } ∧ (edel e.p K.l).length + 1 = K.l.length := by
  have hlen := edel_length (g.find he)
  have sub := edel_sub e.p K.l
  have mem := fun x (hx : x ∈ edel e.p K.l) => edel_mem g.nodup x hx
  refine ⟨⟨ok, hp, hon, hcalm, hfew, ?_, g.two, fun x hx => g.keys x (mem x hx).1, g.nodup.sublist (sub.map _), fun x hx => g.good x (mem x hx).1, fun x hx hc => ?_, ⟨g.clock.1, ?_⟩, fun x hx => g.used x (mem x hx).1, g.apart.sublist (sub.map _)⟩, ⟨fun j => ?_, fun j => ?_, rfl⟩, hlen⟩
  · have := g.room; simp only; omega
  · rw [g.clean x (mem x hx).1 hc, hshow, if_neg (mem x hx).2]
  · have := g.clock.2; simp only; omega
  · unfold viewOf
    simp only
    rw [efind_edel j e.p K.l g.nodup, hshow]
    by_cases hj : j = e.p
    · simp [hj, g.find he]
    · simp [hj]
  · unfold Ck.pinOf
    simp only
    rw [efind_edel j e.p K.l g.nodup]
    by_cases hj : j = e.p
    · have := (g.good e he).2
      simp [hj, g.find he]
      omega
    · simp [hj]

theorem Good.at_zero (g : Good D K n t) {k : Int} (h0 : 0 ≤ k) (h1 : k < n) : D.at k 256 = 0 := by
  unfold Dk.at Dk.pow
  rw [if_neg (by have := g.pages; omega), g.on]
  rfl

theorem Good.may_zero (g : Good D K n t) {k : Int} (h0 : 0 ≤ k) (h1 : k < n) : D.may k 256 = 0 := by
  unfold Dk.may
  rw [if_neg (by have := g.pages; omega)]

theorem Good.make (g : Good D K n t) (ht : t < 1000000) (hf : K.free) {v : Int} (r : roomR D K v D' K') : v = 0 ∧ Good D' K' n (t + 1) ∧ Alike D K D' K' ∧ (K'.l.length : Int) < K'.size ∧ K'.l.Sublist K.l := by
  have hsub := (roomR_sub r).1
  rcases r with ⟨h1, h2, rfl, rfl⟩ | ⟨h1, b, hold, ⟨hb, h2, rfl, rfl⟩ | ⟨hb, e, he, hm, hr⟩⟩
  · exact ⟨h2, g.mono (by omega), Alike.refl _ _, h1, hsub⟩
  · exfalso
    rcases hold with ⟨_, ha⟩ | ⟨e, hm, hep, _⟩
    · rcases hf with hf | ⟨e, he, hn⟩
      · exact h1 hf
      · exact hn (ha e he)
    · have := (g.keys e hm).1; omega
  · have hep := (efind_mem he).2
    have hpin : ¬ 0 < e.pins := by
      rcases hold with ⟨hb1, _⟩ | ⟨e', hm', hep', hnp, _⟩
      · omega
      · have := g.find hm'
        rw [hep', he] at this
        rw [Option.some.inj this]; exact hnp
    have hk := g.keys e hm
    have hroom := g.room
    rcases hr with ⟨hc, h2, rfl, rfl⟩ | ⟨hc, hat, _⟩ | ⟨hc, hat, h2, rfl, rfl⟩
    · have := g.drop (D' := D') (t' := t + 1) (by omega) g.ok g.pages g.on g.calm (by have := g.few; omega) hm hpin (fun j => by
        by_cases hj : j = e.p
        · rw [if_pos hj, hj, g.clean e hm hc]
        · rw [if_neg hj])
      rw [hep] at this
      exact ⟨h2, this.1, this.2.1, by have := this.2.2; simp only; omega, hsub⟩
    · rw [← hep] at hat
      exact absurd (g.at_zero hk.1 hk.2) hat
    · have hl := g.pages
      have hfew := g.few
      obtain ⟨w1, w2, w3, w4, w5, w6, w7⟩ := Dk.write_calm g.ok g.calm (i := b) (pg := e.b) hb (by omega) (g.good e hm).1 (by omega)
      have := g.drop (D' := (D.write b e.b).1) (t' := t + 1) (by omega) w2 (by rw [w3]; exact hl) (by rw [w5]; exact g.on) w6 (by omega) hm hpin (fun j => by rw [hep]; exact w7 j)
      rw [hep] at this
      have hv : v = 0 := by rw [h2, w1]
      rw [if_pos hv] at hsub ⊢
      exact ⟨hv, this.1, this.2.1, by have := this.2.2; simp only; omega, hsub⟩

theorem Good.miss (g : Good D K n t) : Good D K.miss n t := { g with }
theorem Alike.miss (D : Dk) (K : Ck) : Alike D K D K.miss := ⟨fun _ => rfl, fun _ => rfl, rfl⟩

theorem wrapT {c : Int} (h0 : 0 ≤ c) (h1 : c < 1000000000) : IntKind.wrap .i64 (c + 1) = c + 1 := w64 _ (by omega) (by omega)

/-- A page that is held is used. -/
theorem Good.hit (g : Good D K n t) (ht : t < 1000000) {k : Int} {e : En} (he : efind k K.l = some e) : Good D (K.hit k) n (t + 1) ∧ Alike D K D (K.hit k) ∧ (∃ u, efind k (K.hit k).l = some { e with used := u }) ∧ (K.hit k).l.length = K.l.length := by
  have hw := wrapT g.clock.1 (by have := g.clock.2; omega)
  have hf : ∀ j, efind j (K.hit k).l = if j = k then (efind j K.l).map (fun e => { e with used := K.clock + 1 }) else efind j K.l := by
    intro j
    show efind j (emod k _ K.l) = _
    rw [efind_emod j k (fun e => { e with used := IntKind.wrap .i64 (K.clock + 1) }) (fun _ => rfl), hw]
  have hl : (K.hit k).l = emod k (fun e => { e with used := K.clock + 1 }) K.l := by
    show emod k (fun e => { e with used := IntKind.wrap .i64 (K.clock + 1) }) K.l = _
    rw [hw]
  have hcl : (K.hit k).clock = K.clock + 1 := hw
  have mem : ∀ x ∈ (K.hit k).l, ∃ y ∈ K.l, (y.p = k ∧ x = { y with used := K.clock + 1 }) ∨ (y.p ≠ k ∧ x = y) := fun x hx => by
    rw [hl] at hx; exact emod_mem hx
  refine ⟨⟨g.ok, g.pages, g.on, g.calm, by have := g.few; omega, ?_, g.two, fun x hx => ?_, ?_, fun x hx => ?_, fun x hx hc => ?_, ?_, fun x hx => ?_, ?_⟩, ⟨fun j => ?_, fun j => ?_, rfl⟩, ⟨K.clock + 1, ?_⟩, ?_⟩
  · rw [hl]
    show _ ≤ K.size
    simpa [emod] using g.room
  · obtain ⟨y, hy, ⟨_, rfl⟩ | ⟨_, rfl⟩⟩ := mem x hx
    · exact g.keys y hy
    · exact g.keys x hy
  · rw [hl, emod_keys]
    · exact g.nodup
    · exact fun _ => rfl
  · obtain ⟨y, hy, ⟨_, rfl⟩ | ⟨_, rfl⟩⟩ := mem x hx
    · exact g.good y hy
    · exact g.good x hy
  · obtain ⟨y, hy, ⟨_, rfl⟩ | ⟨_, rfl⟩⟩ := mem x hx
    · exact g.clean y hy hc
    · exact g.clean x hy hc
  · rw [hcl]; have := g.clock; omega
  · rw [hcl]
    obtain ⟨y, hy, ⟨_, rfl⟩ | ⟨_, rfl⟩⟩ := mem x hx
    · have := g.clock; simp only; omega
    · have := g.used x hy; omega
  · rw [hl]
    have : ∀ (l : List En), (l.map (·.p)).Nodup → (l.map (·.used)).Nodup → (∀ e ∈ l, e.used ≤ K.clock) → ((emod k (fun e => { e with used := K.clock + 1 }) l).map (·.used)).Nodup ∧ ∀ u ∈ (emod k (fun e => { e with used := K.clock + 1 }) l).map (·.used), u ∈ l.map (·.used) ∨ (u = K.clock + 1 ∧ k ∈ l.map (·.p)) := by
      intro l
      induction l with
      | nil => intro _ _ _; exact ⟨by simp [emod], by simp [emod]⟩
      | cons x r ih =>
        intro h1 h2 h3
        simp only [List.map_cons, List.nodup_cons] at h1 h2
        obtain ⟨i1, i2⟩ := ih h1.2 h2.2 fun e he => h3 e (List.mem_cons_of_mem _ he)
        simp only [emod, List.map_cons] at i1 i2 ⊢
        by_cases hk : x.p = k
        · rw [if_pos hk]
          refine ⟨List.nodup_cons.2 ⟨fun hm => ?_, i1⟩, fun u hu => ?_⟩
          · rcases i2 _ hm with hm | ⟨_, hm⟩
            · obtain ⟨y, hy, hyu⟩ := List.mem_map.1 hm
              have := h3 y (List.mem_cons_of_mem _ hy)
              simp only at hyu
              omega
            · rw [← hk] at hm; exact h1.1 hm
          · rcases List.mem_cons.1 hu with hu | hu
            · exact .inr ⟨hu, by simp [hk]⟩
            · rcases i2 u hu with h | ⟨h, hm⟩
              · exact .inl (List.mem_cons_of_mem _ h)
              · exact .inr ⟨h, List.mem_cons_of_mem _ hm⟩
        · rw [if_neg hk]
          refine ⟨List.nodup_cons.2 ⟨fun hm => ?_, i1⟩, fun u hu => ?_⟩
          · rcases i2 _ hm with hm | ⟨hm, _⟩
            · exact h2.1 hm
            · have := h3 x List.mem_cons_self; omega
          · rcases List.mem_cons.1 hu with hu | hu
            · exact .inl (by rw [hu]; exact List.mem_cons_self)
            · rcases i2 u hu with h | ⟨h, hm⟩
              · exact .inl (List.mem_cons_of_mem _ h)
              · exact .inr ⟨h, List.mem_cons_of_mem _ hm⟩
    exact (this K.l g.nodup g.apart fun e he => (g.used e he).2).1
  · unfold viewOf
    rw [hf]
    by_cases hj : j = k
    · subst hj; simp [he]
    · simp [hj]
  · unfold Ck.pinOf
    rw [hf]
    by_cases hj : j = k
    · subst hj; simp [he]
    · simp [hj]
  · rw [hf, if_pos rfl, he]; rfl
  · rw [hl]; simp [emod]

/-- A new entry. -/
theorem Good.enter (g : Good D K n t) (ht : t < 1000000) {k : Int} (h0 : 0 ≤ k) (h1 : k < n) (hn : efind k K.l = none) (hr : (K.l.length : Int) < K.size) (pg : List Value) (hpg : okPage pg) (ch : Bool) (hc : ch = false → pg = D.show k) :
    Good D (K.enter ⟨k, pg, ch, 0, IntKind.wrap .i64 (K.clock + 1)⟩) n (t + 1) ∧ (∀ j, viewOf D (K.enter ⟨k, pg, ch, 0, IntKind.wrap .i64 (K.clock + 1)⟩) j = if j = k then pg else viewOf D K j) ∧
    (∀ j, (K.enter ⟨k, pg, ch, 0, IntKind.wrap .i64 (K.clock + 1)⟩).pinOf j = K.pinOf j) ∧ efind k (K.enter ⟨k, pg, ch, 0, IntKind.wrap .i64 (K.clock + 1)⟩).l = some ⟨k, pg, ch, 0, IntKind.wrap .i64 (K.clock + 1)⟩ := by
  have hw := wrapT g.clock.1 (by have := g.clock.2; omega)
  have hno := (efind_none k K.l).1 hn
  have hf : ∀ j, efind j (K.enter ⟨k, pg, ch, 0, IntKind.wrap .i64 (K.clock + 1)⟩).l = if j = k then some ⟨k, pg, ch, 0, IntKind.wrap .i64 (K.clock + 1)⟩ else efind j K.l := by
    intro j
    show efind j (K.l ++ [_]) = _
    rw [efind_snoc]
    by_cases hj : j = k
    · subst hj; simp [hn]
    · simp only [hj, if_false]
      cases efind j K.l <;> rfl
  have mem : ∀ x ∈ (K.enter ⟨k, pg, ch, 0, IntKind.wrap .i64 (K.clock + 1)⟩).l, x ∈ K.l ∨ x = ⟨k, pg, ch, 0, K.clock + 1⟩ := fun x hx => by
    rcases List.mem_append.1 hx with hx | hx
    · exact .inl hx
    · rw [List.mem_singleton.1 hx, hw]; exact .inr rfl
  have hcl : (K.enter ⟨k, pg, ch, 0, IntKind.wrap .i64 (K.clock + 1)⟩).clock = K.clock + 1 := hw
  have hclk := g.clock
  refine ⟨⟨g.ok, g.pages, g.on, g.calm, by have := g.few; omega, ?_, g.two, fun x hx => ?_, ?_, fun x hx => ?_, fun x hx hc' => ?_, ?_, fun x hx => ?_, ?_⟩, fun j => ?_, fun j => ?_, ?_⟩
  · show ((K.l ++ [_]).length : Int) ≤ K.size
    simp only [List.length_append, List.length_cons, List.length_nil]; omega
  · rcases mem x hx with hx | rfl
    · exact g.keys x hx
    · exact ⟨h0, h1⟩
  · show ((K.l ++ [_]).map _).Nodup
    rw [List.map_append]
    refine List.nodup_append.2 ⟨g.nodup, by simp, fun a ha b hb e => ?_⟩
    simp only [List.map_cons, List.map_nil, List.mem_singleton] at hb
    obtain ⟨y, hy, hya⟩ := List.mem_map.1 ha
    exact hno y hy (by rw [hya, e, hb])
  · rcases mem x hx with hx | rfl
    · exact g.good x hx
    · exact ⟨hpg, Int.le_refl _⟩
  · rcases mem x hx with hx | rfl
    · exact g.clean x hx hc'
    · exact hc hc'
  · rw [hcl]; omega
  · rw [hcl]
    rcases mem x hx with hx | rfl
    · have := g.used x hx; omega
    · simp only; omega
  · show ((K.l ++ [_]).map _).Nodup
    rw [List.map_append]
    refine List.nodup_append.2 ⟨g.apart, by simp, fun a ha b hb e => ?_⟩
    simp only [List.map_cons, List.map_nil, List.mem_singleton] at hb
    obtain ⟨y, hy, hya⟩ := List.mem_map.1 ha
    have := g.used y hy
    omega
  · unfold viewOf
    rw [hf]
    by_cases hj : j = k <;> simp [hj]
  · unfold Ck.pinOf
    rw [hf]
    by_cases hj : j = k
    · subst hj; simp [hn]
    · simp [hj]
  · rw [hf, if_pos rfl]

end
end Go.Proofs.YtfapgccnhonoiaaGreat

/- What Get, Put, Pin, Unpin and Forget do to a cache while the power is there for good. -/
namespace Go.Proofs.YtfapgccnhonoiaaGreat

section
variable {D D' : Dk} {K K' : Ck} {n t : Nat}

/-- One entry's content has changed, not its page nor when it was used. -/
theorem Good.content (g : Good D K n t) (k : Int) (f : En → En) (hf : ∀ e, (f e).p = e.p ∧ (f e).used = e.used) (hg : ∀ e ∈ K.l, e.p = k → okPage (f e).b ∧ 0 ≤ (f e).pins ∧ ((f e).ch = false → (f e).b = D.show k)) :
    Good D { K with l := emod k f K.l } n t := by
  have mem : ∀ x ∈ emod k f K.l, ∃ y ∈ K.l, (y.p = k ∧ x = f y) ∨ (y.p ≠ k ∧ x = y) := fun x hx => emod_mem hx
  refine ⟨g.ok, g.pages, g.on, g.calm, g.few, ?_, g.two, fun x hx => ?_, ?_, fun x hx => ?_, fun x hx hc => ?_, g.clock, fun x hx => ?_, ?_⟩
  · simpa [emod] using g.room
  · obtain ⟨y, hy, ⟨_, rfl⟩ | ⟨_, rfl⟩⟩ := mem x hx
    · rw [(hf y).1]; exact g.keys y hy
    · exact g.keys x hy
  · simp only
    rw [emod_keys _ _ (fun e => (hf e).1)]; exact g.nodup
  · obtain ⟨y, hy, ⟨hk, rfl⟩ | ⟨_, rfl⟩⟩ := mem x hx
    · exact ⟨(hg y hy hk).1, (hg y hy hk).2.1⟩
    · exact g.good x hy
  · obtain ⟨y, hy, ⟨hk, rfl⟩ | ⟨_, rfl⟩⟩ := mem x hx
    · rw [(hf y).1, hk]; exact (hg y hy hk).2.2 hc
    · exact g.clean x hy hc
  · obtain ⟨y, hy, ⟨_, rfl⟩ | ⟨_, rfl⟩⟩ := mem x hx
    · rw [(hf y).2]; exact g.used y hy
    · exact g.used x hy
  · simp only
    have : (emod k f K.l).map (·.used) = K.l.map (·.used) := by
      unfold emod
      rw [List.map_map]
      apply List.map_congr_left
      intro x _
      simp only [Function.comp]
      split
      · exact (hf x).2
      · rfl
    rw [this]; exact g.apart

theorem Good.get (g : Good D K n t) (ht : t < 900000) {k : Int} (h0 : 0 ≤ k) (h1 : k < n) (hfree : K.free ∨ (efind k K.l).isSome = true) {res : Except Int (List Value)} (r : GetR D K k res D' K') :
    res = .ok (viewOf D K k) ∧ Good D' K' n (t + 2) ∧ Alike D K D' K' ∧ (efind k K'.l).isSome = true := by
  have hmay := g.may_zero h0 h1
  have gm := g.miss
  cases r with
  | bad h => exact absurd hmay h
  | held e h he =>
    obtain ⟨g', a, ⟨u, hu⟩, _⟩ := g.hit (by omega) he
    refine ⟨?_, g'.mono (by omega), a, by rw [hu]; rfl⟩
    unfold viewOf; rw [he]
  | full m _ _ h he hr hn =>
    have hf : K.miss.free := hfree.resolve_right (by rw [he]; simp)
    exact absurd (gm.make (by omega) hf hr).1 hn
  | off _ _ h he hr ha =>
    have hf : K.miss.free := hfree.resolve_right (by rw [he]; simp)
    exact absurd ((gm.make (by omega) hf hr).2.1.at_zero h0 h1) ha
  | new D1 K1 h he hr ha =>
    have hf : K.miss.free := hfree.resolve_right (by rw [he]; simp)
    obtain ⟨_, g1, a1, hroom, hsub⟩ := gm.make (by omega) hf hr
    have he1 : efind k K1.l = none := by
      rw [efind_none] at he ⊢
      exact fun e he' => he e (hsub.subset he')
    have hpg : okPage (D'.show k) := Dk.show_ok g1.ok h0 (by rw [g1.pages]; exact h1)
    obtain ⟨g2, v2, p2, f2⟩ := g1.enter (by omega) h0 h1 he1 hroom (D'.show k) hpg false (fun _ => rfl)
    have hv1 : viewOf D' K1 k = D'.show k := by unfold viewOf; rw [he1]
    have hv : viewOf D K k = D'.show k := by rw [← hv1]; exact (a1.view k).symm
    refine ⟨by rw [hv], g2, (Alike.miss D K).trans (a1.trans ⟨fun j => ?_, p2, rfl⟩), by rw [f2]; rfl⟩
    rw [v2]
    by_cases hj : j = k
    · rw [if_pos hj, hj, hv1]
    · rw [if_neg hj]

theorem Good.put (g : Good D K n t) (ht : t < 900000) {k : Int} (h0 : 0 ≤ k) (h1 : k < n) (hfree : K.free ∨ (efind k K.l).isSome = true) {pg : List Value} (hpg : okPage pg) {m : Int} (r : PutR D K k (256 : Nat) pg m D' K') :
    m = 0 ∧ Good D' K' n (t + 2) ∧ (∀ j, viewOf D' K' j = if j = k then pg else viewOf D K j) ∧ (∀ j, K'.pinOf j = K.pinOf j) ∧ K'.size = K.size ∧ (efind k K'.l).isSome = true := by
  have hmay : D.may k ((256 : Nat) : Int) = 0 := g.may_zero h0 h1
  have gm := g.miss
  cases r with
  | bad h => exact absurd hmay h
  | held e h he =>
    obtain ⟨g', a, ⟨u, hu⟩, _⟩ := g.hit (by omega) he
    have gc := g'.content k (fun e => { e with b := pg, ch := true }) (fun _ => ⟨rfl, rfl⟩) (fun e he _ => ⟨hpg, (g'.good e he).2, nofun⟩)
    have hf : ∀ j, efind j (emod k (fun e => { e with b := pg, ch := true }) (K.hit k).l) = if j = k then (efind j (K.hit k).l).map (fun e => { e with b := pg, ch := true }) else efind j (K.hit k).l := fun j => by apply efind_emod; intro _; rfl
    refine ⟨rfl, gc.mono (by omega), fun j => ?_, fun j => ?_, rfl, ?_⟩
    · rw [← a.view j]
      unfold viewOf
      simp only
      rw [hf]
      by_cases hj : j = k
      · subst hj; simp [hu]
      · simp [hj]
    · rw [← a.pins j]
      unfold Ck.pinOf
      simp only
      rw [hf]
      by_cases hj : j = k
      · subst hj; simp [hu]
      · simp [hj]
    · simp only
      rw [hf, if_pos rfl, hu]; rfl
  | full m _ _ h he hr hn =>
    have hf : K.miss.free := hfree.resolve_right (by rw [he]; simp)
    exact absurd (gm.make (by omega) hf hr).1 hn
  | new _ K1 h he hr =>
    have hf : K.miss.free := hfree.resolve_right (by rw [he]; simp)
    obtain ⟨_, g1, a1, hroom, hsub⟩ := gm.make (by omega) hf hr
    have he1 : efind k K1.l = none := by
      rw [efind_none] at he ⊢
      exact fun e he' => he e (hsub.subset he')
    obtain ⟨g2, v2, p2, f2⟩ := g1.enter (by omega) h0 h1 he1 hroom pg hpg true nofun
    have aa := (Alike.miss D K).trans a1
    refine ⟨rfl, g2, fun j => ?_, fun j => ?_, aa.size, by rw [f2]; rfl⟩
    · rw [v2, aa.view]
    · rw [p2, aa.pins]

/-- All are pinned, and there is no room. -/
theorem Good.full (g : Good D K n t) {k : Int} (h0 : 0 ≤ k) (h1 : k < n) (hl : ¬ (K.l.length : Int) < K.size) (hp : ∀ e ∈ K.l, 0 < e.pins) (hk : efind k K.l = none) {res : Except Int (List Value)} (r : GetR D K k res D' K') :
    res = .error 6 ∧ D' = D ∧ K' = K.miss := by
  have hmay := g.may_zero h0 h1
  have fullR : ∀ {v D1 K1}, roomR D K.miss v D1 K1 → v = 6 ∧ D1 = D ∧ K1 = K.miss := by
    intro v D1 K1 hr
    rcases hr with ⟨h, _⟩ | ⟨_, b, hold, ⟨_, h2, h3, h4⟩ | ⟨hb, e, he, hm, _⟩⟩
    · exact absurd h hl
    · exact ⟨h2, h3, h4⟩
    · rcases hold with ⟨hb1, _⟩ | ⟨e', hm', _, hnp, _⟩
      · omega
      · exact absurd (hp e' hm') hnp
  cases r with
  | bad h => exact absurd hmay h
  | held e h he => rw [hk] at he; cases he
  | full m _ _ h he hr hn =>
    obtain ⟨rfl, rfl, rfl⟩ := fullR hr
    exact ⟨rfl, rfl, rfl⟩
  | off _ _ h he hr ha => exact absurd (fullR hr).1 (by decide)
  | new D1 K1 h he hr ha => exact absurd (fullR hr).1 (by decide)

theorem Good.pin (g : Good D K n t) {k : Int} {e : En} (he : efind k K.l = some e) (hb : e.pins < 1000000000) : (K.pin k).2 = 0 ∧ Good D (K.pin k).1 n t ∧ (∀ j, viewOf D (K.pin k).1 j = viewOf D K j) ∧ (∀ j, (K.pin k).1.pinOf j = if j = k then K.pinOf j + 1 else K.pinOf j) ∧ (K.pin k).1.size = K.size ∧ (K.pin k).1.l.length = K.l.length ∧ (∀ j, (efind j (K.pin k).1.l).isSome = (efind j K.l).isSome) := by
  have hm := (efind_mem he).1
  have hp := (g.good e hm).2
  have hu : K.pin k = ({ K with l := emod k (fun e => { e with pins := IntKind.wrap .i64 (e.pins + 1) }) K.l }, 0) := by unfold Ck.pin; rw [he]
  have hf : ∀ j, efind j (emod k (fun e => { e with pins := IntKind.wrap .i64 (e.pins + 1) }) K.l) = if j = k then (efind j K.l).map (fun e => { e with pins := IntKind.wrap .i64 (e.pins + 1) }) else efind j K.l := fun j => by apply efind_emod; intro _; rfl
  have hw : IntKind.wrap .i64 (e.pins + 1) = e.pins + 1 := w64 _ (by omega) (by omega)
  have huniq : ∀ x ∈ K.l, x.p = k → x = e := fun x hx hxk => by
    have := g.find hx
    rw [hxk, he] at this
    exact (Option.some.inj this).symm
  rw [hu]
  refine ⟨rfl, g.content k (fun e => { e with pins := IntKind.wrap .i64 (e.pins + 1) }) (fun _ => ⟨rfl, rfl⟩) (fun x hx hxk => ?_), fun j => ?_, fun j => ?_, rfl, by simp [emod], fun j => ?_⟩
  · have hxe := huniq x hx hxk
    subst hxe
    refine ⟨(g.good x hm).1, ?_, fun hc => ?_⟩
    · show 0 ≤ IntKind.wrap .i64 (x.pins + 1)
      rw [hw]; omega
    · rw [← hxk]; exact g.clean x hm hc
  · unfold viewOf
    simp only
    rw [hf]
    by_cases hj : j = k
    · subst hj; simp [he]
    · simp [hj]
  · unfold Ck.pinOf
    simp only
    rw [hf]
    by_cases hj : j = k
    · subst hj; simp [he, hw]
    · simp [hj]
  · simp only
    rw [hf]
    by_cases hj : j = k
    · subst hj; simp [he]
    · simp [hj]

theorem Good.unpin (g : Good D K n t) {k : Int} {e : En} (he : efind k K.l = some e) (hb : 0 < e.pins) (hb2 : e.pins < 1000000000) : (K.unpin k).2 = 0 ∧ Good D (K.unpin k).1 n t ∧ (∀ j, viewOf D (K.unpin k).1 j = viewOf D K j) ∧ (∀ j, (K.unpin k).1.pinOf j = if j = k then K.pinOf j - 1 else K.pinOf j) ∧ (K.unpin k).1.size = K.size ∧ (∀ j, (efind j (K.unpin k).1.l).isSome = (efind j K.l).isSome) := by
  have hm := (efind_mem he).1
  have hu : K.unpin k = ({ K with l := emod k (fun e => { e with pins := IntKind.wrap .i64 (e.pins - 1) }) K.l }, 0) := by unfold Ck.unpin; rw [he]; simp only; rw [if_neg (by omega)]
  have hf : ∀ j, efind j (emod k (fun e => { e with pins := IntKind.wrap .i64 (e.pins - 1) }) K.l) = if j = k then (efind j K.l).map (fun e => { e with pins := IntKind.wrap .i64 (e.pins - 1) }) else efind j K.l := fun j => by apply efind_emod; intro _; rfl
  have hw : IntKind.wrap .i64 (e.pins - 1) = e.pins - 1 := w64 _ (by omega) (by omega)
  have huniq : ∀ x ∈ K.l, x.p = k → x = e := fun x hx hxk => by
    have := g.find hx
    rw [hxk, he] at this
    exact (Option.some.inj this).symm
  rw [hu]
  refine ⟨rfl, g.content k (fun e => { e with pins := IntKind.wrap .i64 (e.pins - 1) }) (fun _ => ⟨rfl, rfl⟩) (fun x hx hxk => ?_), fun j => ?_, fun j => ?_, rfl, fun j => ?_⟩
  · have hxe := huniq x hx hxk
    subst hxe
    refine ⟨(g.good x hm).1, ?_, fun hc => ?_⟩
    · show 0 ≤ IntKind.wrap .i64 (x.pins - 1)
      rw [hw]; omega
    · rw [← hxk]; exact g.clean x hm hc
  · unfold viewOf
    simp only
    rw [hf]
    by_cases hj : j = k
    · subst hj; simp [he]
    · simp [hj]
  · unfold Ck.pinOf
    simp only
    rw [hf]
    by_cases hj : j = k
    · subst hj; simp [he, hw]
    · simp [hj]
  · simp only
    rw [hf]
    by_cases hj : j = k
    · subst hj; simp [he]
    · simp [hj]

theorem Good.new {D : Dk} {n t : Nat} (ok : DkOK D) (hp : D.st.length = n) (h1 : D.off = false) (h2 : D.armed = false) (h3 : D.ws.length ≤ t) {s : Int} (hs : 2 ≤ s) : Good D (Ck.new s) n t :=
  ⟨ok, hp, h1, h2, h3, by simp [Ck.new]; omega, hs, nofun, by simp [Ck.new], nofun, nofun, by simp [Ck.new], nofun, by simp [Ck.new]⟩

end
end Go.Proofs.YtfapgccnhonoiaaGreat

/- A cache and its disk that lie in new memory: what calls do to them. -/
namespace Go.Proofs.YtfapgccnhonoiaaGreat

/-- Only these blocks have changed, and they are now those, or new ones. -/
structure Fr (h h' : Heap) (F F' : List Nat) : Prop where
  keep : Keep h h' F
  sub : ∀ b ∈ F', b ∈ F ∨ h.size ≤ b

theorem Fr.off {h h' : Heap} {F F' : List Nat} (f : Fr h h' F F') {n : Nat} (hn : n < h.size) (hF : n ∉ F) : n ∉ F' := fun hx => (f.sub n hx).elim hF fun h => by omega

/-- They lie behind all of h0, and h0 is as it was. -/
structure Own (h0 h : Heap) (c da : Nat) (D : Dk) (K : Ck) (p : Pl) (q : Cp) : Prop where
  cd : CD h c da D K p q
  keep : Keep h0 h []
  new : ∀ b ∈ cdFoot c da p q, h0.size ≤ b

section
variable {h0 h h' : Heap} {c da : Nat} {D D' : Dk} {K K' : Ck} {p p' : Pl} {q q' : Cp} {n t : Nat}

theorem Own.go (o : Own h0 h c da D K p q) (r : CD h' c da D' K' p' q') (k : Keep h h' (cdFoot c da p q)) (s : ∀ b ∈ cdFoot c da p' q', b ∈ cdFoot c da p q ∨ h.size ≤ b) : Own h0 h' c da D' K' p' q' :=
  ⟨r, o.keep.trans k fun b hb => .inr (o.new b hb), fun b hb => (s b hb).elim (o.new b) fun h => Nat.le_trans o.keep.size h⟩

theorem Own.post (o : Own h0 h c da D K p q) (x : CDPost h h' c da p q D' K') : ∃ p' q', Own h0 h' c da D' K' p' q' := by
  obtain ⟨p', q', r, k, s⟩ := x
  exact ⟨p', q', o.go r k s⟩

theorem Own.beside (o : Own h0 h c da D K p q) (k : Keep h h' []) : Own h0 h' c da D K p q :=
  ⟨o.cd.keep k (by simp), o.keep.trans k (by simp), o.new⟩

theorem Good.p0 (g : Good D K n t) : ∀ e ∈ K.l, 0 ≤ e.p := fun e he => (g.keys e he).1

theorem Own.get (o : Own h0 h c da D K p q) (g : Good D K n t) (ht : t < 1000000) (k : Int) : CallH Tryz.prog 18 ⟨[ptr c, i64 k]⟩ h fun v h' =>
    ∃ res D' K' p' q', GetR D K k res D' K' ∧ gotR h' h.size (cdFoot c da p' q') v res ∧ Own h0 h' c da D' K' p' q' ∧ Fr h h' (cdFoot c da p q) (cdFoot c da p' q') := by
  refine (cGet_ok o.cd g.p0 (by have := g.few; omega) k).mono ?_
  rintro v h' ⟨res, D', K', p', q', r1, r2, r3, r4, r5⟩
  exact ⟨res, D', K', p', q', r1, r2, o.go r3 r4 r5, ⟨r4, r5⟩⟩

theorem Own.put (o : Own h0 h c da D K p q) (g : Good D K n t) (ht : t < 1000000) (k : Int) (s : Option Addr) (l cp : Nat) (pg : List Value) (hs : SlAt h s l pg (cdFoot c da p q)) : CallH Tryz.prog 16 ⟨[ptr c, i64 k, .slice s l cp]⟩ h fun v h' =>
    ∃ m D' K' p' q', v = i64 m ∧ PutR D K k l pg m D' K' ∧ Own h0 h' c da D' K' p' q' ∧ Fr h h' (cdFoot c da p q) (cdFoot c da p' q') := by
  refine (cPut_ok o.cd g.p0 (by have := g.few; omega) k s l cp pg hs).mono ?_
  rintro v h' ⟨m, D', K', rfl, r1, r2⟩
  obtain ⟨p', q', r, k, s⟩ := r2
  exact ⟨m, D', K', p', q', rfl, r1, o.go r k s, ⟨k, s⟩⟩

theorem Own.same {x : CPost h h' c da q K'} (o : Own h0 h c da D K p q) : ∃ p' q', Own h0 h' c da D K' p' q' := o.post (o.cd.cache x)

theorem blk_sl {h : Heap} {n : Nat} {pg : List Value} {F : List Nat} (hp : okPage pg) (hb : Blk h n pg) (hF : n ∉ F) : SlAt h (some ⟨n, 0, none⟩) 256 pg F := by
  refine ⟨hp.1, hp.2, .inr ⟨n, 0, rfl, hF, hb.lt, ?_⟩⟩
  rw [hb.row (by rw [hp.1]; omega), List.drop_zero, List.take_of_length_le (by rw [hp.1]; omega)]

/-- A page of one byte, in new memory, as a slice. -/
theorem pg_sl {h h' : Heap} {n : Nat} {cc : Int} {F : List Nat} (hb : Blk h' n (bytePg cc)) (hn : h.size ≤ n) (hF : ∀ b ∈ F, b < h.size) : SlAt h' (some ⟨n, 0, none⟩) 256 (bytePg cc) F := by
  refine ⟨(bytePg_ok cc).1, (bytePg_ok cc).2, .inr ⟨n, 0, rfl, fun hx => ?_, hb.lt, ?_⟩⟩
  · have := hF n hx; omega
  · have hl : (bytePg cc).length = 256 := (bytePg_ok cc).1
    rw [hb.row (by omega), List.drop_zero, List.take_of_length_le (by omega)]

theorem gotR_sl {h' : Heap} {old : Nat} {F : List Nat} {v : Value} {pg : List Value} (g : gotR h' old F v (.ok pg)) : ∃ b cap, v = .tuple ⟨[.slice (some ⟨b, 0, none⟩) 256 cap, i64 0]⟩ ∧ SlAt h' (some ⟨b, 0, none⟩) 256 pg F ∧ b < h'.size ∧ old ≤ b := by
  obtain ⟨b, cap, x, rfl, hb, hold, hF, hpg⟩ := g
  refine ⟨b, cap, rfl, ⟨hpg.1, hpg.2, .inr ⟨b, 0, rfl, hF, hb.lt, ?_⟩⟩, hb.lt, hold⟩
  rw [hb.row (by rw [List.length_append, hpg.1]; omega), List.drop_zero, List.take_append_of_le_length (by rw [hpg.1]; omega), List.take_of_length_le (by rw [hpg.1]; omega)]

/-- A new disk and a new cache over it. -/
theorem new_ok (h : Heap) (pages size : Int) (h1 : 8 ≤ pages) (h2 : pages ≤ 2048) (h3 : 2 ≤ size) (h4 : size ≤ 64) :
    CallH Tryz.prog 4 ⟨[i64 pages]⟩ h fun v h' => ∃ da, v = .tuple ⟨[ptr da, i64 0]⟩ ∧ CallH Tryz.prog 7 ⟨[ptr da, i64 size]⟩ h' fun v2 h2 => ∃ c p q, v2 = .tuple ⟨[ptr c, i64 0]⟩ ∧ Own h h2 c da (Dk.new pages.toNat) (Ck.new size) p q := by
  refine (dNew_ok h pages).mono ?_
  rintro v h' ⟨_, hv⟩
  obtain ⟨a, p, rfl, r, k, s⟩ := hv ⟨h1, h2⟩
  refine ⟨a, rfl, (cNew_ok r size).mono ?_⟩
  rintro v2 h2 ⟨_, hv⟩
  obtain ⟨c, q, rfl, r2, k2, s2⟩ := hv ⟨h3, h4⟩
  refine ⟨c, p, q, rfl, r2, k.trans' k2, fun b hb => ?_⟩
  rcases List.mem_append.1 hb with hb | hb
  · exact Nat.le_trans k.size (s2 b hb)
  · exact s b hb

theorem Dk.new_ok {n : Nat} (h1 : 8 ≤ n) (h2 : n ≤ 2048) : DkOK (Dk.new n) :=
  ⟨fun x hx => by rw [List.eq_of_mem_replicate hx]; exact zeroPg_ok, by simp [Dk.new]; omega, by simp [Dk.new]; omega, nofun, nofun, by simp [Dk.new], by simp [Dk.new]⟩

theorem Good.start {n : Nat} (h1 : 8 ≤ n) (h2 : n ≤ 2048) {s : Int} (hs : 2 ≤ s) : Good (Dk.new n) (Ck.new s) n 0 :=
  Good.new (Dk.new_ok h1 h2) (by simp [Dk.new]) rfl rfl (by simp [Dk.new]) hs

theorem start_view {n : Nat} {s k : Int} (h0 : 0 ≤ k) (h1 : k < n) : viewOf (Dk.new n) (Ck.new s) k = bytePg 0 := by
  show (Dk.new n).show k = _
  unfold Dk.show
  show ((List.replicate n zeroPg)[k.toNat]?).getD [] = _
  rw [List.getElem?_replicate, if_pos (by omega)]
  rfl

end
end Go.Proofs.YtfapgccnhonoiaaGreat

/- Two texts of one document: what the program's cache and the reference's tell stays alike behind each act; no condition beyond those each theorem states. -/
import Derived.Test.YtfapgccnhonoiaaGreatMi

/- Two texts of one document: the disk told by the program, and by the reference. -/
namespace Go.Proofs.YtfapgccnhonoiaaGreat

structure SimD (D : Dk) (E : RDk) : Prop where
  st : E.S = D.st
  ws : E.W = D.ws
  off : E.off = D.off
  left : E.left = if D.armed = true then D.left else -1
  done : E.done = D.ops
  sane : D.armed = true → 0 ≤ D.left ∧ D.left < 9223372036854775808
  sh : ∀ k : Int, (∃ (i : Nat) (pg : Pg), sget k D.sh = some (i : Int) ∧ D.ws[i]? = some (k, pg) ∧ ∀ j w, i < j → D.ws[j]? = some w → w.1 ≠ k) ∨ (sget k D.sh = none ∧ ∀ w ∈ D.ws, w.1 ≠ k)

section
variable {D D' : Dk} {E E' : RDk}

theorem SimD.at (s : SimD D E) (k l : Int) : E.at k l = D.at k l := by
  unfold RDk.at Dk.at Dk.pow
  rw [s.st, s.off]

theorem SimD.has (s : SimD D E) (k : Int) : E.has k ↔ D.may k 256 = 0 := by
  unfold RDk.has Dk.may
  rw [s.st]
  by_cases h : k < 0 ∨ (D.st.length : Int) ≤ k ∨ (256 : Int) ≠ 256
  · rw [if_pos h]; omega
  · rw [if_neg h]; omega

/-- The page that is shown is the one that was written last. -/
theorem SimD.shown (s : SimD D E) {k : Int} {pg : Pg} (h0 : 0 ≤ k) (h : E.showR k pg) : pg = D.show k := by
  unfold RDk.showR at h
  unfold Dk.show
  rw [s.ws, s.st] at h
  rcases s.sh k with ⟨i, p, h1, h2, h3⟩ | ⟨h1, h2⟩
  · rw [h1]
    simp only [Int.toNat_natCast, h2, Option.getD_some]
    rcases h with ⟨j, h4, h5⟩ | ⟨h4, _⟩
    · by_cases hij : i < j
      · exact absurd rfl (h3 j _ hij h4)
      · by_cases hji : j < i
        · exact absurd rfl (h5 i _ hji h2)
        · have : i = j := by omega
          rw [this, h4] at h2
          cases h2; rfl
    · exact absurd rfl (h4 _ (List.mem_of_getElem? h2))
  · rw [h1]
    rcases h with ⟨j, h4, _⟩ | ⟨_, h4⟩
    · exact absurd rfl (h2 _ (List.mem_of_getElem? h4))
    · simp [h4]

theorem SimD.show_is (s : SimD D E) {k : Int} (h0 : 0 ≤ k) (h1 : k < D.st.length) : E.showR k (D.show k) := by
  unfold RDk.showR Dk.show
  rw [s.ws, s.st]
  rcases s.sh k with ⟨i, p, h1, h2, h3⟩ | ⟨h1', h2⟩
  · rw [h1]
    exact .inl ⟨i, by simp [h2], h3⟩
  · rw [h1']
    refine .inr ⟨h2, ?_⟩
    rw [List.getElem?_eq_getElem (by omega)]
    rfl

theorem SimD.spend (s : SimD D E) : SimD D.spend.1 E.goes.1 ∧ E.goes.2 = !D.spend.2 := by
  obtain ⟨h1, h2, h3, h4, h5, h6, h7⟩ := s
  unfold Dk.spend RDk.goes
  cases ha : D.armed with
  | false =>
    rw [ha] at h4
    simp only [Bool.false_eq_true, if_false] at h4
    rw [if_neg (show ¬ E.left = 0 by rw [h4]; decide), if_neg (show ¬ (false = true ∧ D.left = 0) by simp)]
    refine ⟨⟨h1, h2, h3, ?_, by rw [h5], by simp [ha], h7⟩, rfl⟩
    simp [h4, ha]
  | true =>
    rw [ha, if_pos rfl] at h4
    obtain ⟨l0, l1⟩ := h6 ha
    by_cases hz : D.left = 0
    · rw [if_pos (show E.left = 0 by rw [h4, hz]), if_pos (show true = true ∧ D.left = 0 from ⟨rfl, hz⟩)]
      refine ⟨⟨h1, h2, rfl, ?_, h5, fun _ => ⟨l0, l1⟩, h7⟩, rfl⟩
      simp [ha, h4]
    · rw [if_neg (show ¬ E.left = 0 by rw [h4]; exact hz), if_neg (show ¬ (true = true ∧ D.left = 0) by simp [hz])]
      have w1 := w64 (D.left - 1) (by omega) (by omega)
      refine ⟨⟨h1, h2, h3, ?_, by rw [h5], fun _ => ?_, h7⟩, rfl⟩
      · simp only [if_true]
        rw [h4, if_pos (by omega)]
      · simp only [if_true]
        rw [w1]; omega

theorem SimD.lay (s : SimD D E) (k : Int) (pg : Pg) : SimD (D.lay k pg) (E.lay k pg) := by
  obtain ⟨h1, h2, h3, h4, h5, h6, h7⟩ := s
  refine ⟨h1, by simp only [RDk.lay, Dk.lay, h2], h3, h4, h5, h6, fun j => ?_⟩
  simp only [Dk.lay]
  rw [sget_sput]
  by_cases hj : j = k
  · subst hj
    rw [if_pos rfl]
    refine .inl ⟨D.ws.length, pg, rfl, by simp, fun i w hi hw => ?_⟩
    have := (List.getElem?_eq_some_iff.1 hw).1
    simp at this
    omega
  · rw [if_neg hj]
    rcases h7 j with ⟨i, p, g1, g2, g3⟩ | ⟨g1, g2⟩
    · have hil := (List.getElem?_eq_some_iff.1 g2).1
      refine .inl ⟨i, p, g1, by rw [List.getElem?_append_left hil]; exact g2, fun m w hm hw => ?_⟩
      by_cases hml : m < D.ws.length
      · rw [List.getElem?_append_left hml] at hw
        exact g3 m w hm hw
      · rw [List.getElem?_append_right (by omega)] at hw
        have hm0 : m - D.ws.length = 0 := by
          have := (List.getElem?_eq_some_iff.1 hw).1
          simp at this
          omega
        rw [hm0] at hw
        simp only [List.getElem?_cons_zero, Option.some.injEq] at hw
        rw [← hw]
        exact fun h => hj h.symm
    · refine .inr ⟨g1, fun w hw => ?_⟩
      rcases List.mem_append.1 hw with h | h
      · exact g2 w h
      · rw [List.mem_singleton.1 h]; exact fun h => hj h.symm

theorem SimD.write (s : SimD D E) (k : Int) (pg : Pg) : SimD (D.write k pg).1 (E.write k pg).1 ∧ (E.write k pg).2 = (D.write k pg).2 := by
  obtain ⟨h1, h2⟩ := (s.lay k pg).spend
  unfold Dk.write RDk.write
  refine ⟨h1, ?_⟩
  simp only [h2]
  cases (D.lay k pg).spend.2 <;> rfl

/-- A write that is refused outright, or goes on. -/
theorem SimD.wr (s : SimD D E) (k : Int) (pg : Pg) : (D.at k 256 ≠ 0 → E.wr k pg = (E, D.at k 256)) ∧ (D.at k 256 = 0 → SimD (D.write k pg).1 (E.wr k pg).1 ∧ (E.wr k pg).2 = (D.write k pg).2) := by
  unfold RDk.wr
  rw [s.at]
  refine ⟨fun h => if_neg h, fun h => ?_⟩
  rw [if_pos h]
  exact s.write k pg

theorem setAll_append : ∀ (a b : List (Int × Pg)) (S : List Pg), setAll (a ++ b) S = setAll b (setAll a S)
  | [], _, _ => rfl
  | _ :: r, b, S => by simp only [List.cons_append, setAll]; exact setAll_append r b _

theorem setAll_keep {k : Nat} : ∀ (a : List (Int × Pg)) (S : List Pg), (∀ w ∈ a, w.1.toNat ≠ k) → (setAll a S)[k]? = S[k]?
  | [], _, _ => rfl
  | w :: r, S, h => by
    simp only [setAll]
    rw [setAll_keep r _ fun x hx => h x (List.mem_cons_of_mem _ hx), List.getElem?_set_ne (h w List.mem_cons_self)]

theorem setAll_show {k : Int} {pg : Pg} (h0 : 0 ≤ k) (h1 : k < E.S.length) (hk : ∀ w ∈ E.W, 0 ≤ w.1) (h : E.showR k pg) : (setAll E.W E.S)[k.toNat]? = some pg := by
  rcases h with ⟨i, h2, h3⟩ | ⟨h2, h3⟩
  · have hil := (List.getElem?_eq_some_iff.1 h2).1
    have hd : E.W = E.W.take i ++ ((k, pg) :: E.W.drop (i + 1)) := by
      conv => lhs; rw [← List.take_append_drop i E.W, List.drop_eq_getElem_cons hil]
      congr 2
      exact Option.some.inj ((List.getElem?_eq_getElem hil).symm.trans h2)
    rw [hd, setAll_append]
    simp only [setAll]
    rw [setAll_keep, List.getElem?_set_self (by rw [setAll_len]; omega)]
    intro w hw
    obtain ⟨m, hm, rfl⟩ := List.getElem_of_mem hw
    have hm2 : E.W[i + 1 + m]? = some (E.W.drop (i + 1))[m] := by rw [← List.getElem?_drop]; exact List.getElem?_eq_getElem hm
    have := h3 (i + 1 + m) _ (by omega) hm2
    have := hk _ (List.mem_of_getElem? hm2)
    omega
  · rw [setAll_keep _ _ fun w hw => ?_]
    · exact h3
    · have := h2 w hw
      have := hk w hw
      omega

theorem SimD.settle (s : SimD D E) (hk : ∀ w ∈ E.W, 0 ≤ w.1) : SimD D.settle { E with S := setAll E.W E.S, W := [] } := by
  refine ⟨?_, rfl, s.off, s.left, s.done, s.sane, fun k => .inr ⟨rfl, nofun⟩⟩
  unfold Dk.settle Dk.flat
  simp only
  apply List.ext_getElem?
  intro i
  by_cases hi : i < D.st.length
  · have hE : (i : Int) < E.S.length := by rw [s.st]; omega
    have := setAll_show (k := (i : Int)) (by omega) hE hk (s.show_is (by omega) (by omega))
    rw [Int.toNat_natCast] at this
    rw [this, List.getElem?_map, List.getElem?_range hi]
    rfl
  · rw [List.getElem?_eq_none (by rw [setAll_len, s.st]; omega), List.getElem?_eq_none (by simp; omega)]

/-- Behind a crash. -/
def Dk.crash (D : Dk) (pk : List Int) : Dk := { D with st := crashAll pk 0 D.ws D.st, ws := [], sh := [], off := false, armed := false }

theorem SimD.crash (s : SimD D E) (pk : List Int) : SimD (D.crash pk) (E.crash pk) := by
  refine ⟨?_, rfl, rfl, rfl, s.done, nofun, fun k => .inr ⟨rfl, nofun⟩⟩
  simp only [Dk.crash, RDk.crash, s.st, s.ws]

def Dk.arm (D : Dk) (n : Int) : Dk × Int := if n < 0 then (D, 1) else if D.pow ≠ 0 then (D, D.pow) else ({ D with armed := true, left := n }, 0)

theorem SimD.arm (s : SimD D E) {n : Int} (hn : n < 9223372036854775808) : SimD (D.arm n).1 (if n < 0 ∨ E.off = true then E else { E with left := n }) ∧ (if n < 0 then 1 else if E.off then 5 else 0) = (D.arm n).2 := by
  unfold Dk.arm Dk.pow
  rw [s.off]
  by_cases h : n < 0
  · rw [if_pos h, if_pos (.inl h), if_pos h]; exact ⟨s, rfl⟩
  rw [if_neg h]
  cases ho : D.off with
  | true =>
    simp only [h, if_false, if_true, or_true, ne_eq, show ¬ (5 : Int) = 0 by decide, not_false_eq_true]
    exact ⟨s, trivial⟩
  | false =>
    simp only [h, if_false, Bool.false_eq_true, or_self, ne_eq, not_true_eq_false]
    exact ⟨⟨s.st, s.ws, rfl, rfl, s.done, fun _ => ⟨by simp only; omega, hn⟩, s.sh⟩, trivial⟩

end
end Go.Proofs.YtfapgccnhonoiaaGreat

/- Two texts of one document: the cache told by the program, and by the reference. -/
namespace Go.Proofs.YtfapgccnhonoiaaGreat

def entOf (e : En) : Ent := ⟨e.p, e.b, e.ch, e.pins⟩

structure SimK (K : Ck) (C : RCk) (t : Nat) : Prop where
  size : C.size = K.size
  hits : C.hits = K.hits
  misses : C.misses = K.misses
  list : ∃ l : List En, l.Perm K.l ∧ l.Pairwise (fun x y => y.used < x.used) ∧ C.L = l.map entOf
  nodup : (K.l.map (·.p)).Nodup
  used : ∀ e ∈ K.l, 0 < e.used ∧ e.used ≤ K.clock
  clock : 0 ≤ K.clock ∧ K.clock ≤ t
  range : ∀ e ∈ K.l, 0 ≤ e.p ∧ e.p < 8
  pins : ∀ e ∈ K.l, 0 ≤ e.pins ∧ e.pins ≤ t
  room : (K.l.length : Int) ≤ K.size

def others (k : Int) (l : List En) : List En := l.filter fun e => !(e.p == k)

theorem edel_others (k : Int) : ∀ {l : List En}, (l.map (·.p)).Nodup → edel k l = others k l
  | [], _ => rfl
  | x :: r, hn => by
    simp only [List.map_cons, List.nodup_cons, List.mem_map, not_exists, not_and] at hn
    simp only [edel]
    by_cases h : k = x.p
    · rw [if_pos h]
      have : others k r = r := List.filter_eq_self.2 fun e he => by simpa [h] using hn.1 e he
      simp only [others, List.filter_cons] at this ⊢
      rw [show (x.p == k) = true by simp [h]]
      simp only [Bool.not_true, Bool.false_eq_true, if_false]
      exact this.symm
    · rw [if_neg h, edel_others k hn.2]
      simp only [others, List.filter_cons]
      rw [show (x.p == k) = false by simpa using fun h' => h h'.symm]
      simp

theorem others_ent (k : Int) (l : List En) : (others k l).map entOf = without k (l.map entOf) := by
  unfold others without
  rw [List.filter_map]
  rfl

theorem emod_others {k : Int} (f : En → En) : ∀ {l : List En} {e : En}, (l.map (·.p)).Nodup → efind k l = some e → (emod k f l).Perm (f e :: others k l)
  | [], _, _, h => nomatch h
  | x :: r, e, hn, h => by
    simp only [List.map_cons, List.nodup_cons, List.mem_map, not_exists, not_and] at hn
    simp only [efind] at h
    simp only [emod, List.map_cons, others, List.filter_cons]
    by_cases hk : k = x.p
    · rw [if_pos hk] at h
      cases h
      rw [if_pos hk.symm, show (x.p == k) = true by simp [hk]]
      simp only [Bool.not_true, Bool.false_eq_true, if_false]
      have h1 : others k r = r := List.filter_eq_self.2 fun e he => by simpa [hk] using hn.1 e he
      have h2 : emod k f r = r := by
        unfold emod
        conv => rhs; rw [← List.map_id r]
        refine List.map_congr_left fun e he => ?_
        rw [if_neg (by rw [hk]; exact hn.1 e he)]; rfl
      unfold others at h1
      unfold emod at h2
      rw [h1, h2]
    · rw [if_neg hk] at h
      have ih := emod_others f hn.2 h
      rw [if_neg (fun h => hk h.symm), show (x.p == k) = false by simpa using fun h' => hk h'.symm]
      simp only [Bool.not_false, if_true]
      exact (ih.cons x).trans (List.Perm.swap _ _ _)

theorem emod_ent {k : Int} {f : En → En} {g : Ent → Ent} (hfg : ∀ e, entOf (f e) = g (entOf e)) (l : List En) : (emod k f l).map entOf = modE k g (l.map entOf) := by
  unfold emod modE
  rw [List.map_map, List.map_map]
  refine List.map_congr_left fun e _ => ?_
  simp only [Function.comp]
  by_cases h : e.p = k
  · rw [if_pos h, if_pos (show (entOf e).p = k from h), hfg]
  · rw [if_neg h, if_neg (show ¬ (entOf e).p = k from h)]

section
variable {K K' : Ck} {C C' : RCk} {t : Nat}

theorem SimK.mono (s : SimK K C t) {t' : Nat} (h : t ≤ t') : SimK K C t' :=
  { s with clock := ⟨s.clock.1, by have := s.clock.2; omega⟩, pins := fun e he => ⟨(s.pins e he).1, by have := (s.pins e he).2; omega⟩ }

theorem SimK.len (s : SimK K C t) : C.L.length = K.l.length := by
  obtain ⟨l, hp, _, he⟩ := s.list
  rw [he, List.length_map, hp.length_eq]

theorem SimK.mem (s : SimK K C t) {x : Ent} : x ∈ C.L ↔ ∃ e ∈ K.l, x = entOf e := by
  obtain ⟨l, hp, _, he⟩ := s.list
  rw [he, List.mem_map]
  constructor
  · rintro ⟨e, h, rfl⟩; exact ⟨e, hp.mem_iff.1 h, rfl⟩
  · rintro ⟨e, h, rfl⟩; exact ⟨e, hp.mem_iff.2 h, rfl⟩

theorem SimK.keys (s : SimK K C t) : (C.L.map Ent.p).Nodup := by
  obtain ⟨l, hp, _, he⟩ := s.list
  rw [he, List.map_map]
  exact (hp.map (·.p)).nodup_iff.2 s.nodup

theorem SimK.find (s : SimK K C t) {k : Int} {e : En} (he : efind k K.l = some e) : entOf e ∈ C.L ∧ e.p = k ∧ e ∈ K.l := by
  obtain ⟨h1, h2⟩ := efind_mem he
  exact ⟨s.mem.2 ⟨e, h1, rfl⟩, h2, h1⟩

theorem SimK.lacks (s : SimK K C t) {k : Int} : efind k K.l = none ↔ ∀ x ∈ C.L, x.p ≠ k := by
  rw [efind_none]
  constructor
  · intro h x hx
    obtain ⟨e, he, rfl⟩ := s.mem.1 hx
    exact h e he
  · intro h e he
    exact h _ (s.mem.2 ⟨e, he, rfl⟩)

theorem SimK.of (s : SimK K C t) {x : Ent} (hx : x ∈ C.L) : ∃ e, efind x.p K.l = some e ∧ x = entOf e := by
  obtain ⟨e, he, rfl⟩ := s.mem.1 hx
  exact ⟨e, efind_of s.nodup he, rfl⟩

theorem SimK.same (s : SimK K C t) {k : Int} {e : En} (he : efind k K.l = some e) {x : Ent} (hx : x ∈ C.L) (hk : x.p = k) : x = entOf e := by
  obtain ⟨e', h1, rfl⟩ := s.of hx
  rw [hk, he] at h1
  rw [Option.some.inj h1]

theorem SimK.miss (s : SimK K C t) : SimK K.miss C.miss t := { s with misses := by simp only [Ck.miss, RCk.miss, s.misses] }

theorem SimK.drop (s : SimK K C t) : SimK K.drop { C with L := [] } t :=
  ⟨s.size, s.hits, s.misses, ⟨[], List.Perm.refl _, List.Pairwise.nil, rfl⟩, by simp [Ck.drop], nofun, s.clock, nofun, nofun, by have := s.room; simp [Ck.drop]; omega⟩

theorem SimK.del (s : SimK K C t) (k : Int) : SimK { K with l := edel k K.l } { C with L := without k C.L } t := by
  obtain ⟨l, hp, hs, he⟩ := s.list
  have sub := edel_sub k K.l
  refine ⟨s.size, s.hits, s.misses, ⟨others k l, ?_, hs.filter _, ?_⟩, s.nodup.sublist (sub.map _), fun e h => s.used e (sub.subset h), s.clock, fun e h => s.range e (sub.subset h), fun e h => s.pins e (sub.subset h), ?_⟩
  · simp only [edel_others k s.nodup]
    exact hp.filter _
  · simp only [he, others_ent]
  · have := s.room
    have := sub.length_le
    simp only
    omega

theorem SimK.mod (s : SimK K C t) (k : Int) {f : En → En} {g : Ent → Ent} (hf : ∀ e, (f e).p = e.p ∧ (f e).used = e.used) (hfg : ∀ e, entOf (f e) = g (entOf e)) {t' : Nat} (ht : t ≤ t') (hpin : ∀ e ∈ K.l, e.p = k → 0 ≤ (f e).pins ∧ (f e).pins ≤ t') :
    SimK { K with l := emod k f K.l } { C with L := modE k g C.L } t' := by
  obtain ⟨l, hp, hs, he⟩ := s.list
  have hmem : ∀ {P : En → Prop}, (∀ e ∈ K.l, (e.p = k → P (f e)) ∧ (e.p ≠ k → P e)) → ∀ e ∈ emod k f K.l, P e := fun h e he => by
    obtain ⟨e0, h0, h1 | h1⟩ := emod_mem he
    · rw [h1.2]; exact (h e0 h0).1 h1.1
    · rw [h1.2]; exact (h e0 h0).2 h1.1
  refine ⟨s.size, s.hits, s.misses, ⟨emod k f l, hp.map _, ?_, ?_⟩, ?_, ?_, ⟨s.clock.1, by have := s.clock.2; simp only; omega⟩, ?_, ?_, ?_⟩
  · unfold emod
    rw [List.pairwise_map]
    refine hs.imp fun {x y} h => ?_
    have h1 : ∀ e : En, (if e.p = k then f e else e).used = e.used := fun e => by split; exact (hf e).2; rfl
    rw [h1, h1]; exact h
  · simp only [he]; exact (emod_ent hfg l).symm
  · simp only [emod_keys k f (fun e => (hf e).1)]; exact s.nodup
  · refine hmem fun e h => ⟨fun _ => ?_, fun _ => s.used e h⟩
    rw [(hf e).2]; exact s.used e h
  · refine hmem fun e h => ⟨fun _ => ?_, fun _ => s.range e h⟩
    rw [(hf e).1]; exact s.range e h
  · refine hmem fun e h => ⟨fun hk => hpin e h hk, fun _ => ?_⟩
    have := s.pins e h; omega
  · have : (emod k f K.l).length = K.l.length := List.length_map _
    simp only [this]; exact s.room

/-- A page is used: it comes to the front. -/
theorem SimK.uses (s : SimK K C t) (ht : t < 1000000) {k : Int} {e : En} (he : efind k K.l = some e) {f : En → En} (hf : (f e).p = k ∧ (f e).used = IntKind.wrap .i64 (K.clock + 1) ∧ (f e).pins = e.pins) :
    SimK { K with clock := IntKind.wrap .i64 (K.clock + 1), l := emod k f K.l } (C.use (entOf (f e))) (t + 1) := by
  obtain ⟨l, hp, hs, hc⟩ := s.list
  obtain ⟨c0, c1⟩ := s.clock
  have hw := w64 (K.clock + 1) (by omega) (by omega)
  rw [hw] at hf ⊢
  obtain ⟨_, hek, hem⟩ := s.find he
  have perm := emod_others f s.nodup he
  have hmem : ∀ {P : En → Prop}, P (f e) → (∀ x ∈ K.l, P x) → ∀ x ∈ emod k f K.l, P x := fun h1 h2 x hx => by
    rcases List.mem_cons.1 (perm.mem_iff.1 hx) with rfl | h
    · exact h1
    · exact h2 x (List.mem_filter.1 h).1
  have ho : (others k K.l).map (·.p) = ((others k K.l).map (·.p)) := rfl
  refine ⟨s.size, s.hits, s.misses, ⟨f e :: others k l, ((hp.filter _).cons _).trans perm.symm, ?_, ?_⟩, ?_, ?_, ⟨by simp only; omega, by simp only; omega⟩, ?_, ?_, ?_⟩
  · refine List.pairwise_cons.2 ⟨fun x hx => ?_, hs.filter _⟩
    have := (s.used x (hp.mem_iff.1 (List.mem_filter.1 hx).1)).2
    rw [hf.2.1]; omega
  · show entOf (f e) :: without (f e).p C.L = _
    rw [hf.1, hc, List.map_cons, others_ent]
  · simp only
    refine (perm.map (·.p)).nodup_iff.2 ?_
    simp only [List.map_cons, List.nodup_cons, List.mem_map, not_exists, not_and]
    refine ⟨fun x hx hxp => ?_, ?_⟩
    · have := (List.mem_filter.1 hx).2
      rw [hf.1] at hxp
      simp [hxp] at this
    · exact s.nodup.sublist (List.filter_sublist.map _)
  · refine hmem ⟨by rw [hf.2.1]; omega, by rw [hf.2.1]; simp only; omega⟩ fun x hx => ?_
    have := s.used x hx
    simp only; omega
  · refine hmem ?_ s.range
    rw [hf.1, ← hek]; exact s.range e hem
  · refine hmem ?_ fun x hx => ?_
    · rw [hf.2.2]; have := s.pins e hem; omega
    · have := s.pins x hx; omega
  · have : (emod k f K.l).length = K.l.length := List.length_map _
    simp only [this]; exact s.room

theorem SimK.enter (s : SimK K C t) (ht : t < 1000000) {k : Int} (hn : efind k K.l = none) (h0 : 0 ≤ k ∧ k < 8) (hr : (K.l.length : Int) < K.size) (pg : Pg) (ch : Bool) :
    SimK (K.enter ⟨k, pg, ch, 0, IntKind.wrap .i64 (K.clock + 1)⟩) (C.use ⟨k, pg, ch, 0⟩) (t + 1) := by
  obtain ⟨l, hp, hs, hc⟩ := s.list
  obtain ⟨c0, c1⟩ := s.clock
  have hw := w64 (K.clock + 1) (by omega) (by omega)
  have hnone := s.lacks.1 hn
  unfold Ck.enter RCk.use
  rw [hw]
  have hmem : ∀ {P : En → Prop}, P ⟨k, pg, ch, 0, K.clock + 1⟩ → (∀ x ∈ K.l, P x) → ∀ x ∈ K.l ++ [(⟨k, pg, ch, 0, K.clock + 1⟩ : En)], P x := fun h1 h2 x hx => by
    rcases List.mem_append.1 hx with h | h
    · exact h2 x h
    · rw [List.mem_singleton.1 h]; exact h1
  refine ⟨s.size, s.hits, s.misses, ⟨⟨k, pg, ch, 0, K.clock + 1⟩ :: l, (hp.cons _).trans (List.perm_append_singleton _ _).symm, ?_, ?_⟩, ?_, ?_, ⟨by simp only; omega, by simp only; omega⟩, ?_, ?_, ?_⟩
  · refine List.pairwise_cons.2 ⟨fun x hx => ?_, hs⟩
    have := (s.used x (hp.mem_iff.1 hx)).2
    simp only; omega
  · simp only
    rw [without_none hnone, hc]; rfl
  · simp only [List.map_append, List.map_cons, List.map_nil]
    refine List.nodup_append.2 ⟨s.nodup, by simp, fun a ha b hb hab => ?_⟩
    simp only [List.mem_singleton] at hb
    obtain ⟨x, hx, rfl⟩ := List.mem_map.1 ha
    exact (efind_none k K.l).1 hn x hx (by rw [hab, hb])
  · refine hmem ⟨by simp only; omega, by simp only; omega⟩ fun x hx => ?_
    have := s.used x hx
    simp only; omega
  · exact hmem h0 s.range
  · refine hmem ⟨by simp, by simp only; omega⟩ fun x hx => ?_
    have := s.pins x hx; omega
  · simp only [List.length_append, List.length_cons, List.length_nil]; omega

end
end Go.Proofs.YtfapgccnhonoiaaGreat

/- Two texts of one document: each act's answers are alike. -/
namespace Go.Proofs.YtfapgccnhonoiaaGreat

structure Sim (D : Dk) (K : Ck) (E : RDk) (C : RCk) (t : Nat) : Prop where
  d : SimD D E
  k : SimK K C t
  eight : D.st.length = 8
  few : D.ws.length ≤ 20 * t

theorem Dk.write_st (D : Dk) (k : Int) (pg : Pg) : (D.write k pg).1.st = D.st := by
  unfold Dk.write Dk.spend
  split <;> rfl

theorem Dk.write_off {D : Dk} {k : Int} {pg : Pg} (h : (D.write k pg).2 ≠ 0) : (D.write k pg).1.off = true := by
  unfold Dk.write at h ⊢
  simp only at h ⊢
  unfold Dk.spend at h ⊢
  split at h
  · rename_i hc
    rw [if_pos hc]
  · simp at h

section
variable {D D' D2 : Dk} {K K' K2 : Ck} {E E' : RDk} {C C' : RCk} {t : Nat}

theorem roomR.more {v : Int} (r : roomR D K v D' K') : D'.st = D.st ∧ D'.ws.length ≤ D.ws.length + 1 ∧ K'.l.Sublist K.l ∧ K'.size = K.size ∧ (v = 0 → (K.l.map (·.p)).Nodup → (K.l.length : Int) ≤ K.size → (K'.l.length : Int) < K'.size) := by
  rcases r with ⟨h1, rfl, rfl, rfl⟩ | ⟨h1, b, hb, ⟨_, rfl, rfl, rfl⟩ | ⟨_, e, he, hem, ⟨_, rfl, rfl, rfl⟩ | ⟨_, h2, rfl, rfl, rfl⟩ | ⟨_, _, rfl, rfl, rfl⟩⟩⟩
  · exact ⟨rfl, by omega, List.Sublist.refl _, rfl, fun _ _ _ => h1⟩
  · exact ⟨rfl, by omega, List.Sublist.refl _, rfl, fun h => by cases h⟩
  · refine ⟨rfl, by omega, edel_sub _ _, rfl, fun _ _ h => ?_⟩
    have := edel_length he
    simp only; omega
  · exact ⟨rfl, by omega, List.Sublist.refl _, rfl, fun h => absurd h h2⟩
  · refine ⟨Dk.write_st _ _ _, by rw [Dk.write_len]; omega, ?_, ?_, fun h _ h2 => ?_⟩
    · split
      · exact edel_sub _ _
      · exact List.Sublist.refl _
    · split <;> rfl
    · rw [if_pos h]
      have := edel_length he
      simp only; omega

theorem Sim.room (d : SimD D E) (k : SimK K C t) {v v' : Int} (r : roomR D K v D' K') (r' : rcRoomR E C v' E' C') : v' = v ∧ SimD D' E' ∧ SimK K' C' t := by
  have hlen := k.len
  have hsz := k.size
  rcases r with ⟨h1, rfl, rfl, rfl⟩ | ⟨h1, b, hb, h2⟩
  · rcases r' with ⟨_, rfl, rfl, rfl⟩ | ⟨g1, _⟩
    · exact ⟨rfl, d, k⟩
    · rw [hlen, hsz] at g1; exact absurd h1 g1
  rcases r' with ⟨g1, _⟩ | ⟨g1, g2⟩
  · rw [hlen, hsz] at g1; exact absurd g1 h1
  obtain ⟨l, hp, hs, hc⟩ := k.list
  rcases h2 with ⟨hb0, rfl, rfl, rfl⟩ | ⟨hb0, e, he, hem, h3⟩
  · have hall : ∀ e ∈ K'.l, 0 < e.pins := by
      rcases hb with ⟨_, h⟩ | ⟨e, he, hep, _⟩
      · exact h
      · have := (k.range e he).1; omega
    rcases g2 with ⟨_, rfl, rfl, rfl⟩ | ⟨j, x, hj, hx, _⟩
    · exact ⟨rfl, d, k⟩
    · obtain ⟨y, hy, rfl⟩ := k.mem.1 (List.mem_of_getElem? hj)
      exact absurd (hall y hy) hx
  · have hek := (efind_mem he).2
    have hold : ¬ 0 < e.pins ∧ ∀ e' ∈ K.l, ¬ 0 < e'.pins → e.used ≤ e'.used := by
      rcases hb with ⟨h, _⟩ | ⟨e2, he2, hep, h4, h5⟩
      · omega
      · have := efind_of k.nodup he2
        rw [hep, he] at this
        rw [Option.some.inj this]
        exact ⟨h4, h5⟩
    rcases g2 with ⟨hall, _⟩ | ⟨j, x, hj, hx, hlast, g3⟩
    · exact absurd (hall _ (k.mem.2 ⟨e, hem, rfl⟩)) hold.1
    have hxe : x = entOf e := by
      rw [hc, List.getElem?_map] at hj
      obtain ⟨y, hy, rfl⟩ := Option.map_eq_some_iff.1 hj
      obtain ⟨i, hi, hie⟩ := List.getElem_of_mem (hp.mem_iff.2 hem)
      have hyl := (List.getElem?_eq_some_iff.1 hy).1
      have hym : y ∈ K.l := hp.mem_iff.1 (List.mem_of_getElem? hy)
      have pw := List.pairwise_iff_getElem.1 hs
      by_cases h1 : i < j
      · have := pw i j hi hyl h1
        rw [hie, (List.getElem?_eq_some_iff.1 hy).2] at this
        have := hold.2 y hym hx
        omega
      · by_cases h2 : j < i
        · exact absurd (hlast i (entOf e) h2 (by rw [hc, List.getElem?_map, List.getElem?_eq_getElem hi, hie]; rfl)) hold.1
        · have hij : i = j := by omega
          subst hij
          rw [List.getElem?_eq_getElem hi, hie] at hy
          rw [Option.some.inj hy]
    subst hxe
    obtain ⟨w1, w2⟩ := d.wr b e.b
    have hpe : (entOf e).p = b := hek
    rw [hpe] at g3
    have hdel := k.del b
    rcases h3 with ⟨hch, rfl, rfl, rfl⟩ | ⟨hch, h4, rfl, rfl, rfl⟩ | ⟨hch, h4, rfl, rfl, rfl⟩
    · rcases g3 with ⟨_, rfl, rfl, rfl⟩ | ⟨hc2, _⟩
      · exact ⟨rfl, d, hdel⟩
      · have : e.ch = true := hc2
        rw [hch] at this; cases this
    · rcases g3 with ⟨hc2, _⟩ | ⟨_, rfl, rfl, rfl⟩
      · have : e.ch = false := hc2
        rw [hch] at this; cases this
      · have e1 : E.wr b (entOf e).b = (E, D'.at b 256) := w1 h4
        rw [e1]
        simp only
        rw [if_neg h4]
        exact ⟨trivial, d, k⟩
    · rcases g3 with ⟨hc2, _⟩ | ⟨_, rfl, rfl, rfl⟩
      · have : e.ch = false := hc2
        rw [hch] at this; cases this
      · obtain ⟨s1, s2⟩ := w2 h4
        have e2 : (E.wr b (entOf e).b).2 = (D.write b e.b).2 := s2
        refine ⟨e2, s1, ?_⟩
        rw [e2]
        split
        · exact hdel
        · exact k

theorem SimK.hit (s : SimK K C t) (ht : t < 1000000) {k : Int} {e : En} (he : efind k K.l = some e) : SimK (K.hit k) (C.hit.use (entOf e)) (t + 1) := by
  have s1 : SimK { K with hits := IntKind.wrap .i64 (K.hits + 1) } C.hit t := { s with hits := by simp only [RCk.hit, s.hits] }
  exact s1.uses ht (f := fun e => { e with used := IntKind.wrap .i64 (K.clock + 1) }) he ⟨(s.find he).2.1, rfl, rfl⟩

theorem efind_sub {k : Int} {l l' : List En} (h : l'.Sublist l) (hn : efind k l = none) : efind k l' = none :=
  (efind_none k l').2 fun e he => (efind_none k l).1 hn e (h.subset he)

theorem may_one {D : Dk} {k l : Int} (h : D.may k l ≠ 0) : D.may k l = 1 := by
  unfold Dk.may at h ⊢
  split
  · rfl
  · rename_i hc; rw [if_neg hc] at h; exact absurd rfl h

theorem at_five {D : Dk} {k : Int} (hm : D.may k 256 = 0) (h : D.at k 256 ≠ 0) : D.at k 256 = 5 ∧ D.off = true := by
  obtain ⟨h0, h1, _⟩ := Dk.may_zero hm
  unfold Dk.at Dk.pow at h ⊢
  rw [if_neg (by omega)] at h ⊢
  cases ho : D.off with
  | true => simp
  | false => rw [ho] at h; simp at h

theorem at_zero_off {D : Dk} {k : Int} (h : D.at k 256 = 0) : D.off = false := (Dk.at_zero h).2.2.2

theorem Sim.get (s : Sim D K E C t) (ht : t < 900000) {k : Int} {res res' : Except Int Pg} (r : GetR D K k res D' K') (r' : rcGetR E C k res' E' C') : res' = res ∧ Sim D' K' E' C' (t + 1) := by
  obtain ⟨sd, sk, s8, sf⟩ := s
  have hhas := sd.has k
  have up := sk.mono (Nat.le_succ t)
  cases r with
  | bad h =>
    rcases r' with ⟨_, rfl, rfl, rfl⟩ | ⟨g, _⟩
    · exact ⟨by rw [may_one h], sd, up, s8, by omega⟩
    · exact absurd (hhas.1 g) h
  | held e h he =>
    rcases r' with ⟨g, _⟩ | ⟨_, ⟨x, hx, hxk, rfl, rfl, rfl⟩ | ⟨g, _⟩⟩
    · exact absurd (hhas.2 h) g
    · rw [sk.same he hx hxk]
      exact ⟨rfl, sd, sk.hit (by omega) he, s8, by omega⟩
    · have := sk.find he
      exact absurd this.2.1 (g _ this.1)
  | full n D1 K1 h he hr hn =>
    obtain ⟨m1, m2, m3, m4, m5⟩ := hr.more
    rcases r' with ⟨g, _⟩ | ⟨_, ⟨x, hx, hxk, _⟩ | ⟨_, n', E1, C1, hr', g⟩⟩
    · exact absurd (hhas.2 h) g
    · exact absurd hxk (sk.lacks.1 he x hx)
    obtain ⟨rfl, d1, k1⟩ := Sim.room sd sk.miss hr hr'
    rcases g with ⟨_, rfl, rfl, rfl⟩ | ⟨g, _⟩ | ⟨g, _⟩
    · exact ⟨rfl, d1, k1.mono (Nat.le_succ t), by rw [m1]; exact s8, by omega⟩
    · exact absurd g hn
    · exact absurd g hn
  | off D1 K1 h he hr ha =>
    obtain ⟨m1, m2, m3, m4, m5⟩ := hr.more
    rcases r' with ⟨g, _⟩ | ⟨_, ⟨x, hx, hxk, _⟩ | ⟨_, n', E1, C1, hr', g⟩⟩
    · exact absurd (hhas.2 h) g
    · exact absurd hxk (sk.lacks.1 he x hx)
    obtain ⟨rfl, d1, k1⟩ := Sim.room sd sk.miss hr hr'
    have hm1 : D'.may k 256 = 0 := by unfold Dk.may at h ⊢; rw [m1]; exact h
    obtain ⟨f1, f2⟩ := at_five hm1 ha
    rcases g with ⟨g, _⟩ | ⟨_, _, rfl, rfl, rfl⟩ | ⟨_, g, _⟩
    · exact absurd rfl g
    · exact ⟨by rw [f1], d1, k1.mono (Nat.le_succ t), by rw [m1]; exact s8, by omega⟩
    · rw [d1.off, f2] at g; cases g
  | new D1 K1 h he hr ha =>
    obtain ⟨m1, m2, m3, m4, m5⟩ := hr.more
    rcases r' with ⟨g, _⟩ | ⟨_, ⟨x, hx, hxk, _⟩ | ⟨_, n', E1, C1, hr', g⟩⟩
    · exact absurd (hhas.2 h) g
    · exact absurd hxk (sk.lacks.1 he x hx)
    obtain ⟨rfl, d1, k1⟩ := Sim.room sd sk.miss hr hr'
    have hoff := at_zero_off ha
    rcases g with ⟨g, _⟩ | ⟨_, g, _⟩ | ⟨_, _, pg, hsh, rfl, rfl, rfl⟩
    · exact absurd rfl g
    · rw [d1.off, hoff] at g; cases g
    · obtain ⟨h0, h1, _⟩ := Dk.may_zero h
      rw [d1.shown h0 hsh]
      exact ⟨rfl, d1, k1.enter (by omega) (efind_sub m3 he) ⟨h0, by omega⟩ (m5 rfl sk.nodup sk.room) _ _, by rw [m1]; exact s8, by omega⟩

theorem Sim.put (s : Sim D K E C t) (ht : t < 900000) {k : Int} {l : Nat} {pg : Pg} {n n' : Int} (r : PutR D K k l pg n D' K') (r' : rcPutR E C k l pg n' E' C') : n' = n ∧ Sim D' K' E' C' (t + 1) := by
  obtain ⟨sd, sk, s8, sf⟩ := s
  have hhas := sd.has k
  have up := sk.mono (Nat.le_succ t)
  have hmay : D.may k l = 0 → D.may k 256 = 0 ∧ (l : Int) = 256 := fun h => by
    obtain ⟨_, _, h3⟩ := Dk.may_zero h
    rw [h3] at h; exact ⟨h, h3⟩
  cases r with
  | bad h =>
    rcases r' with ⟨_, rfl, rfl, rfl⟩ | ⟨g, gl, _⟩
    · exact ⟨by rw [may_one h], sd, up, s8, by omega⟩
    · rw [gl] at h; exact absurd (hhas.1 g) h
  | held e h he =>
    obtain ⟨hm, hl⟩ := hmay h
    rcases r' with ⟨g, _⟩ | ⟨_, _, ⟨x, hx, hxk, rfl, rfl, rfl⟩ | ⟨g, _⟩⟩
    · rcases g with g | g
      · exact absurd (hhas.2 hm) g
      · exact absurd hl g
    · rw [sk.same he hx hxk]
      have s1 : SimK { K with hits := IntKind.wrap .i64 (K.hits + 1) } C.hit t := { sk with hits := by simp only [RCk.hit, sk.hits] }
      have s2 := s1.uses (by omega) (f := fun e => { e with used := IntKind.wrap .i64 (K.clock + 1), b := pg, ch := true }) he ⟨(sk.find he).2.1, rfl, rfl⟩
      have e1 : emod k (fun e => { e with b := pg, ch := true }) (K.hit k).l = emod k (fun e => { e with used := IntKind.wrap .i64 (K.clock + 1), b := pg, ch := true }) K.l := by
        unfold Ck.hit Ck.uses emod
        simp only [List.map_map]
        refine List.map_congr_left fun e _ => ?_
        simp only [Function.comp]
        by_cases h : e.p = k
        · simp [h]
        · simp [h]
      refine ⟨rfl, sd, ?_, s8, by omega⟩
      simp only [e1]
      exact s2
    · have := sk.find he
      exact absurd this.2.1 (g _ this.1)
  | full n D1 K1 h he hr hn =>
    obtain ⟨hm, hl⟩ := hmay h
    obtain ⟨m1, m2, m3, m4, m5⟩ := hr.more
    rcases r' with ⟨g, _⟩ | ⟨_, _, ⟨x, hx, hxk, _⟩ | ⟨_, C1, hr', rfl⟩⟩
    · rcases g with g | g
      · exact absurd (hhas.2 hm) g
      · exact absurd hl g
    · exact absurd hxk (sk.lacks.1 he x hx)
    obtain ⟨rfl, d1, k1⟩ := Sim.room sd sk.miss hr hr'
    rw [if_neg hn]
    exact ⟨rfl, d1, k1.mono (Nat.le_succ t), by rw [m1]; exact s8, by omega⟩
  | new D1 K1 h he hr =>
    obtain ⟨hm, hl⟩ := hmay h
    obtain ⟨m1, m2, m3, m4, m5⟩ := hr.more
    rcases r' with ⟨g, _⟩ | ⟨_, _, ⟨x, hx, hxk, _⟩ | ⟨_, C1, hr', rfl⟩⟩
    · rcases g with g | g
      · exact absurd (hhas.2 hm) g
      · exact absurd hl g
    · exact absurd hxk (sk.lacks.1 he x hx)
    obtain ⟨rfl, d1, k1⟩ := Sim.room sd sk.miss hr hr'
    obtain ⟨h0, h1, _⟩ := Dk.may_zero hm
    rw [if_pos rfl]
    exact ⟨rfl, d1, k1.enter (by omega) (efind_sub m3 he) ⟨h0, by omega⟩ (m5 rfl sk.nodup sk.room) _ _, by rw [m1]; exact s8, by omega⟩

/-- Without power nothing new is got. -/
theorem GetR.dark {k : Int} {res : Except Int Pg} (r : GetR D K k res D' K') (ho : D.off = true) (hn : efind k K.l = none) : ∃ n, res = .error n ∧ n ≠ 0 := by
  cases r with
  | bad h => exact ⟨_, rfl, h⟩
  | held e h he => rw [hn] at he; cases he
  | full n D1 K1 h he hr hn => exact ⟨n, rfl, hn⟩
  | off D1 K1 h he hr ha => exact ⟨_, rfl, ha⟩
  | new D1 K1 h he hr ha =>
    have h1 := at_zero_off ha
    exfalso
    rcases hr with ⟨_, _, rfl, _⟩ | ⟨_, b, _, ⟨_, _, rfl, _⟩ | ⟨_, e, _, _, ⟨_, _, rfl, _⟩ | ⟨_, _, _, rfl, _⟩ | ⟨_, h2, _⟩⟩⟩
    · rw [ho] at h1; cases h1
    · rw [ho] at h1; cases h1
    · rw [ho] at h1; cases h1
    · rw [ho] at h1; cases h1
    · have := at_zero_off h2
      rw [ho] at this; cases this

/-- What was told once is told again; what failed fails again. -/
theorem GetR.again (s : Sim D K E C t) {k : Int} {res res2 : Except Int Pg} (r : GetR D K k res D' K') (r2 : GetR D' K' k res2 D2 K2) : (∀ pg, res = .ok pg → res2 = .ok pg) ∧ (∀ n, res = .error n → n ≠ 0 ∧ ∃ m, res2 = .error m ∧ m ≠ 0) := by
  obtain ⟨sd, sk, s8, sf⟩ := s
  have held2 : ∀ {e : En}, D'.may k 256 = 0 → efind k K'.l = some e → res2 = .ok e.b := fun hm he => by
    cases r2 with
    | bad h => exact absurd hm h
    | held e2 h he2 => rw [he] at he2; cases he2; rfl
    | full n D1 K1 h he2 => rw [he] at he2; cases he2
    | off D1 K1 h he2 => rw [he] at he2; cases he2
    | new D1 K1 h he2 => rw [he] at he2; cases he2
  cases r with
  | bad h =>
    refine ⟨nofun, fun n hn => ?_⟩
    cases hn
    refine ⟨h, ?_⟩
    cases r2 with
    | bad h2 => exact ⟨_, rfl, h2⟩
    | held e h2 => exact absurd h2 h
    | full n D1 K1 h2 => exact absurd h2 h
    | off D1 K1 h2 => exact absurd h2 h
    | new D1 K1 h2 => exact absurd h2 h
  | held e h he =>
    refine ⟨fun pg hpg => ?_, nofun⟩
    cases hpg
    have : efind k (K.hit k).l = some { e with used := IntKind.wrap .i64 (K.clock + 1) } := by
      have := efind_emod k k (fun e => { e with used := IntKind.wrap .i64 (K.clock + 1) }) (fun _ => rfl) K.l
      rw [if_pos rfl, he] at this
      exact this
    exact held2 (e := { e with used := IntKind.wrap .i64 (K.clock + 1) }) h this
  | full n D1 K1 h he hr hn =>
    refine ⟨nofun, fun n' hn' => ?_⟩
    cases hn'
    refine ⟨hn, ?_⟩
    rcases hr with ⟨_, rfl, _⟩ | ⟨h1, b, hb, ⟨hb0, rfl, rfl, rfl⟩ | ⟨hb0, e, hbe, hem, ⟨_, rfl, _⟩ | ⟨_, h2, rfl, rfl, rfl⟩ | ⟨_, h2, rfl, rfl, rfl⟩⟩⟩
    · exact absurd rfl hn
    · have hall : ∀ e ∈ K.l, 0 < e.pins := by
        rcases hb with ⟨_, h⟩ | ⟨e, he, hep, _⟩
        · exact h
        · have := (sk.range e he).1; omega
      cases r2 with
      | bad h2 => exact ⟨_, rfl, h2⟩
      | held e h2 he2 => exact absurd (he.symm.trans he2) nofun
      | full n D1 K1 h2 _ _ h3 => exact ⟨_, rfl, h3⟩
      | off D1 K1 h2 _ _ h3 => exact ⟨_, rfl, h3⟩
      | new D1 K1 h2 _ hr2 _ =>
        rcases hr2 with ⟨h3, _⟩ | ⟨_, b', hb', ⟨_, h4, _⟩ | ⟨hb1, _⟩⟩
        · exact absurd h3 h1
        · cases h4
        · rcases hb' with ⟨h5, _⟩ | ⟨e', he', _, h6, _⟩
          · omega
          · exact absurd (hall e' he') h6
    · exact absurd rfl hn
    · have hr := sk.range e hem
      have hbp := (efind_mem hbe).2
      have hmb : D'.may b 256 = 0 := by unfold Dk.may; rw [if_neg (by omega)]
      exact r2.dark (at_five hmb h2).2 he
    · rw [if_neg hn] at r2
      exact r2.dark (Dk.write_off hn) he
  | off D1 K1 h he hr ha =>
    refine ⟨nofun, fun n' hn' => ?_⟩
    cases hn'
    obtain ⟨m1, m2, m3, m4, m5⟩ := hr.more
    have hm1 : D'.may k 256 = 0 := by unfold Dk.may at h ⊢; rw [m1]; exact h
    exact ⟨ha, r2.dark (at_five hm1 ha).2 (efind_sub m3 he)⟩
  | new D1 K1 h he hr ha =>
    refine ⟨fun pg hpg => ?_, nofun⟩
    cases hpg
    obtain ⟨m1, m2, m3, m4, m5⟩ := hr.more
    have hm1 : D'.may k 256 = 0 := by unfold Dk.may at h ⊢; rw [m1]; exact h
    have : efind k (K1.enter ⟨k, D'.show k, false, 0, IntKind.wrap .i64 (K1.clock + 1)⟩).l = some ⟨k, D'.show k, false, 0, IntKind.wrap .i64 (K1.clock + 1)⟩ := by
      unfold Ck.enter
      rw [efind_snoc, efind_sub m3 he]
      simp
    exact held2 hm1 this

end
end Go.Proofs.YtfapgccnhonoiaaGreat

/- Two texts of one document: pins, flush, sync; what is told of what is held. -/
namespace Go.Proofs.YtfapgccnhonoiaaGreat

theorem asc_ext : ∀ {a b : List Int}, a.Pairwise (fun x y => x < y) → b.Pairwise (fun x y => x < y) → (∀ x, x ∈ a ↔ x ∈ b) → a = b
  | [], [], _, _, _ => rfl
  | [], y :: b, _, _, h => absurd ((h y).2 List.mem_cons_self) (by simp)
  | x :: a, [], _, _, h => absurd ((h x).1 List.mem_cons_self) (by simp)
  | x :: a, y :: b, ha, hb, h => by
    obtain ⟨ha1, ha2⟩ := List.pairwise_cons.1 ha
    obtain ⟨hb1, hb2⟩ := List.pairwise_cons.1 hb
    have hxy : x = y := by
      rcases List.mem_cons.1 ((h x).1 List.mem_cons_self) with h1 | h1
      · exact h1
      rcases List.mem_cons.1 ((h y).2 List.mem_cons_self) with h2 | h2
      · exact h2.symm
      have := hb1 x h1
      have := ha1 y h2
      omega
    subst hxy
    congr 1
    refine asc_ext ha2 hb2 fun z => ⟨fun hz => ?_, fun hz => ?_⟩
    · rcases List.mem_cons.1 ((h z).1 (List.mem_cons_of_mem _ hz)) with h1 | h1
      · have := ha1 z hz; omega
      · exact h1
    · rcases List.mem_cons.1 ((h z).2 (List.mem_cons_of_mem _ hz)) with h1 | h1
      · have := hb1 z hz; omega
      · exact h1

theorem desc_ext {u : Int → Int} : ∀ {a b : List Int}, a.Perm b → a.Pairwise (fun x y => u y ≤ u x) → b.Pairwise (fun x y => u y < u x) → a = b
  | [], b, h, _, _ => (List.nil_perm.1 h).symm
  | x :: a, [], h, _, _ => absurd h.length_eq (by simp)
  | x :: a, y :: b, h, ha, hb => by
    obtain ⟨ha1, ha2⟩ := List.pairwise_cons.1 ha
    obtain ⟨hb1, hb2⟩ := List.pairwise_cons.1 hb
    have hxy : x = y := by
      rcases List.mem_cons.1 (h.mem_iff.1 List.mem_cons_self) with h1 | h1
      · exact h1
      rcases List.mem_cons.1 (h.mem_iff.2 List.mem_cons_self) with h2 | h2
      · exact h2.symm
      have := hb1 x h1
      have := ha1 y h2
      omega
    subst hxy
    congr 1
    exact desc_ext h.cons_inv ha2 hb2

theorem asc_le : ∀ {a : List Int} {lo hi : Int}, a.Pairwise (fun x y => x < y) → (∀ x ∈ a, lo ≤ x ∧ x < hi) → lo ≤ hi → (a.length : Int) ≤ hi - lo
  | [], _, _, _, _, h => by simp; omega
  | x :: a, lo, hi, ha, hm, h => by
    obtain ⟨h1, h2⟩ := List.pairwise_cons.1 ha
    have hx := hm x List.mem_cons_self
    have := asc_le (lo := x + 1) (hi := hi) h2 (fun y hy => ⟨by have := h1 y hy; omega, (hm y (List.mem_cons_of_mem _ hy)).2⟩) (by omega)
    simp only [List.length_cons]
    omega

theorem upto_asc : ∀ n, (upto n).Pairwise (fun x y => x < y)
  | 0 => List.Pairwise.nil
  | n + 1 => by
    rw [upto_succ]
    refine List.pairwise_append.2 ⟨upto_asc n, by simp, fun a ha b hb => ?_⟩
    rw [List.mem_singleton.1 hb]
    exact (upto_mem.1 ha).2

section
variable {D D' D2 : Dk} {K K' K2 : Ck} {E E' : RDk} {C C' : RCk} {t : Nat}

theorem SimK.ch (s : SimK K C t) (k : Int) : chE C.L k = K.chOf k := by
  unfold Ck.chOf
  cases he : efind k K.l with
  | none => exact chE_none (s.lacks.1 he)
  | some e =>
    obtain ⟨h1, h2, _⟩ := s.find he
    have := chE_some s.keys h1
    rw [← h2]; exact this

theorem SimK.pin (s : SimK K C t) (ht : t < 1000000) {k n : Int} (r : rcPinR C k n C') : n = (K.pin k).2 ∧ SimK (K.pin k).1 C' (t + 1) := by
  unfold Ck.pin
  rcases r with ⟨h1, rfl, rfl⟩ | ⟨x, hx, hxk, rfl, rfl⟩
  · rw [s.lacks.2 h1]
    exact ⟨rfl, s.mono (Nat.le_succ t)⟩
  · obtain ⟨e, he, _⟩ := s.of hx
    rw [hxk] at he
    rw [he]
    refine ⟨rfl, s.mod k (f := fun e => { e with pins := IntKind.wrap .i64 (e.pins + 1) }) (g := Ent.pin 1) (fun e => ⟨rfl, rfl⟩) (fun e => rfl) (Nat.le_succ t) fun e he _ => ?_⟩
    have := s.pins e he
    simp only
    rw [w64 _ (by omega) (by omega)]
    omega

theorem SimK.unpin (s : SimK K C t) (ht : t < 1000000) {k n : Int} (r : rcUnpinR C k n C') : n = (K.unpin k).2 ∧ SimK (K.unpin k).1 C' (t + 1) := by
  unfold Ck.unpin
  rcases r with ⟨h1, rfl, rfl⟩ | ⟨x, hx, hxk, h2⟩
  · rw [s.lacks.2 h1]
    exact ⟨rfl, s.mono (Nat.le_succ t)⟩
  · obtain ⟨e, he, hxe⟩ := s.of hx
    rw [hxk] at he
    rw [he]
    have hp : x.pins = e.pins := by rw [hxe]; rfl
    rcases h2 with ⟨h0, rfl, rfl⟩ | ⟨h0, rfl, rfl⟩
    · simp only
      rw [if_pos (by rw [← hp]; exact h0)]
      exact ⟨rfl, s.mono (Nat.le_succ t)⟩
    · simp only
      rw [if_neg (by rw [← hp]; exact h0)]
      obtain ⟨_, hek, hem⟩ := s.find he
      refine ⟨rfl, s.mod k (f := fun e => { e with pins := IntKind.wrap .i64 (e.pins - 1) }) (g := Ent.pin (-1)) (fun e => ⟨rfl, rfl⟩) (fun e => rfl) (Nat.le_succ t) fun e' he' hk' => ?_⟩
      have e1 : e' = e := by
        have := efind_of s.nodup he'
        rw [hk', he] at this
        exact (Option.some.inj this).symm
      subst e1
      have := s.pins e' he'
      simp only
      rw [w64 _ (by omega) (by omega)]
      omega

theorem SimK.forget (s : SimK K C t) {k n : Int} (r : rcForgetR C k n C') : n = (K.forget k).2 ∧ SimK (K.forget k).1 C' t := by
  unfold Ck.forget
  rcases r with ⟨h1, rfl, rfl⟩ | ⟨x, hx, hxk, h2⟩
  · rw [s.lacks.2 h1]
    exact ⟨rfl, s⟩
  · obtain ⟨e, he, hxe⟩ := s.of hx
    rw [hxk] at he
    rw [he]
    have hp : x.pins = e.pins := by rw [hxe]; rfl
    rcases h2 with ⟨h0, rfl, rfl⟩ | ⟨h0, rfl, rfl⟩
    · simp only
      rw [if_pos (by rw [← hp]; exact h0)]
      exact ⟨rfl, s⟩
    · simp only
      rw [if_neg (by rw [← hp]; exact h0)]
      exact ⟨rfl, s.del k⟩

theorem Sim.flushes : ∀ (L : List Int) {D D' : Dk} {K K' : Ck} {E : RDk} {C : RCk} {n : Int}, L.Nodup → SimD D E → SimK K C t → flushL L D K = (D', K', n) →
    (flushE (L.filter (chE C.L)) E C).2.2 = n ∧ SimD D' (flushE (L.filter (chE C.L)) E C).1 ∧ SimK K' (flushE (L.filter (chE C.L)) E C).2.1 t ∧ D'.st = D.st ∧ D'.ws.length ≤ D.ws.length + L.length
  | [], D, D', K, K', E, C, n, _, d, k, h => by
    simp only [flushL] at h
    cases h
    exact ⟨rfl, d, k, rfl, by simp⟩
  | j :: r, D, D', K, K', E, C, n, hn, d, k, h => by
    obtain ⟨hj, hr⟩ := List.nodup_cons.1 hn
    have hch := k.ch j
    unfold Ck.chOf at hch
    simp only [flushL] at h
    cases he : efind j K.l with
    | none =>
      rw [he] at h hch
      simp only at h hch
      obtain ⟨a, b, c, e, f⟩ := Sim.flushes r hr d k h
      rw [List.filter_cons, hch, if_neg (by simp)]
      exact ⟨a, b, c, e, by rw [List.length_cons]; omega⟩
    | some e =>
      rw [he] at h hch
      simp only at h hch
      obtain ⟨hx, hek, hem⟩ := k.find he
      cases hc : e.ch with
      | false =>
        rw [hc, if_neg (by simp)] at h
        obtain ⟨a, b, c, e, f⟩ := Sim.flushes r hr d k h
        rw [List.filter_cons, hch, hc, if_neg (by simp)]
        exact ⟨a, b, c, e, by rw [List.length_cons]; omega⟩
      | true =>
        rw [hc, if_pos rfl] at h
        rw [List.filter_cons, hch, hc, if_pos rfl]
        have hfind : C.L.find? (fun e => e.p == j) = some (entOf e) := by
          have := find_of k.keys hx
          rw [show (entOf e).p = j from hek] at this
          exact this
        simp only [flushE, hfind]
        obtain ⟨w1, w2⟩ := d.wr j e.b
        have eb : (entOf e).b = e.b := rfl
        rw [eb]
        by_cases ha : D.at j 256 = 0
        · rw [if_neg (by simp [ha])] at h
          obtain ⟨s1, s2⟩ := w2 ha
          rw [s2]
          have hst := Dk.write_st D j e.b
          have hwl := Dk.write_len D j e.b
          by_cases hw : (D.write j e.b).2 = 0
          · rw [if_neg (by simp [hw])] at h
            rw [if_neg (by simp [hw])]
            have k1 : SimK { K with l := emod j (fun e => { e with ch := false }) K.l } { C with L := modE j Ent.clean C.L } t := k.mod j (f := fun e => { e with ch := false }) (g := Ent.clean) (fun e => ⟨rfl, rfl⟩) (fun e => rfl) (Nat.le_refl t) fun e he _ => k.pins e he
            have hfl : r.filter (chE C.L) = r.filter (chE (modE j Ent.clean C.L)) := by
              refine List.filter_congr fun i hi => ?_
              have hij : i ≠ j := fun e => hj (e ▸ hi)
              rw [k.ch i, show chE (modE j Ent.clean C.L) i = _ from k1.ch i]
              unfold Ck.chOf
              simp only
              rw [efind_emod i j (fun e => { e with ch := false }) (fun _ => rfl) K.l, if_neg hij]
            rw [hfl]
            obtain ⟨a, b, c, e', f⟩ := Sim.flushes r hr s1 k1 h
            exact ⟨a, b, c, by rw [e', hst], by rw [List.length_cons]; omega⟩
          · rw [if_pos hw] at h
            rw [if_pos hw]
            cases h
            exact ⟨rfl, s1, k, hst, by rw [List.length_cons]; omega⟩
        · rw [if_pos ha] at h
          rw [w1 ha]
          rw [if_pos ha]
          cases h
          exact ⟨rfl, d, k, rfl, by rw [List.length_cons]; omega⟩

theorem Sim.chs (k : SimK K C t) {L : List Int} (hp : L.Perm (K.l.map (·.p))) (hs : L.Pairwise (fun x y => x < y)) : (upto 8).filter (chE C.L) = L.filter (chE C.L) := by
  refine asc_ext ((upto_asc 8).filter _) (hs.filter _) fun x => ?_
  rw [List.mem_filter, List.mem_filter]
  refine and_congr_left fun hx => ?_
  have hmem : x ∈ K.l.map (·.p) := by
    rw [k.ch] at hx
    unfold Ck.chOf at hx
    cases he : efind x K.l with
    | none => rw [he] at hx; cases hx
    | some e =>
      obtain ⟨h1, h2⟩ := efind_mem he
      exact List.mem_map.2 ⟨e, h1, h2⟩
  refine ⟨fun _ => hp.mem_iff.2 hmem, fun _ => ?_⟩
  obtain ⟨e, he, rfl⟩ := List.mem_map.1 hmem
  have := k.range e he
  exact upto_mem.2 (by omega)

theorem Sim.flush (s : Sim D K E C t) {L : List Int} {n : Int} (hp : L.Perm (K.l.map (·.p))) (hs : L.Pairwise (fun x y => x < y)) (h : flushL L D K = (D', K', n)) :
    (flushE ((upto E.S.length).filter (chE C.L)) E C).2.2 = n ∧ Sim D' K' (flushE ((upto E.S.length).filter (chE C.L)) E C).1 (flushE ((upto E.S.length).filter (chE C.L)) E C).2.1 (t + 1) := by
  have hlen : L.length ≤ 8 := by
    have := asc_le (lo := 0) (hi := 8) hs (fun x hx => by
      obtain ⟨e, he, rfl⟩ := List.mem_map.1 (hp.mem_iff.1 hx)
      exact s.k.range e he) (by omega)
    omega
  rw [show E.S.length = 8 by rw [s.d.st]; exact s.eight, Sim.chs s.k hp hs]
  obtain ⟨a, b, c, e, f⟩ := Sim.flushes L (hp.nodup_iff.2 s.k.nodup) s.d s.k h
  exact ⟨a, b, c.mono (Nat.le_succ t), by rw [e]; exact s.eight, by have := s.few; omega⟩

theorem Sim.held (k : SimK K C t) {ds : List Int} (h : K.heldR ds) : ds = C.L.map Ent.p := by
  obtain ⟨h1, h2⟩ := h
  obtain ⟨l, hp, hs, hc⟩ := k.list
  have e1 : C.L.map Ent.p = l.map (·.p) := by rw [hc, List.map_map]; rfl
  rw [e1]
  refine desc_ext (u := K.usedOf) (h1.trans (hp.map (·.p)).symm) h2 ?_
  rw [List.pairwise_map]
  refine hs.imp_of_mem fun {x y} hx hy hxy => ?_
  have hu : ∀ e ∈ l, K.usedOf e.p = e.used := fun e he => by
    unfold Ck.usedOf
    rw [efind_of k.nodup (hp.mem_iff.1 he)]
  rw [hu x hx, hu y hy]
  exact hxy

theorem Sim.changed (k : SimK K C t) {ds : List Int} (h : K.changedR ds) : ds = (upto 8).filter (chE C.L) := by
  obtain ⟨L, hp, hs, rfl⟩ := h
  rw [Sim.chs k hp hs]
  exact List.filter_congr fun x _ => (k.ch x).symm

def heldE (L : List Ent) (k : Int) : Bool := L.any fun e => e.p == k

theorem heldE_iff {L : List Ent} {k : Int} : heldE L k = true ↔ ∃ e ∈ L, e.p = k := by simp [heldE]

theorem Sim.all (k : SimK K C t) {L : List Int} (hp : L.Perm (K.l.map (·.p))) (hs : L.Pairwise (fun x y => x < y)) : L = (upto 8).filter (heldE C.L) := by
  refine asc_ext hs ((upto_asc 8).filter _) fun x => ?_
  rw [List.mem_filter, hp.mem_iff, List.mem_map, heldE_iff]
  constructor
  · rintro ⟨e, he, rfl⟩
    have := k.range e he
    exact ⟨upto_mem.2 (by omega), _, k.mem.2 ⟨e, he, rfl⟩, rfl⟩
  · rintro ⟨_, y, hy, hyx⟩
    obtain ⟨e, he, rfl⟩ := k.mem.1 hy
    exact ⟨e, he, hyx⟩

theorem Sim.few8 (k : SimK K C t) : K.l.length ≤ 8 := by
  have key : ∀ l : List En, (∀ e ∈ l, 0 ≤ e.p ∧ e.p < 8) → (l.map (·.p)).Nodup → (l.map fun e => e.p.toNat).Nodup := by
    intro l
    induction l with
    | nil => intros; simp
    | cons x r ih =>
      intro hr hn
      simp only [List.map_cons, List.nodup_cons, List.mem_map, not_exists, not_and] at hn ⊢
      refine ⟨fun y hy he => hn.1 y hy ?_, ih (fun e he => hr e (List.mem_cons_of_mem _ he)) hn.2⟩
      have := hr y (List.mem_cons_of_mem _ hy)
      have := hr x List.mem_cons_self
      omega
  have := nodup_le (K.l.map fun e => e.p.toNat) (List.range 8) (key K.l k.range k.nodup) fun k' hk => by
    obtain ⟨e, he, rfl⟩ := List.mem_map.1 hk
    have := k.range e he
    exact List.mem_range.2 (by omega)
  simpa using this

theorem SimD.sync (s : SimD D E) (hk : ∀ w ∈ E.W, 0 ≤ w.1) : (D.pow ≠ 0 → SimD D E.sync.1 ∧ E.sync.2 = D.pow) ∧ (D.pow = 0 → D.spend.2 = false → SimD D.spend.1 E.sync.1 ∧ E.sync.2 = 5) ∧ (D.pow = 0 → D.spend.2 = true → SimD D.spend.1.settle E.sync.1 ∧ E.sync.2 = 0) := by
  obtain ⟨g1, g2⟩ := s.spend
  have hpow : D.pow = 0 ↔ E.off = false := by
    unfold Dk.pow
    rw [s.off]
    cases D.off <;> simp
  refine ⟨fun h => ?_, fun h h2 => ?_, fun h h2 => ?_⟩
  · have ho : E.off = true := by
      cases ho : E.off with
      | true => rfl
      | false => exact absurd (hpow.2 ho) h
    unfold RDk.sync
    rw [if_pos ho]
    refine ⟨s, ?_⟩
    unfold Dk.pow
    rw [← s.off, ho]
    rfl
  · have ho := hpow.1 h
    rw [h2] at g2
    unfold RDk.sync
    rw [if_neg (by simp [ho]), if_pos (show E.goes.2 = true from g2)]
    exact ⟨g1, rfl⟩
  · have ho := hpow.1 h
    rw [h2] at g2
    unfold RDk.sync
    rw [if_neg (by simp [ho]), if_neg (show ¬ E.goes.2 = true by rw [g2]; simp)]
    obtain ⟨eS, eW⟩ := E.goes_same
    have := g1.settle (by rw [eW]; exact hk)
    rw [eS, eW] at this
    exact ⟨this, rfl⟩

end
end Go.Proofs.YtfapgccnhonoiaaGreat

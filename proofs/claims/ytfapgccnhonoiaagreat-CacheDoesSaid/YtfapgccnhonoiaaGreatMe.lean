/- What each of the cache's functions does; no condition beyond those each theorem states. -/
import Derived.Test.YtfapgccnhonoiaaGreatMd

/- Slices of bytes: a copy. -/
namespace Go.Proofs.YtfapgccnhonoiaaGreat

theorem SlAt.push {h : Heap} {q : Option Addr} {l : Nat} {pg : List Value} {F : List Nat} (s : SlAt h q l pg F) (o : Obj) : SlAt (h.push o) q l pg F := s.keep (Keep.push h o []) (by simp)

theorem sClone_ok (h : Heap) (q : Option Addr) (l c : Nat) (pg : List Value) (F : List Nat) (hs : SlAt h q l pg F) (h0 : 0 < l) (hl : l ≤ 70368744177664) : CallH Tryz.prog 57 ⟨[.slice q l c]⟩ h fun v h' =>
    ∃ b cap x, v = .slice (some ⟨b, 0, none⟩) l cap ∧ Blk h' b (pg ++ x) ∧ h.size ≤ b ∧ Keep h h' [] ∧ l ≤ cap ∧ x.length = cap - l := by
  obtain ⟨hpl, hpb, hq⟩ := hs
  obtain ⟨b, o, rfl, hbF, hblt, hrow⟩ := hq.resolve_left (by omega)
  refine sClone_call _ l c ⟨nofun, fun _ => ⟨trivial, fun n1 h1 hn1 hh1 => ?_⟩⟩
  have k1 : Keep h h1 [] := by rw [hh1]; exact Keep.push _ _ _
  refine ⟨pg, ?_, fun v hv => ?_, by omega, fun hz => by omega, fun _ => ⟨by omega, by omega, [], ?_, fun n2 hn2 n3 h2 hn3 hh2 => ?_⟩⟩
  · show rowAt h1 ⟨b, o, none⟩ (l * 1) = some pg
    rw [Nat.mul_one, rowAt_same (k1.same b hblt (by simp))]
    exact hrow
  · obtain ⟨n, rfl⟩ := hpb v hv; rfl
  · show rowAt h1 ⟨n1, 0, none⟩ (0 * 1) = some []
    have : Blk h1 n1 [] := by rw [hh1, hn1]; exact Blk.new _ _ _
    rw [this.row (by simp)]
    rfl
  · refine ⟨n3, n2, zrow [.int .u8 0] (n2 - (0 + l)), by rw [Nat.zero_add], ?_, ?_, ?_, by omega, ?_⟩
    · rw [hh2, hn3]
      exact Blk.new h1 _ 5
    · rw [hn3]; exact k1.size
    · rw [hh2]; exact k1.trans' (Keep.push _ _ _)
    · rw [zrow_len]; simp

end Go.Proofs.YtfapgccnhonoiaaGreat

/- The laws' page of one byte. -/
namespace Go.Proofs.YtfapgccnhonoiaaGreat

theorem rep_set (c : Value) (z : Value) (i : Nat) (hi : i < 256) : (List.replicate i c ++ List.replicate (256 - i) z).set i c = List.replicate (i + 1) c ++ List.replicate (256 - (i + 1)) z := by
  rw [List.set_append_right _ _ (by simp)]
  simp only [List.length_replicate, Nat.sub_self]
  rw [show 256 - i = (256 - (i + 1)) + 1 by omega, List.replicate_succ, List.set_cons_zero, List.replicate_succ', List.append_assoc]
  rfl

theorem zrow_one (v : Value) : ∀ n, zrow [v] n = List.replicate n v
  | 0 => rfl
  | n + 1 => by simp [zrow, zrow_one v n, List.replicate_succ]

def bytePg (c : Int) : List Value := List.replicate 256 (.int .u8 c)

theorem bytePg_ok (c : Int) : okPage (bytePg c) := by
  refine ⟨List.length_replicate, fun v hv => ?_⟩
  rw [List.eq_of_mem_replicate hv]
  exact ⟨c, rfl⟩

theorem lPage_ok (h : Heap) (b : Nat) (c : Int) (hb : Blk h b (List.replicate 4 (.int .u8 c))) : CallH Tryz.prog 58 ⟨[.slice (some ⟨b, 0, none⟩) 4 4]⟩ h fun v h' =>
    ∃ n, v = .slice (some ⟨n, 0, none⟩) 256 256 ∧ Blk h' n (bytePg c) ∧ h.size ≤ n ∧ Keep h h' [] := by
  refine lPage_call _ 4 4 ⟨by decide, fun n1 h1 hn1 hh1 => ?_⟩
  have k1 : Keep h h1 [] := by rw [hh1]; exact Keep.push _ _ _
  have hbn : b ≠ n1 := by have := hb.lt; omega
  refine ⟨fun i hh => 0 ≤ i ∧ i ≤ 256 ∧ Keep h hh [] ∧ Blk hh b (List.replicate 4 (.int .u8 c)) ∧ Blk hh n1 (List.replicate i.toNat (.int .u8 c) ++ List.replicate (256 - i.toNat) (.int .u8 0)), fun i _ => (256 - i).toNat, ⟨by omega, by omega, k1, hb.keep k1 (by simp), ?_⟩, ?_⟩
  · have : Blk h1 n1 (zrow [.int .u8 (Int.ofNat 0)] 256) := by rw [hh1, hn1]; exact Blk.new _ _ _
    rw [zrow_one] at this
    have e : List.replicate (0 : Int).toNat (Value.int .u8 c) ++ List.replicate (256 - (0 : Int).toNat) (Value.int .u8 0) = List.replicate 256 (Value.int .u8 0) := by kernel_rfl
    rw [e]
    exact this
  · rintro i hh ⟨i0, i1, k, hb', hn'⟩
    have hw : IntKind.wrap .i64 (Int.tdiv i 64) = i / 64 := IntWalk.i64_quo i 64 ⟨i0, by omega, by omega⟩
    refine ⟨fun e => ?_, fun e => ?_⟩
    · have hlt : i < 256 := of_decide_eq_true e
      refine ⟨by omega, fun _ => ⟨⟨?_, ?_⟩, c, ?_, ⟨i0, hlt⟩, rfl, ?_, fun h2 hh2 => ?_⟩, fun e2 => ?_⟩
      · rw [hw]; omega
      · rw [hw]; omega
      · rw [addr_add, hw]
        refine hb'.cell ?_
        have : (i / 64).toNat < 4 := by omega
        rw [Nat.zero_add, Nat.mul_one, List.getElem?_replicate, if_pos this]
      · rw [addr_add]
        refine hn'.ok ?_
        rw [List.length_append, List.length_replicate, List.length_replicate]
        omega
      · rw [addr_add, Nat.zero_add, Nat.mul_one] at hh2
        have k2 : Keep hh h2 [n1] := by rw [hh2]; exact Keep.upd _ _ _ _ _ (by simp)
        have hn2 := hn'.upd i.toNat (.int .u8 c)
        rw [← hh2, rep_set _ _ _ (by omega)] at hn2
        have hi : IntKind.wrap .i64 (i + 1) = i + 1 := IntWalk.i64_in _ ⟨by omega, by omega⟩
        rw [hi]
        refine ⟨⟨by omega, by omega, k.trans k2 (fun x hx => .inr (by simp only [List.mem_singleton] at hx; omega)), hb'.keep k2 (by simpa using hbn), ?_⟩, ?_⟩
        · rw [show (i + 1).toNat = i.toNat + 1 by omega]
          exact hn2
        · show (256 - (i + 1)).toNat < (256 - i).toNat
          omega
      · have := of_decide_eq_false e2
        rw [hw] at this
        exact absurd (show i / 64 < (4 : Nat) by omega) this
    · have hge : ¬ i < 256 := of_decide_eq_false e
      have : i.toNat = 256 := by omega
      rw [this, Nat.sub_self, List.replicate_zero, List.append_nil] at hn'
      exact ⟨n1, rfl, hn', by omega, k⟩

theorem pg_ok (h : Heap) (c : Int) : CallH Tryz.prog 17 ⟨[.int .u8 c]⟩ h fun v h' => ∃ n, v = .slice (some ⟨n, 0, none⟩) 256 256 ∧ Blk h' n (bytePg c) ∧ h.size ≤ n ∧ Keep h h' [] := by
  refine pg_call c ⟨⟨rfl, rfl, rfl, rfl, trivial⟩, fun n1 h1 hn1 hh1 => ⟨by kernel_rfl, ?_⟩⟩
  have hb : Blk h1 n1 (List.replicate 4 (.int .u8 c)) := by rw [hh1, hn1]; exact Blk.new _ _ _
  have k1 : Keep h h1 [] := by rw [hh1]; exact Keep.push _ _ _
  refine (lPage_ok h1 n1 c hb).mono ?_
  rintro _ h2 ⟨n, rfl, hn, hge, k⟩
  exact ⟨_, _, _, rfl, n, rfl, hn, Nat.le_trans k1.size hge, k1.trans' k⟩

end Go.Proofs.YtfapgccnhonoiaaGreat

/- The cache: what it is, told without places. Part 1. -/
namespace Go.Proofs.YtfapgccnhonoiaaGreat

/-- A page that is held. -/
structure En where
  p : Int
  b : List Value
  ch : Bool
  pins : Int
  used : Int

/-- Where it lies. -/
structure Ep where
  hb : Nat
  bb : Nat
  cap : Nat

structure Ck where
  size : Int
  clock : Int
  hits : Int
  misses : Int
  l : List En

structure Cp where
  mb : Nat
  L : List (En × Ep)

def entB (x : En × Ep) : List Nat := [x.2.hb, x.2.bb]
def Cp.foot (q : Cp) (c : Nat) : List Nat := c :: q.mb :: q.L.flatMap entB

def alOf (L : List (En × Ep)) : AL := L.map fun x => (x.1.p, ptr x.2.hb)

structure EntR (h : Heap) (x : En × Ep) : Prop where
  held : Blk h x.2.hb [.slice (some ⟨x.2.bb, 0, none⟩) 256 x.2.cap, .bool x.1.ch, i64 x.1.pins, i64 x.1.used]
  bytes : ∃ y, Blk h x.2.bb (x.1.b ++ y)
  page : okPage x.1.b

structure CacheR (h : Heap) (c da : Nat) (K : Ck) (q : Cp) : Prop where
  blk : Blk h c [ptr da, i64 K.size, .map (some q.mb), i64 K.clock, i64 K.hits, i64 K.misses]
  map : MapI h q.mb (alOf q.L)
  ents : ∀ x ∈ q.L, EntR h x
  nodup : (q.foot c).Nodup
  l : K.l = q.L.map (·.1)
  keys : (K.l.map (·.p)).Nodup

theorem EntR.keep {h h' : Heap} {x : En × Ep} {F : List Nat} (r : EntR h x) (k : Keep h h' F) (hF : ∀ b ∈ entB x, b ∉ F) : EntR h' x := by
  obtain ⟨y, hy⟩ := r.bytes
  exact ⟨r.held.keep k (hF _ (by simp [entB])), ⟨y, hy.keep k (hF _ (by simp [entB]))⟩, r.page⟩

theorem Cp.mem_foot {q : Cp} {c : Nat} {x : En × Ep} (hx : x ∈ q.L) {b : Nat} (hb : b ∈ entB x) : b ∈ q.foot c := by
  simp only [Cp.foot, List.mem_cons, List.mem_flatMap]
  exact .inr (.inr ⟨x, hx, hb⟩)

theorem CacheR.keep {h h' : Heap} {c da : Nat} {K : Ck} {q : Cp} {F : List Nat} (r : CacheR h c da K q) (k : Keep h h' F) (hF : ∀ b ∈ q.foot c, b ∉ F) : CacheR h' c da K q :=
  ⟨r.blk.keep k (hF _ (by simp [Cp.foot])), r.map.keep k (hF _ (by simp [Cp.foot])), fun x hx => (r.ents x hx).keep k fun b hb => hF b (Cp.mem_foot hx hb), r.nodup, r.l, r.keys⟩

theorem CacheR.lt {h : Heap} {c da : Nat} {K : Ck} {q : Cp} (r : CacheR h c da K q) : ∀ b ∈ q.foot c, b < h.size := by
  intro b hb
  simp only [Cp.foot, List.mem_cons, List.mem_flatMap] at hb
  rcases hb with rfl | rfl | ⟨x, hx, hb⟩
  · exact r.blk.lt
  · exact r.map.lt
  · have := r.ents x hx
    obtain ⟨y, hy⟩ := this.bytes
    simp only [entB, List.mem_cons, List.not_mem_nil, or_false] at hb
    rcases hb with rfl | rfl
    · exact this.held.lt
    · exact hy.lt

theorem CacheR.ne {h : Heap} {c da : Nat} {K : Ck} {q : Cp} (r : CacheR h c da K q) : c ≠ q.mb ∧ ∀ x ∈ q.L, ∀ b ∈ entB x, c ≠ b ∧ q.mb ≠ b := by
  have hn := r.nodup
  simp only [Cp.foot, List.nodup_cons, List.mem_cons, not_or] at hn
  obtain ⟨⟨h1, h2⟩, h3, _⟩ := hn
  refine ⟨h1, fun x hx b hb => ⟨fun e => h2 (List.mem_flatMap.2 ⟨x, hx, e ▸ hb⟩), fun e => h3 (List.mem_flatMap.2 ⟨x, hx, e ▸ hb⟩)⟩⟩

/-- Two entries' blocks are apart. -/
theorem flat_apart : ∀ (L : List (En × Ep)), (L.flatMap entB).Nodup → (L.map (·.1.p)).Nodup → ∀ x ∈ L, ∀ y ∈ L, x.1.p ≠ y.1.p → ∀ b ∈ entB x, b ∉ entB y
  | [], _, _, x, hx, _, _, _, _, _ => by cases hx
  | z :: r, hn, hk, x, hx, y, hy, hne, b, hb => by
    rw [List.flatMap_cons] at hn
    obtain ⟨_, h2, h3⟩ := List.nodup_append.1 hn
    simp only [List.map_cons, List.nodup_cons] at hk
    rcases List.mem_cons.1 hx with hx | hx <;> rcases List.mem_cons.1 hy with hy | hy
    · rw [hx, hy] at hne; exact absurd rfl hne
    · intro hby
      rw [hx] at hb
      exact h3 b hb b (List.mem_flatMap.2 ⟨y, hy, hby⟩) rfl
    · intro hby
      rw [hy] at hby
      exact h3 b hby b (List.mem_flatMap.2 ⟨x, hx, hb⟩) rfl
    · exact flat_apart r h2 hk.2 x hx y hy hne b hb

theorem CacheR.apart {h : Heap} {c da : Nat} {K : Ck} {q : Cp} (r : CacheR h c da K q) {x y : En × Ep} (hx : x ∈ q.L) (hy : y ∈ q.L) (hne : x.1.p ≠ y.1.p) : ∀ b ∈ entB x, b ∉ entB y := by
  have hn := r.nodup
  simp only [Cp.foot, List.nodup_cons] at hn
  refine flat_apart q.L hn.2.2 ?_ x hx y hy hne
  have := r.keys
  rw [r.l, List.map_map] at this
  exact this

theorem CacheR.hbne {h : Heap} {c da : Nat} {K : Ck} {q : Cp} (r : CacheR h c da K q) {x : En × Ep} (hx : x ∈ q.L) : x.2.hb ≠ x.2.bb := by
  have hn := r.nodup
  simp only [Cp.foot, List.nodup_cons] at hn
  have : ∀ (L : List (En × Ep)), (L.flatMap entB).Nodup → ∀ x ∈ L, x.2.hb ≠ x.2.bb := by
    intro L
    induction L with
    | nil => intro _ x hx; cases hx
    | cons z r ih =>
      intro hn x hx
      rw [List.flatMap_cons] at hn
      obtain ⟨h1, h2, _⟩ := List.nodup_append.1 hn
      rcases List.mem_cons.1 hx with hx | hx
      · rw [hx]; simpa [entB] using h1
      · exact ih h2 x hx
  exact this _ hn.2.2 x hx

theorem CacheR.inj {h : Heap} {c da : Nat} {K : Ck} {q : Cp} (r : CacheR h c da K q) {x y : En × Ep} (hx : x ∈ q.L) (hy : y ∈ q.L) (he : x.1.p = y.1.p) : x = y := by
  have hkn := r.keys
  rw [r.l, List.map_map] at hkn
  have inj : ∀ (L : List (En × Ep)), (L.map (fun x => x.1.p)).Nodup → ∀ a ∈ L, ∀ b ∈ L, a.1.p = b.1.p → a = b := by
    intro L
    induction L with
    | nil => intro _ a ha; cases ha
    | cons w s ih =>
      intro hn a ha b hb hab
      simp only [List.map_cons, List.nodup_cons] at hn
      rcases List.mem_cons.1 ha with ha | ha <;> rcases List.mem_cons.1 hb with hb | hb
      · rw [ha, hb]
      · exact absurd (List.mem_map.2 ⟨b, hb, by rw [← hab, ha]⟩) hn.1
      · exact absurd (List.mem_map.2 ⟨a, ha, by rw [hab, hb]⟩) hn.1
      · exact ih hn.2 a ha b hb hab
  exact inj q.L hkn x hx y hy he

/-- A page that is looked for. -/
def efind (k : Int) : List En → Option En
  | [] => none
  | e :: r => if k = e.p then some e else efind k r

theorem al_get (k : Int) : ∀ (L : List (En × Ep)), match aget k (alOf L) with
    | some v => ∃ x ∈ L, x.1.p = k ∧ v = ptr x.2.hb ∧ efind k (L.map (·.1)) = some x.1
    | none => (∀ x ∈ L, x.1.p ≠ k) ∧ efind k (L.map (·.1)) = none
  | [] => ⟨fun x hx => (nomatch hx), rfl⟩
  | z :: r => by
    simp only [alOf, List.map_cons, aget, efind]
    by_cases hk : k = z.1.p
    · simp only [hk, if_true]
      exact ⟨z, List.mem_cons_self, rfl, rfl, rfl⟩
    · simp only [hk, if_false]
      have := al_get k r
      simp only [alOf] at this
      split at this
      · obtain ⟨x, hx, h1, h2, h3⟩ := this
        exact ⟨x, List.mem_cons_of_mem _ hx, h1, h2, h3⟩
      · refine ⟨fun x hx => ?_, this.2⟩
        rcases List.mem_cons.1 hx with hx | hx
        · rw [hx]; exact fun e => hk e.symm
        · exact this.1 x hx

/-- One entry changed. -/
def emod (k : Int) (f : En → En) (l : List En) : List En := l.map fun e => if e.p = k then f e else e
def lmod (k : Int) (f : En → En) (g : Ep → Ep) (L : List (En × Ep)) : List (En × Ep) := L.map fun x => if x.1.p = k then (f x.1, g x.2) else x

theorem lmod_fst (k : Int) (f : En → En) (g : Ep → Ep) (L : List (En × Ep)) : (lmod k f g L).map (·.1) = emod k f (L.map (·.1)) := by
  unfold lmod emod
  rw [List.map_map, List.map_map]
  apply List.map_congr_left
  intro x _
  simp only [Function.comp]
  split <;> rfl

theorem emod_keys (k : Int) (f : En → En) (hf : ∀ e, (f e).p = e.p) (l : List En) : (emod k f l).map (·.p) = l.map (·.p) := by
  unfold emod
  rw [List.map_map]
  apply List.map_congr_left
  intro x _
  simp only [Function.comp]
  split
  · exact hf x
  · rfl

theorem lmod_al (k : Int) (f : En → En) (g : Ep → Ep) (hf : ∀ e, (f e).p = e.p) (hg : ∀ e, (g e).hb = e.hb) (L : List (En × Ep)) : alOf (lmod k f g L) = alOf L := by
  unfold alOf lmod
  rw [List.map_map]
  apply List.map_congr_left
  intro x _
  simp only [Function.comp]
  split
  · simp only [hf, hg]
  · rfl

theorem lmod_foot (k : Int) (f : En → En) (L : List (En × Ep)) : (lmod k f id L).flatMap entB = L.flatMap entB := by
  unfold lmod
  rw [List.flatMap_map]
  congr 1
  funext x
  simp only [id]
  split <;> rfl

section
variable {h h' : Heap} {c da : Nat} {K : Ck} {q : Cp}

/-- Only the first block has changed, in its last three places. -/
theorem CacheR.head (r : CacheR h c da K q) (clock hits misses : Int) (k : Keep h h' [c]) (hb : Blk h' c [ptr da, i64 K.size, .map (some q.mb), i64 clock, i64 hits, i64 misses]) :
    CacheR h' c da { K with clock := clock, hits := hits, misses := misses } q := by
  obtain ⟨n1, n2⟩ := r.ne
  exact ⟨hb, r.map.keep k (by simp; exact fun e => n1 e.symm), fun x hx => (r.ents x hx).keep k fun b hb' => by simp; exact fun e => (n2 x hx b hb').1 e.symm, r.nodup, r.l, r.keys⟩

/-- Only one entry's first block has changed, in its last three places. -/
theorem CacheR.entry (r : CacheR h c da K q) {x : En × Ep} (hx : x ∈ q.L) (f : En → En) (hf : ∀ e, (f e).p = e.p ∧ (f e).b = e.b) (k : Keep h h' [x.2.hb])
    (hb : Blk h' x.2.hb [.slice (some ⟨x.2.bb, 0, none⟩) 256 x.2.cap, .bool (f x.1).ch, i64 (f x.1).pins, i64 (f x.1).used]) :
    CacheR h' c da { K with l := emod x.1.p f K.l } { q with L := lmod x.1.p f id q.L } := by
  obtain ⟨n1, n2⟩ := r.ne
  refine ⟨?_, ?_, fun y hy => ?_, ?_, ?_, ?_⟩
  · exact r.blk.keep k (by simp; exact (n2 x hx _ (by simp [entB])).1)
  · simp only
    rw [lmod_al _ _ id (fun e => (hf e).1) (fun _ => rfl)]
    exact r.map.keep k (by simp; exact (n2 x hx _ (by simp [entB])).2)
  · obtain ⟨z, hz, rfl⟩ := List.mem_map.1 hy
    by_cases hk : z.1.p = x.1.p
    · have hzx : z = x := r.inj hz hx hk
      rw [hzx, if_pos rfl]
      obtain ⟨y, hy'⟩ := (r.ents x hx).bytes
      refine ⟨hb, ⟨y, ?_⟩, ?_⟩
      · simp only [(hf x.1).2, id]
        exact hy'.keep k (by simp; exact fun e => r.hbne hx e.symm)
      · simp only [(hf x.1).2]
        exact (r.ents x hx).page
    · rw [if_neg hk]
      exact (r.ents z hz).keep k fun b hb' => by
        simp only [List.mem_singleton]
        intro e
        exact r.apart hz hx hk b hb' (by rw [e]; simp [entB])
  · have := r.nodup
    simp only [Cp.foot] at this ⊢
    rw [lmod_foot]
    exact this
  · simp only
    rw [r.l, lmod_fst]
  · simp only
    rw [emod_keys _ _ (fun e => (hf e).1)]
    exact r.keys

end
end Go.Proofs.YtfapgccnhonoiaaGreat

/- The cache, part 2: none, of, uses, Pin, Unpin, Has, Counts. -/
namespace Go.Proofs.YtfapgccnhonoiaaGreat

/-- Behind a call: the cache is so; all else is as it was. -/
def CPost (h h' : Heap) (c da : Nat) (q : Cp) (K' : Ck) : Prop :=
  ∃ q', CacheR h' c da K' q' ∧ Keep h h' (q.foot c) ∧ ∀ b ∈ q'.foot c, b ∈ q.foot c ∨ h.size ≤ b

section
variable {h : Heap} {c da : Nat} {K : Ck} {q : Cp}

theorem CPost.same (r : CacheR h c da K q) : CPost h h c da q K := ⟨q, r, Keep.refl _ _, fun _ hb => .inl hb⟩

theorem cNone_ok (r : CacheR h c da K q) : CallH Tryz.prog 59 ⟨[ptr c]⟩ h fun v h' => v = .bool false ∧ h' = h :=
  cNone_call c ⟨nofun, fun _ => ⟨_, r.blk.cell rfl, rfl, rfl⟩⟩

theorem cNoneN_ok (h : Heap) : CallH Tryz.prog 59 ⟨[.pointer none]⟩ h fun v h' => v = .bool true ∧ h' = h := by
  refine cNoneN_call ?_
  unfold cNoneN_vc
  simp

/-- The page, or the document's error. -/
theorem cOf_ok (r : CacheR h c da K q) (k : Int) : CallH Tryz.prog 65 ⟨[ptr c, i64 k]⟩ h fun v h' => h' = h ∧
    match efind k K.l with
    | some e => ∃ x ∈ q.L, x.1 = e ∧ e.p = k ∧ v = .tuple ⟨[ptr x.2.hb, i64 0]⟩
    | none => v = .tuple ⟨[.pointer none, i64 4]⟩ := by
  refine cOf_call c k ⟨by kernel_rfl, (cNone_ok r).mono ?_⟩
  rintro _ _ ⟨rfl, rfl⟩
  obtain ⟨es, he, _, hk, hg⟩ := r.map.is
  have ha := al_get k q.L
  rw [← r.l] at ha
  refine ⟨false, rfl, nofun, fun _ => ⟨_, r.blk.cell rfl, es, he, hk k, fun v hv => ?_, fun hv => ⟨fun _ => ?_, nofun⟩⟩⟩
  · rw [hg] at hv
    rw [hv] at ha
    obtain ⟨x, hx, h1, h2, h3⟩ := ha
    refine ⟨_, h2, nofun, fun _ => ⟨rfl, ?_⟩⟩
    rw [h3]
    exact ⟨x, hx, rfl, h1, rfl⟩
  · rw [hg] at hv
    rw [hv] at ha
    refine ⟨rfl, ?_⟩
    rw [ha.2]

theorem cOfN_ok (h : Heap) (k : Int) : CallH Tryz.prog 65 ⟨[.pointer none, i64 k]⟩ h fun v h' => h' = h ∧ v = .tuple ⟨[.pointer none, i64 2]⟩ := by
  refine cOfN_call k ⟨by kernel_rfl, (cNoneN_ok h).mono ?_⟩
  rintro _ _ ⟨rfl, rfl⟩
  exact ⟨true, rfl, fun _ => ⟨rfl, rfl⟩, nofun⟩

theorem cHas_ok (r : CacheR h c da K q) (k : Int) : CallH Tryz.prog 46 ⟨[ptr c, i64 k]⟩ h fun v h' => v = .bool (efind k K.l).isSome ∧ h' = h := by
  refine cHas_call c k ⟨by kernel_rfl, (cOf_ok r k).mono ?_⟩
  rintro v h' ⟨rfl, hv⟩
  cases he : efind k K.l with
  | none => rw [he] at hv; exact ⟨_, _, hv, rfl, rfl⟩
  | some e =>
    rw [he] at hv
    obtain ⟨x, _, _, _, hv⟩ := hv
    exact ⟨_, _, hv, rfl, rfl⟩

theorem cCounts_ok (r : CacheR h c da K q) : CallH Tryz.prog 39 ⟨[ptr c]⟩ h fun v h' => v = .tuple ⟨[i64 K.hits, i64 K.misses]⟩ ∧ h' = h := by
  refine cCounts_call c ⟨by kernel_rfl, (cNone_ok r).mono ?_⟩
  rintro _ _ ⟨rfl, rfl⟩
  exact ⟨false, rfl, nofun, fun _ => ⟨_, r.blk.cell rfl, _, r.blk.cell rfl, rfl, rfl⟩⟩

def Ck.pin (K : Ck) (k : Int) : Ck × Int :=
  match efind k K.l with
  | some _ => ({ K with l := emod k (fun e => { e with pins := IntKind.wrap .i64 (e.pins + 1) }) K.l }, 0)
  | none => (K, 4)

theorem cPin_ok (r : CacheR h c da K q) (k : Int) : CallH Tryz.prog 24 ⟨[ptr c, i64 k]⟩ h fun v h' => v = i64 (K.pin k).2 ∧ CPost h h' c da q (K.pin k).1 := by
  refine cPin_call c k ⟨by kernel_rfl, (cOf_ok r k).mono ?_⟩
  rintro v h' ⟨rfl, hv⟩
  unfold Ck.pin
  cases he : efind k K.l with
  | none =>
    rw [he] at hv
    exact ⟨_, _, hv, fun _ => ⟨rfl, CPost.same r⟩, nofun⟩
  | some e =>
    rw [he] at hv
    obtain ⟨x, hx, rfl, hk, hv⟩ := hv
    have hb := (r.ents x hx).held
    refine ⟨_, _, hv, nofun, fun _ => ⟨_, (by rw [addr_add]; exact hb.cell rfl), rfl, (by rw [addr_add]; exact hb.ok (by simp)), fun h2 hh2 => ⟨rfl, ?_⟩⟩⟩
    rw [addr_add] at hh2
    have k2 : Keep h' h2 [x.2.hb] := by rw [hh2]; exact Keep.upd _ _ _ _ _ (by simp)
    have b2 := hb.upd 2 (i64 (IntKind.wrap .i64 (x.1.pins + 1)))
    rw [← hh2] at b2
    have := r.entry hx (fun e => { e with pins := IntKind.wrap .i64 (e.pins + 1) }) (fun _ => ⟨rfl, rfl⟩) k2 b2
    rw [hk] at this
    refine ⟨_, this, k2.mono (fun b hb => .inl ?_), fun b hb => .inl ?_⟩
    · simp only [List.mem_singleton] at hb; rw [hb]; exact Cp.mem_foot hx (by simp [entB])
    · simp only [Cp.foot] at hb ⊢; rw [lmod_foot] at hb; exact hb

def Ck.unpin (K : Ck) (k : Int) : Ck × Int :=
  match efind k K.l with
  | some e => if e.pins = 0 then (K, 4) else ({ K with l := emod k (fun e => { e with pins := IntKind.wrap .i64 (e.pins - 1) }) K.l }, 0)
  | none => (K, 4)

theorem cUnpin_ok (r : CacheR h c da K q) (k : Int) : CallH Tryz.prog 26 ⟨[ptr c, i64 k]⟩ h fun v h' => v = i64 (K.unpin k).2 ∧ CPost h h' c da q (K.unpin k).1 := by
  refine cUnpin_call c k ⟨by kernel_rfl, (cOf_ok r k).mono ?_⟩
  rintro v h' ⟨rfl, hv⟩
  unfold Ck.unpin
  cases he : efind k K.l with
  | none =>
    rw [he] at hv
    exact ⟨_, _, hv, fun _ => ⟨rfl, CPost.same r⟩, nofun⟩
  | some e =>
    rw [he] at hv
    obtain ⟨x, hx, rfl, hk, hv⟩ := hv
    have hb := (r.ents x hx).held
    refine ⟨_, _, hv, nofun, fun _ => ⟨_, (by rw [addr_add]; exact hb.cell rfl), fun e0 => ?_, fun e0 => ⟨_, (by rw [addr_add]; exact hb.cell rfl), rfl, (by rw [addr_add]; exact hb.ok (by simp)), fun h2 hh2 => ?_⟩⟩⟩
    · have : x.1.pins = 0 := by simpa using e0
      simp only [this, if_true]
      exact ⟨trivial, CPost.same r⟩
    · have : ¬ x.1.pins = 0 := by simpa using e0
      simp only [this, if_false]
      rw [addr_add] at hh2
      have k2 : Keep h' h2 [x.2.hb] := by rw [hh2]; exact Keep.upd _ _ _ _ _ (by simp)
      have b2 := hb.upd 2 (i64 (IntKind.wrap .i64 (x.1.pins - 1)))
      rw [← hh2] at b2
      have := r.entry hx (fun e => { e with pins := IntKind.wrap .i64 (e.pins - 1) }) (fun _ => ⟨rfl, rfl⟩) k2 b2
      rw [hk] at this
      refine ⟨trivial, _, this, k2.mono (fun b hb => .inl ?_), fun b hb => .inl ?_⟩
      · simp only [List.mem_singleton] at hb; rw [hb]; exact Cp.mem_foot hx (by simp [entB])
      · simp only [Cp.foot] at hb ⊢; rw [lmod_foot] at hb; exact hb

/-- A page is used. -/
def Ck.uses (K : Ck) (k : Int) : Ck := { K with clock := IntKind.wrap .i64 (K.clock + 1), l := emod k (fun e => { e with used := IntKind.wrap .i64 (K.clock + 1) }) K.l }

theorem cUses_ok (r : CacheR h c da K q) {x : En × Ep} (hx : x ∈ q.L) : CallH Tryz.prog 56 ⟨[ptr c, ptr x.2.hb]⟩ h fun v h' => v = .tuple ⟨[]⟩ ∧
    CacheR h' c da (K.uses x.1.p) { q with L := lmod x.1.p (fun e => { e with used := IntKind.wrap .i64 (K.clock + 1) }) id q.L } ∧ Keep h h' (q.foot c) := by
  refine cUses_call c x.2.hb ⟨_, r.blk.cell rfl, rfl, r.blk.ok (by simp), fun h1 hh1 => ?_⟩
  have k1 : Keep h h1 [c] := by rw [hh1]; exact Keep.upd _ _ _ _ _ (by simp)
  have b1 := r.blk.upd 3 (i64 (IntKind.wrap .i64 (K.clock + 1)))
  rw [← hh1] at b1
  have r1 := r.head (IntKind.wrap .i64 (K.clock + 1)) K.hits K.misses k1 b1
  have hb := (r1.ents x hx).held
  refine ⟨_, r1.blk.cell rfl, rfl, hb.ok (by simp), fun h2 hh2 => ⟨rfl, ?_⟩⟩
  have k2 : Keep h1 h2 [x.2.hb] := by rw [hh2]; exact Keep.upd _ _ _ _ _ (by simp)
  have b2 := hb.upd 3 (i64 (IntKind.wrap .i64 (K.clock + 1)))
  rw [← hh2] at b2
  refine ⟨r1.entry hx (fun e => { e with used := IntKind.wrap .i64 (K.clock + 1) }) (fun _ => ⟨rfl, rfl⟩) k2 b2, ?_⟩
  refine (k1.mono (F' := q.foot c) (fun b hb => .inl ?_)).trans' (k2.mono (fun b hb => .inl ?_))
  · simp only [List.mem_singleton] at hb; rw [hb]; simp [Cp.foot]
  · simp only [List.mem_singleton] at hb; rw [hb]; exact Cp.mem_foot hx (by simp [entB])

end
end Go.Proofs.YtfapgccnhonoiaaGreat

/- The cache, part 3: the page that was used longest ago. -/
namespace Go.Proofs.YtfapgccnhonoiaaGreat

/-- Of those that are not pinned the one that was used longest ago; -1: all are. -/
def Ck.oldest (K : Ck) (b : Int) : Prop :=
  (b = -1 ∧ ∀ e ∈ K.l, 0 < e.pins) ∨ ∃ e ∈ K.l, e.p = b ∧ ¬ 0 < e.pins ∧ ∀ e' ∈ K.l, ¬ 0 < e'.pins → e.used ≤ e'.used

def bestOf (L : List (En × Ep)) (ds : List MapEntry) (b : Int) : Prop :=
  (b = -1 ∧ ∀ y ∈ L, (∃ e ∈ ds, e.key = .int .i64 y.1.p) → 0 < y.1.pins) ∨
  ∃ x ∈ L, x.1.p = b ∧ ¬ 0 < x.1.pins ∧ ∀ y ∈ L, (∃ e ∈ ds, e.key = .int .i64 y.1.p) → ¬ 0 < y.1.pins → x.1.used ≤ y.1.used

theorem alOf_mem {L : List (En × Ep)} {k : Int} {v : Value} (h : (k, v) ∈ alOf L) : ∃ x ∈ L, x.1.p = k ∧ v = ptr x.2.hb := by
  obtain ⟨x, hx, he⟩ := List.mem_map.1 h
  cases he
  exact ⟨x, hx, rfl, rfl⟩

section
variable {h : Heap} {c da : Nat} {K : Ck} {q : Cp}

theorem cOldest_ok (r : CacheR h c da K q) (hp : ∀ e ∈ K.l, 0 ≤ e.p) : CallH Tryz.prog 82 ⟨[ptr c]⟩ h fun v h' => ∃ b, v = i64 b ∧ K.oldest b ∧ Keep h h' [] := by
  have hpL : ∀ x ∈ q.L, 0 ≤ x.1.p := fun x hx => hp _ (by rw [r.l]; exact List.mem_map_of_mem hx)
  obtain ⟨es, clk, hm, he⟩ := r.map
  refine cOldest_call c ⟨_, r.blk.cell rfl, es, clk, hm, fun it h1 hit hh1 => ?_⟩
  have i1 : IterR h1 it q.mb es clk ⟨[]⟩ clk [] := by rw [hh1, hit]; exact IterR.start hm
  have k1 : Keep h h1 [] := by rw [hh1]; exact Keep.push _ _ _
  have r1 := r.keep k1 (by simp)
  have hitn : ∀ b ∈ q.foot c, b ≠ it := fun b hb e => by have := r.lt b hb; omega
  have hne : it ≠ q.mb := fun e => hitn q.mb (by simp [Cp.foot]) e.symm
  clear hh1
  refine ⟨fun best hh => ∃ told ds, IterR hh it q.mb es clk told clk ds ∧ CacheR hh c da K q ∧ Keep h hh [] ∧ bestOf q.L ds best, fun _ hh => iterM it es.size hh, ⟨_, _, i1, r1, k1, .inl ⟨rfl, fun y _ ⟨e, he, _⟩ => (nomatch he)⟩⟩, ?_⟩
  rintro best hh ⟨told, ds, hi, hr, hk, hb⟩
  refine ⟨rfl, .inr ⟨q.mb, clk, told, clk, es, clk, hi.iter, hi.map, hi.some he, ?_, fun hf => ?_⟩⟩
  · rintro x ⟨hx, hnt⟩ h2 hh2
    have hi2 := hi.step hne hx hnt
    rw [← hh2] at hi2
    have k2 : Keep hh h2 [it] := by rw [hh2]; exact Keep.set _ _ _ _ (by simp)
    have r2 : CacheR h2 c da K q := hr.keep k2 (fun b hb => by simp; exact hitn b hb)
    have hk2 : Keep h h2 [] := hk.trans k2 (fun b hb => .inr (by simp only [List.mem_singleton] at hb; omega))
    obtain ⟨key, hkey, hkm⟩ := entsOf_mem _ _ he.ents x hx
    obtain ⟨y, hy, hyk, hval⟩ := alOf_mem hkm
    have hy2 := (r2.ents y hy).held
    have hm2 : iterM it es.size h2 < iterM it es.size hh := by
      have h1 := hi2.few
      have h2' : told.size = ds.length := by
        have := congrArg List.length hi.told
        simpa using this
      unfold iterM
      rw [hi2.iter, hi.iter]
      simp only [List.length_append, List.length_cons, List.length_nil, Array.size_push] at h1 ⊢
      omega
    -- which keys are done now
    have done : ∀ z ∈ q.L, (∃ e ∈ ds ++ [x], e.key = .int .i64 z.1.p) → (∃ e ∈ ds, e.key = .int .i64 z.1.p) ∨ z = y := by
      rintro z hz ⟨e, he', hek⟩
      rcases List.mem_append.1 he' with he' | he'
      · exact .inl ⟨e, he', hek⟩
      · simp only [List.mem_singleton] at he'
        rw [he', hkey] at hek
        simp only [Value.int.injEq, true_and] at hek
        exact .inr (r2.inj hz hy (by rw [← hek, hyk]))
    -- it is passed over
    have pass : (0 < y.1.pins ∨ ∃ z ∈ q.L, z.1.p = best ∧ 0 ≤ best ∧ z.1.used < y.1.used) → ∃ told ds, IterR h2 it q.mb es clk told clk ds ∧ CacheR h2 c da K q ∧ Keep h h2 [] ∧ bestOf q.L ds best := by
      intro hcase
      refine ⟨_, _, hi2, r2, hk2, ?_⟩
      rcases hb with ⟨hb1, hb2⟩ | ⟨w, hw, hb1, hb2, hb3⟩
      · refine .inl ⟨hb1, fun z hz hd => ?_⟩
        rcases done z hz hd with hd | rfl
        · exact hb2 z hz hd
        · rcases hcase with hc | ⟨_, _, _, h0, _⟩
          · exact hc
          · omega
      · refine .inr ⟨w, hw, hb1, hb2, fun z hz hd hpz => ?_⟩
        rcases done z hz hd with hd | rfl
        · exact hb3 z hz hd hpz
        · rcases hcase with hc | ⟨u, hu, hub, _, hlt⟩
          · exact absurd hc hpz
          · have : u = w := r2.inj hu hw (by rw [hub, hb1])
            rw [this] at hlt
            omega
    -- it is taken
    have take : ¬ 0 < y.1.pins → (best < 0 ∨ ∃ z ∈ q.L, z.1.p = best ∧ y.1.used ≤ z.1.used) → ∃ told ds, IterR h2 it q.mb es clk told clk ds ∧ CacheR h2 c da K q ∧ Keep h h2 [] ∧ bestOf q.L ds key := by
      intro hpy hcase
      refine ⟨_, _, hi2, r2, hk2, .inr ⟨y, hy, hyk, hpy, fun z hz hd hpz => ?_⟩⟩
      rcases done z hz hd with hd | rfl
      · rcases hb with ⟨hb1, hb2⟩ | ⟨w, hw, hb1, hb2, hb3⟩
        · exact absurd (hb2 z hz hd) hpz
        · have := hb3 z hz hd hpz
          rcases hcase with hc | ⟨u, hu, hub, hle⟩
          · have := hpL w hw; omega
          · have hwu : u = w := r2.inj hu hw (by rw [hub, hb1])
            rw [hwu] at hle
            omega
      · exact Int.le_refl _
    refine ⟨rfl, q.mb, clk, told.push x.born, clk, es, x.born, x, hi2.iter, by simp, hi2.map, he.found hx, ?_⟩
    rw [hval, hkey]
    refine ⟨_, (by rw [addr_add]; exact hy2.cell rfl), fun e1 => ⟨pass (.inl (of_decide_eq_true e1)), hm2⟩, fun e1 => ⟨fun e2 => ?_, fun e2 => ?_⟩⟩
    · have hpy : ¬ 0 < y.1.pins := of_decide_eq_false e1
      have hb0 : 0 ≤ best := of_decide_eq_true e2
      rcases hb with ⟨hb1, _⟩ | ⟨w, hw, hb1, hb2, hb3⟩
      · omega
      · obtain ⟨es2, he2, _, hk2', hg2⟩ := r2.map.is
        have ha := al_get best q.L
        refine ⟨_, r2.blk.cell rfl, es2, he2, hk2' best, fun v hv => ?_, fun hv => ?_⟩
        · rw [hg2] at hv
          rw [hv] at ha
          obtain ⟨z, hz, hzp, hzv, _⟩ := ha
          have hzw : z = w := r2.inj hz hw (by rw [hzp, hb1])
          refine ⟨_, hzv, _, (by rw [addr_add]; exact (r2.ents z hz).held.cell rfl), _, (by rw [addr_add]; exact hy2.cell rfl), fun e3 => ⟨pass (.inr ⟨z, hz, hzp, hb0, of_decide_eq_true e3⟩), hm2⟩, fun e3 => ⟨take hpy (.inr ⟨z, hz, hzp, ?_⟩), hm2⟩⟩
          have := of_decide_eq_false e3
          omega
        · rw [hg2] at hv
          rw [hv] at ha
          exact ha.1 w hw hb1
    · have hpy : ¬ 0 < y.1.pins := of_decide_eq_false e1
      have hb0 : ¬ 0 ≤ best := of_decide_eq_false e2
      exact ⟨take hpy (.inl (by omega)), hm2⟩
  · refine ⟨best, rfl, ?_, hk⟩
    have cover : ∀ y ∈ q.L, ∃ e ∈ ds, e.key = .int .i64 y.1.p := fun y hy => by
      obtain ⟨e, he1, he2, _⟩ := entsOf_mem' _ _ he.ents _ (List.mem_map.2 ⟨y, hy, rfl⟩)
      exact ⟨e, hi.all he hf e he1, he2⟩
    unfold Ck.oldest
    rw [r.l]
    rcases hb with ⟨hb1, hb2⟩ | ⟨w, hw, hb1, hb2, hb3⟩
    · refine .inl ⟨hb1, fun e he => ?_⟩
      obtain ⟨y, hy, rfl⟩ := List.mem_map.1 he
      exact hb2 y hy (cover y hy)
    · refine .inr ⟨w.1, List.mem_map_of_mem hw, hb1, hb2, fun e he hpe => ?_⟩
      obtain ⟨y, hy, rfl⟩ := List.mem_map.1 he
      exact hb3 y hy (cover y hy) hpe

end
end Go.Proofs.YtfapgccnhonoiaaGreat

/- The cache, part 4: with its disk; may; room. -/
namespace Go.Proofs.YtfapgccnhonoiaaGreat

/-- A cache and its disk. -/
structure CD (h : Heap) (c da : Nat) (D : Dk) (K : Ck) (p : Pl) (q : Cp) : Prop where
  dk : DiskR h da D p
  ck : CacheR h c da K q
  apart : ∀ b ∈ q.foot c, b ∉ p.foot da

def cdFoot (c da : Nat) (p : Pl) (q : Cp) : List Nat := q.foot c ++ p.foot da

/-- Behind a call: cache and disk are so; all else is as it was. -/
def CDPost (h h' : Heap) (c da : Nat) (p : Pl) (q : Cp) (D' : Dk) (K' : Ck) : Prop :=
  ∃ p' q', CD h' c da D' K' p' q' ∧ Keep h h' (cdFoot c da p q) ∧ ∀ b ∈ cdFoot c da p' q', b ∈ cdFoot c da p q ∨ h.size ≤ b

section
variable {h h' h'' : Heap} {c da : Nat} {D D' D'' : Dk} {K K' K'' : Ck} {p p' : Pl} {q q' : Cp}

theorem CD.lt (r : CD h c da D K p q) : ∀ b ∈ cdFoot c da p q, b < h.size := fun b hb => by
  rcases List.mem_append.1 hb with hb | hb
  · exact r.ck.lt b hb
  · exact r.dk.lt b hb

theorem CD.keep {F : List Nat} (r : CD h c da D K p q) (k : Keep h h' F) (hF : ∀ b ∈ cdFoot c da p q, b ∉ F) : CD h' c da D K p q :=
  ⟨r.dk.keep k fun b hb => hF b (List.mem_append_right _ hb), r.ck.keep k fun b hb => hF b (List.mem_append_left _ hb), r.apart⟩

theorem CDPost.same (r : CD h c da D K p q) : CDPost h h c da p q D K := ⟨p, q, r, Keep.refl _ _, fun _ hb => .inl hb⟩

/-- Only new blocks beside. -/
theorem CD.beside (r : CD h c da D K p q) (k : Keep h h' []) : CDPost h h' c da p q D K := ⟨p, q, r.keep k (by simp), k.mono (by simp), fun _ hb => .inl hb⟩

theorem CDPost.via (k : Keep h h' (cdFoot c da p q)) (s : ∀ b ∈ cdFoot c da p' q', b ∈ cdFoot c da p q ∨ h.size ≤ b) (x : CDPost h' h'' c da p' q' D'' K'') : CDPost h h'' c da p q D'' K'' := by
  obtain ⟨p2, q2, r, k', s'⟩ := x
  refine ⟨p2, q2, r, k.trans k' s, fun b hb => ?_⟩
  rcases s' b hb with h1 | h1
  · exact s b h1
  · exact .inr (Nat.le_trans k.size h1)

/-- Only the cache has changed. -/
theorem CD.cache (r : CD h c da D K p q) (x : CPost h h' c da q K') : CDPost h h' c da p q D K' := by
  obtain ⟨q', r', k, s⟩ := x
  refine ⟨p, q', ⟨r.dk.keep k fun b hb hx => r.apart b hx hb, r', fun b hb hx => ?_⟩, k.mono fun b hb => .inl (List.mem_append_left _ hb), fun b hb => ?_⟩
  · rcases s b hb with h1 | h1
    · exact r.apart b h1 hx
    · have := r.dk.lt b hx; omega
  · rcases List.mem_append.1 hb with hb | hb
    · rcases s b hb with h1 | h1
      · exact .inl (List.mem_append_left _ h1)
      · exact .inr h1
    · exact .inl (List.mem_append_right _ hb)

/-- Only the disk has changed. -/
theorem CD.disk (r : CD h c da D K p q) (x : DPost h h' da p D') : CDPost h h' c da p q D' K := by
  obtain ⟨p', r', k, s⟩ := x
  refine ⟨p', q, ⟨r', r.ck.keep k fun b hb => r.apart b hb, fun b hb hx => ?_⟩, k.mono fun b hb => .inl (List.mem_append_right _ hb), fun b hb => ?_⟩
  · rcases s b hx with h1 | h1
    · exact r.apart b hb h1
    · have := r.ck.lt b hb; omega
  · rcases List.mem_append.1 hb with hb | hb
    · exact .inl (List.mem_append_left _ hb)
    · rcases s b hb with h1 | h1
      · exact .inl (List.mem_append_right _ h1)
      · exact .inr h1

/-- What may tells. -/
def Dk.may (D : Dk) (k size : Int) : Int := if k < 0 ∨ (D.st.length : Int) ≤ k ∨ size ≠ 256 then 1 else 0

theorem cMay_ok (r : CD h c da D K p q) (k size : Int) : CallH Tryz.prog 54 ⟨[ptr c, i64 k, i64 size]⟩ h fun v h' => v = i64 (D.may k size) ∧ h' = h := by
  refine cMay_call c k size ⟨by kernel_rfl, (cNone_ok r.ck).mono ?_⟩
  rintro _ _ ⟨rfl, rfl⟩
  refine ⟨false, rfl, nofun, fun _ => ⟨fun e => ?_, fun e => ⟨_, r.ck.blk.cell rfl, by kernel_rfl, (dPages_ok r.dk).mono ?_⟩⟩⟩
  · simp only [decide_eq_true_eq] at e
    simp [Dk.may, e]
  · rintro _ _ ⟨rfl, rfl⟩
    refine ⟨_, rfl, fun e2 => ?_, fun e2 => ⟨fun e3 => ?_, fun e3 => ?_⟩⟩
    · simp only [decide_eq_true_eq, ge_iff_le] at e2
      simp [Dk.may, e2]
    · simp only [bne_iff_ne, ne_eq] at e3
      simp [Dk.may, e3]
    · simp only [decide_eq_false_iff_not, bne_eq_false_iff_eq, ge_iff_le] at e e2 e3
      simp [Dk.may, e, e2, e3]

/-- A page is held no more. -/
def edel (k : Int) : List En → List En
  | [] => []
  | e :: r => if k = e.p then r else e :: edel k r
def ldel (k : Int) : List (En × Ep) → List (En × Ep)
  | [] => []
  | x :: r => if k = x.1.p then r else x :: ldel k r

theorem ldel_fst (k : Int) : ∀ L, (ldel k L).map (·.1) = edel k (L.map (·.1))
  | [] => rfl
  | x :: r => by
    simp only [ldel, List.map_cons, edel]
    split
    · rfl
    · simp [ldel_fst k r]
theorem ldel_al (k : Int) : ∀ L, alOf (ldel k L) = adel k (alOf L)
  | [] => rfl
  | x :: r => by
    simp only [ldel, alOf, List.map_cons, adel]
    split
    · rfl
    · have := ldel_al k r
      simp only [alOf] at this
      simp [this]
theorem ldel_sub (k : Int) : ∀ L, (ldel k L).Sublist L
  | [] => .slnil
  | x :: r => by
    simp only [ldel]
    split
    · exact List.sublist_cons_self x r
    · exact (ldel_sub k r).cons_cons x
theorem edel_sub (k : Int) : ∀ l, (edel k l).Sublist l
  | [] => .slnil
  | x :: r => by
    simp only [edel]
    split
    · exact List.sublist_cons_self x r
    · exact (edel_sub k r).cons_cons x

theorem sub_flat {L' L : List (En × Ep)} (s : L'.Sublist L) : (L'.flatMap entB).Sublist (L.flatMap entB) := by
  induction s with
  | slnil => exact .slnil
  | cons a _ ih => rw [List.flatMap_cons]; exact ih.trans (List.sublist_append_right _ _)
  | cons_cons a _ ih => rw [List.flatMap_cons, List.flatMap_cons]; exact List.Sublist.append (List.Sublist.refl _) ih

/-- The entry taken out of the map. -/
theorem CacheR.del (r : CacheR h c da K q) (k : Int) {es : Array MapEntry} {clk : Nat} (hm : h[q.mb]? = some (.map es clk)) (he : EntsI es clk (alOf q.L))
    (hh : h' = h.setIfInBounds q.mb (match mfind (.int .i64 k) es with | some (n, _) => Obj.map (es.eraseIdxIfInBounds n) clk | none => .map es clk)) :
    CacheR h' c da { K with l := edel k K.l } { q with L := ldel k q.L } ∧ Keep h h' [q.mb] := by
  obtain ⟨es', h1, h2⟩ := he.del k
  have kk : Keep h h' [q.mb] := by rw [hh]; exact Keep.set _ _ _ _ (by simp)
  obtain ⟨n1, n2⟩ := r.ne
  refine ⟨⟨r.blk.keep kk (by simpa using n1), ⟨es', clk, ?_, ?_⟩, fun x hx => ?_, ?_, ?_, ?_⟩, kk⟩
  · rw [hh, Array.getElem?_setIfInBounds_self_of_lt (Array.getElem?_eq_some_iff.1 hm).1]
    exact congrArg some h1
  · rw [ldel_al]; exact h2
  · have hx' := (ldel_sub k q.L).subset hx
    exact (r.ents x hx').keep kk fun b hb => by simp; exact fun e => (n2 x hx' b hb).2 e.symm
  · have hn := r.nodup
    have s := sub_flat (ldel_sub k q.L)
    simp only [Cp.foot, List.nodup_cons, List.mem_cons, not_or] at hn ⊢
    exact ⟨⟨hn.1.1, fun hx => hn.1.2 (s.subset hx)⟩, fun hx => hn.2.1 (s.subset hx), hn.2.2.sublist s⟩
  · simp only
    rw [r.l, ldel_fst]
  · exact r.keys.sublist ((edel_sub k K.l).map _)

theorem CacheR.delPost (r : CacheR h c da K q) (k : Int) {es : Array MapEntry} {clk : Nat} (hm : h[q.mb]? = some (.map es clk)) (he : EntsI es clk (alOf q.L))
    (hh : h' = h.setIfInBounds q.mb (match mfind (.int .i64 k) es with | some (n, _) => Obj.map (es.eraseIdxIfInBounds n) clk | none => .map es clk)) :
    CPost h h' c da q { K with l := edel k K.l } := by
  obtain ⟨h1, h2⟩ := r.del k hm he hh
  refine ⟨_, h1, h2.mono fun b hb => .inl ?_, fun b hb => .inl ?_⟩
  · simp only [List.mem_singleton] at hb; rw [hb]; simp [Cp.foot]
  · simp only [Cp.foot, List.mem_cons] at hb ⊢
    rcases hb with hb | hb | hb
    · exact .inl hb
    · exact .inr (.inl hb)
    · exact .inr (.inr ((sub_flat (ldel_sub k q.L)).subset hb))

def Ck.forget (K : Ck) (k : Int) : Ck × Int :=
  match efind k K.l with
  | some e => if 0 < e.pins then (K, 7) else ({ K with l := edel k K.l }, 0)
  | none => (K, 4)

theorem cForget_ok (r : CacheR h c da K q) (k : Int) : CallH Tryz.prog 28 ⟨[ptr c, i64 k]⟩ h fun v h' => v = i64 (K.forget k).2 ∧ CPost h h' c da q (K.forget k).1 := by
  refine cForget_call c k ⟨by kernel_rfl, (cOf_ok r k).mono ?_⟩
  rintro v h' ⟨rfl, hv⟩
  unfold Ck.forget
  cases he : efind k K.l with
  | none =>
    rw [he] at hv
    exact ⟨_, _, hv, fun _ => ⟨rfl, CPost.same r⟩, nofun⟩
  | some e =>
    rw [he] at hv
    obtain ⟨x, hx, rfl, hk, hv⟩ := hv
    have hb := (r.ents x hx).held
    obtain ⟨es, clk, hm, hes⟩ := r.map
    refine ⟨_, _, hv, nofun, fun _ => ⟨_, (by rw [addr_add]; exact hb.cell rfl), fun e0 => ?_, fun e0 => ⟨_, r.blk.cell rfl, es, clk, hm, hes.keysOK k, fun h2 hh2 => ?_⟩⟩⟩
    · have : 0 < x.1.pins := of_decide_eq_true e0
      simp only [this, if_true]
      exact ⟨trivial, CPost.same r⟩
    · have : ¬ 0 < x.1.pins := of_decide_eq_false e0
      simp only [this, if_false]
      exact ⟨trivial, r.delPost k hm hes hh2⟩

def Ck.drop (K : Ck) : Ck := { K with l := [] }

theorem cDrop_ok (r : CacheR h c da K q) : CallH Tryz.prog 32 ⟨[ptr c]⟩ h fun v h' => v = .tuple ⟨[]⟩ ∧ CPost h h' c da q K.drop := by
  refine cDrop_call c ⟨by kernel_rfl, (cNone_ok r).mono ?_⟩
  rintro _ h' ⟨rfl, rfl⟩
  obtain ⟨es, clk, hm, hes⟩ := r.map
  obtain ⟨n1, n2⟩ := r.ne
  refine ⟨false, rfl, fun _ => ⟨_, r.blk.cell rfl, es, clk, hm, fun h2 hh2 => ⟨rfl, ?_⟩⟩, nofun⟩
  have kk : Keep h' h2 [q.mb] := by rw [hh2]; exact Keep.set _ _ _ _ (by simp)
  refine ⟨⟨q.mb, []⟩, ⟨r.blk.keep kk (by simpa using n1), ⟨#[], clk, ?_, EntsI.nil clk⟩, fun x hx => (nomatch hx), ?_, rfl, by simp [Ck.drop]⟩, kk.mono fun b hb => .inl ?_, fun b hb => .inl ?_⟩
  · rw [hh2, Array.getElem?_setIfInBounds_self_of_lt (Array.getElem?_eq_some_iff.1 hm).1]
  · simpa [Cp.foot] using n1
  · simp only [List.mem_singleton] at hb; rw [hb]; simp [Cp.foot]
  · simp only [Cp.foot, List.flatMap_nil, List.mem_cons, List.not_mem_nil, or_false] at hb ⊢
    rcases hb with hb | hb
    · exact .inl hb
    · exact .inr (.inl hb)

end
end Go.Proofs.YtfapgccnhonoiaaGreat

/- The cache, part 5: room; hit. -/
namespace Go.Proofs.YtfapgccnhonoiaaGreat

/-- How room is made. -/
def roomR (D : Dk) (K : Ck) (v : Int) (D' : Dk) (K' : Ck) : Prop :=
  ((K.l.length : Int) < K.size ∧ v = 0 ∧ D' = D ∧ K' = K) ∨
  (¬ (K.l.length : Int) < K.size ∧ ∃ b, K.oldest b ∧ ((b < 0 ∧ v = 6 ∧ D' = D ∧ K' = K) ∨
    (0 ≤ b ∧ ∃ e, efind b K.l = some e ∧ e ∈ K.l ∧ ((e.ch = false ∧ v = 0 ∧ D' = D ∧ K' = { K with l := edel b K.l }) ∨
      (e.ch = true ∧ D.at b 256 ≠ 0 ∧ v = D.at b 256 ∧ D' = D ∧ K' = K) ∨
      (e.ch = true ∧ D.at b 256 = 0 ∧ v = (D.write b e.b).2 ∧ D' = (D.write b e.b).1 ∧ K' = if v = 0 then { K with l := edel b K.l } else K)))))

section
variable {h : Heap} {c da : Nat} {D : Dk} {K : Ck} {p : Pl} {q : Cp}

theorem efind_of_mem (k : Int) : ∀ (l : List En), (∃ e ∈ l, e.p = k) → ∃ e, efind k l = some e
  | [], ⟨e, he, _⟩ => (nomatch he)
  | x :: r, ⟨e, he, hk⟩ => by
    simp only [efind]
    split
    · exact ⟨x, rfl⟩
    · rename_i hne
      rcases List.mem_cons.1 he with he | he
      · rw [he] at hk; exact absurd hk.symm hne
      · exact efind_of_mem k r ⟨e, he, hk⟩

theorem MapI.put {h h' : Heap} {b : Nat} {l : AL} {es : Array MapEntry} {clk : Nat} (hm : h[b]? = some (.map es clk)) (he : EntsI es clk l) (k : Int) (v : Value) (hh : h' = h.setIfInBounds b (mput es clk (.int .i64 k) v)) : MapI h' b (aput k v l) := by
  obtain ⟨es', clk', h1, h2⟩ := he.put k v
  refine ⟨es', clk', ?_, h2⟩
  rw [hh, Array.getElem?_setIfInBounds_self_of_lt (Array.getElem?_eq_some_iff.1 hm).1, h1]

theorem CD.slAt (r : CD h c da D K p q) {x : En × Ep} (hx : x ∈ q.L) : SlAt h (some ⟨x.2.bb, 0, none⟩) 256 x.1.b (p.foot da) := by
  obtain ⟨y, hy⟩ := (r.ck.ents x hx).bytes
  have hp := (r.ck.ents x hx).page
  refine ⟨hp.1, hp.2, .inr ⟨x.2.bb, 0, rfl, r.apart _ (Cp.mem_foot hx (by simp [entB])), hy.lt, ?_⟩⟩
  rw [hy.row (by rw [List.length_append, hp.1]; omega), List.drop_zero, List.take_append_of_le_length (by rw [hp.1]; omega), List.take_of_length_le (by rw [hp.1]; omega)]

theorem cRoom_ok (r : CD h c da D K p q) (hp : ∀ e ∈ K.l, 0 ≤ e.p) (hb : D.ws.length < 1000000) : CallH Tryz.prog 77 ⟨[ptr c]⟩ h fun v h' => ∃ n D' K', v = i64 n ∧ roomR D K n D' K' ∧ CDPost h h' c da p q D' K' := by
  obtain ⟨es, he, hsz, _, _⟩ := r.ck.map.is
  have hlen : es.size = K.l.length := by rw [hsz, r.ck.l]; simp [alOf]
  refine cRoom_call c ⟨_, r.ck.blk.cell rfl, es, he, _, r.ck.blk.cell rfl, fun e => ?_, fun e => ⟨by kernel_rfl, (cOldest_ok r.ck hp).mono ?_⟩⟩
  · have := of_decide_eq_true e
    rw [hlen] at this
    exact ⟨0, D, K, rfl, .inl ⟨this, rfl, rfl, rfl⟩, CDPost.same r⟩
  have hfull : ¬ (K.l.length : Int) < K.size := by
    have := of_decide_eq_false e
    rwa [hlen] at this
  clear e
  rintro _ h1 ⟨b, rfl, hold, k1⟩
  have r1 := r.keep k1 (by simp)
  refine ⟨b, rfl, fun e => ?_, fun e => ?_⟩
  · exact ⟨6, D, K, rfl, .inr ⟨hfull, b, hold, .inl ⟨of_decide_eq_true e, rfl, rfl, rfl⟩⟩, r.beside k1⟩
  have hb0 : 0 ≤ b := by have := of_decide_eq_false e; omega
  have hmem : ∃ e ∈ K.l, e.p = b := by
    rcases hold with ⟨h1, _⟩ | ⟨e, he, hk, _⟩
    · omega
    · exact ⟨e, he, hk⟩
  obtain ⟨e0, he0⟩ := efind_of_mem b K.l hmem
  obtain ⟨es, he, _, hk, hg⟩ := r1.ck.map.is
  have ha := al_get b q.L
  rw [← r.ck.l] at ha
  refine ⟨_, r1.ck.blk.cell rfl, es, he, hk b, fun v hv => ?_, fun hv => ?_⟩
  rotate_left
  · rw [hg] at hv
    rw [hv, he0] at ha
    exact nomatch ha.2
  rw [hg] at hv
  rw [hv] at ha
  obtain ⟨x, hx, hxp, hxv, hxe⟩ := ha
  have hx0 : x.1 = e0 := by rw [he0] at hxe; exact (Option.some.inj hxe).symm
  have hxK : x.1 ∈ K.l := by rw [r.ck.l]; exact List.mem_map_of_mem hx
  have hh1 := (r1.ck.ents x hx).held
  refine ⟨_, hxv, x.1.ch, (by rw [addr_add]; exact hh1.cell rfl), fun ec => ?_, fun ec => ?_⟩
  · refine ⟨_, r1.ck.blk.cell rfl, _, _, _, hh1.cell rfl, by kernel_rfl, (dWrite_ok r1.dk b _ 256 _ x.1.b (r1.slAt hx) hb).mono ?_⟩
    rintro v2 h2 ⟨hw1, hw2⟩
    by_cases hat : D.at b 256 = 0
    · obtain ⟨rfl, post⟩ := hw2 hat
      have cp := r1.disk post
      refine ⟨_, rfl, fun e3 => ?_, fun e3 => ?_⟩
      · have hne : ¬ (D.write b x.1.b).2 = 0 := by simpa using e3
        refine ⟨_, (D.write b x.1.b).1, K, rfl, .inr ⟨hfull, b, hold, .inr ⟨hb0, x.1, hxe, hxK, .inr (.inr ⟨ec, hat, rfl, rfl, ?_⟩)⟩⟩, CDPost.via (k1.mono (by simp)) (fun _ hb => .inl hb) cp⟩
        rw [if_neg hne]
      · have hz : (D.write b x.1.b).2 = 0 := by simpa using e3
        obtain ⟨p2, q2, r2, k2, s2⟩ := cp
        obtain ⟨es2, clk2, hm2, hes2⟩ := r2.ck.map
        refine ⟨_, r2.ck.blk.cell rfl, es2, clk2, hm2, hes2.keysOK b, fun h3 hh3 => ?_⟩
        have post3 := r2.cache (r2.ck.delPost b hm2 hes2 hh3)
        refine ⟨0, (D.write b x.1.b).1, _, rfl, .inr ⟨hfull, b, hold, .inr ⟨hb0, x.1, hxe, hxK, .inr (.inr ⟨ec, hat, hz.symm, rfl, ?_⟩)⟩⟩, CDPost.via (k1.mono (by simp)) (fun _ hb => .inl hb) (CDPost.via k2 s2 post3)⟩
        rw [if_pos rfl]
    · obtain ⟨rfl, rfl⟩ := hw1 hat
      refine ⟨_, rfl, fun e3 => ?_, fun e3 => ?_⟩
      · exact ⟨_, D, K, rfl, .inr ⟨hfull, b, hold, .inr ⟨hb0, x.1, hxe, hxK, .inr (.inl ⟨ec, hat, rfl, rfl, rfl⟩)⟩⟩, r.beside k1⟩
      · have hz : D.at b 256 = 0 := by simpa using e3
        exact absurd hz hat
  · obtain ⟨es2, clk2, hm2, hes2⟩ := r1.ck.map
    refine ⟨_, r1.ck.blk.cell rfl, es2, clk2, hm2, hes2.keysOK b, fun h3 hh3 => ?_⟩
    have post3 := r1.cache (r1.ck.delPost b hm2 hes2 hh3)
    exact ⟨0, D, _, rfl, .inr ⟨hfull, b, hold, .inr ⟨hb0, x.1, hxe, hxK, .inl ⟨ec, rfl, rfl, rfl⟩⟩⟩, CDPost.via (k1.mono (by simp)) (fun _ hb => .inl hb) post3⟩

end
end Go.Proofs.YtfapgccnhonoiaaGreat

/- The cache, part 6: hit. -/
namespace Go.Proofs.YtfapgccnhonoiaaGreat

section
variable {h : Heap} {c da : Nat} {D : Dk} {K : Ck} {p : Pl} {q : Cp}

def Ck.hit (K : Ck) (k : Int) : Ck := { K with hits := IntKind.wrap .i64 (K.hits + 1) }.uses k
def Ck.miss (K : Ck) : Ck := { K with misses := IntKind.wrap .i64 (K.misses + 1) }

theorem lmod_mem {k : Int} {f : En → En} {g : Ep → Ep} {L : List (En × Ep)} {x : En × Ep} (hx : x ∈ L) (hk : x.1.p = k) : (f x.1, g x.2) ∈ lmod k f g L := by
  refine List.mem_map.2 ⟨x, hx, ?_⟩
  rw [if_pos hk]

theorem cHit_ok (r : CD h c da D K p q) (hp : ∀ e ∈ K.l, 0 ≤ e.p) (hb : D.ws.length < 1000000) (k : Int) : CallH Tryz.prog 55 ⟨[ptr c, i64 k]⟩ h fun v h' =>
    match efind k K.l with
    | some _ => ∃ q' x, v = .tuple ⟨[ptr x.2.hb, i64 0]⟩ ∧ x ∈ q'.L ∧ x.1.p = k ∧ CD h' c da D (K.hit k) p q' ∧ Keep h h' (cdFoot c da p q) ∧ ∀ b ∈ cdFoot c da p q', b ∈ cdFoot c da p q ∨ h.size ≤ b
    | none => ∃ n D' K', v = .tuple ⟨[.pointer none, i64 n]⟩ ∧ roomR D K.miss n D' K' ∧ CDPost h h' c da p q D' K' := by
  obtain ⟨es, he, _, hk, hg⟩ := r.ck.map.is
  have ha := al_get k q.L
  rw [← r.ck.l] at ha
  refine cHit_call c k ⟨_, r.ck.blk.cell rfl, es, he, hk k, fun v hv => ?_, fun hv => ?_⟩
  · rw [hg] at hv
    rw [hv] at ha
    obtain ⟨x, hx, hxp, hxv, hxe⟩ := ha
    refine ⟨_, hxv, _, r.ck.blk.cell rfl, rfl, r.ck.blk.ok (by simp), fun h1 hh1 => ⟨by kernel_rfl, ?_⟩⟩
    have k1 : Keep h h1 [c] := by rw [hh1]; exact Keep.upd _ _ _ _ _ (by simp)
    have b1 := r.ck.blk.upd 4 (i64 (IntKind.wrap .i64 (K.hits + 1)))
    rw [← hh1] at b1
    have r1 := r.ck.head K.clock (IntKind.wrap .i64 (K.hits + 1)) K.misses k1 b1
    refine (cUses_ok r1 hx).mono ?_
    rintro _ h2 ⟨rfl, r2, k2⟩
    refine ⟨rfl, ?_⟩
    rw [hxe]
    rw [hxp] at r2
    have kc : Keep h h2 (q.foot c) := (k1.mono (fun b hb => .inl (by simp only [List.mem_singleton] at hb; rw [hb]; simp [Cp.foot]))).trans' k2
    have hfoot : ∀ (f : En → En), ({ q with L := lmod k f id q.L } : Cp).foot c = q.foot c := fun f => by simp only [Cp.foot]; rw [lmod_foot]
    refine ⟨_, (({ x.1 with used := IntKind.wrap .i64 (K.clock + 1) } : En), x.2), rfl, ?_, hxp, ⟨r.dk.keep kc fun b hb hx => r.apart b hx hb, r2, ?_⟩, kc.mono fun b hb => .inl (List.mem_append_left _ hb), ?_⟩
    · exact lmod_mem (f := fun e => { e with used := IntKind.wrap .i64 (K.clock + 1) }) (g := id) hx hxp
    · rw [hfoot]; exact r.apart
    · intro b hb
      simp only [cdFoot] at hb
      rw [hfoot] at hb
      exact .inl hb
  · rw [hg] at hv
    rw [hv] at ha
    refine ⟨_, r.ck.blk.cell rfl, rfl, r.ck.blk.ok (by simp), fun h1 hh1 => ⟨by kernel_rfl, ?_⟩⟩
    have k1 : Keep h h1 [c] := by rw [hh1]; exact Keep.upd _ _ _ _ _ (by simp)
    have b1 := r.ck.blk.upd 5 (i64 (IntKind.wrap .i64 (K.misses + 1)))
    rw [← hh1] at b1
    have r1 := r.ck.head K.clock K.hits (IntKind.wrap .i64 (K.misses + 1)) k1 b1
    have kc : Keep h h1 (q.foot c) := k1.mono (fun b hb => .inl (by simp only [List.mem_singleton] at hb; rw [hb]; simp [Cp.foot]))
    have rr : CD h1 c da D K.miss p q := ⟨r.dk.keep kc fun b hb hx => r.apart b hx hb, r1, r.apart⟩
    refine (cRoom_ok rr hp hb).mono ?_
    rintro _ h2 ⟨n, D', K', rfl, hroom, post⟩
    refine ⟨n, rfl, ?_⟩
    rw [ha.2]
    exact ⟨n, D', K', rfl, hroom, CDPost.via (kc.mono fun b hb => .inl (List.mem_append_left _ hb)) (fun _ hb => .inl hb) post⟩

end
end Go.Proofs.YtfapgccnhonoiaaGreat

/- The cache, part 7: a new entry. -/
namespace Go.Proofs.YtfapgccnhonoiaaGreat

theorem ahas_eq (k : Int) : ∀ l, ahas k l = (aget k l).isSome
  | [] => rfl
  | x :: r => by
    simp only [ahas, aget]
    split
    · rfl
    · exact ahas_eq k r

theorem efind_none (k : Int) : ∀ (l : List En), efind k l = none ↔ ∀ e ∈ l, e.p ≠ k
  | [] => by simp [efind]
  | x :: r => by
    simp only [efind]
    split
    · rename_i hk
      simp only [reduceCtorEq, List.mem_cons, forall_eq_or_imp, false_iff, not_and]
      intro h
      exact absurd hk.symm h
    · rename_i hk
      rw [efind_none k r]
      simp only [List.mem_cons, forall_eq_or_imp]
      exact ⟨fun h => ⟨fun e => hk e.symm, h⟩, fun h => h.2⟩

theorem roomR_sub {D D' : Dk} {K K' : Ck} {n : Int} (r : roomR D K n D' K') : K'.l.Sublist K.l ∧ K'.size = K.size ∧ K'.clock = K.clock ∧ K'.hits = K.hits ∧ K'.misses = K.misses := by
  rcases r with ⟨_, _, _, rfl⟩ | ⟨_, b, _, ⟨_, _, _, rfl⟩ | ⟨_, e, _, _, ⟨_, _, _, rfl⟩ | ⟨_, _, _, _, rfl⟩ | ⟨_, _, _, _, rfl⟩⟩⟩
  · exact ⟨List.Sublist.refl _, rfl, rfl, rfl, rfl⟩
  · exact ⟨List.Sublist.refl _, rfl, rfl, rfl, rfl⟩
  · exact ⟨edel_sub _ _, rfl, rfl, rfl, rfl⟩
  · exact ⟨List.Sublist.refl _, rfl, rfl, rfl, rfl⟩
  · split
    · exact ⟨edel_sub _ _, rfl, rfl, rfl, rfl⟩
    · exact ⟨List.Sublist.refl _, rfl, rfl, rfl, rfl⟩

section
variable {h h' : Heap} {c da : Nat} {D : Dk} {K : Ck} {p : Pl} {q : Cp}

theorem cUses_raw (r : CacheR h c da K q) {hb : Nat} {s b0 p0 u : Value} (hbk : Blk h hb [s, b0, p0, u]) (hn : hb ∉ q.foot c) : CallH Tryz.prog 56 ⟨[ptr c, ptr hb]⟩ h fun v h' => v = .tuple ⟨[]⟩ ∧
    CacheR h' c da { K with clock := IntKind.wrap .i64 (K.clock + 1) } q ∧ Blk h' hb [s, b0, p0, i64 (IntKind.wrap .i64 (K.clock + 1))] ∧ Keep h h' [c, hb] := by
  refine cUses_call c hb ⟨_, r.blk.cell rfl, rfl, r.blk.ok (by simp), fun h1 hh1 => ?_⟩
  have k1 : Keep h h1 [c] := by rw [hh1]; exact Keep.upd _ _ _ _ _ (by simp)
  have b1 := r.blk.upd 3 (i64 (IntKind.wrap .i64 (K.clock + 1)))
  rw [← hh1] at b1
  have r1 := r.head (IntKind.wrap .i64 (K.clock + 1)) K.hits K.misses k1 b1
  have hcb : hb ≠ c := fun e => hn (by rw [e]; simp [Cp.foot])
  have hb1 := hbk.keep k1 (by simpa using hcb)
  refine ⟨_, r1.blk.cell rfl, rfl, hb1.ok (by simp), fun h2 hh2 => ⟨rfl, ?_⟩⟩
  have k2 : Keep h1 h2 [hb] := by rw [hh2]; exact Keep.upd _ _ _ _ _ (by simp)
  have b2 := hb1.upd 3 (i64 (IntKind.wrap .i64 (K.clock + 1)))
  rw [← hh2] at b2
  exact ⟨r1.keep k2 (fun b hb' => by simp only [List.mem_singleton]; exact fun e => hn (e ▸ hb')), b2, (k1.mono (by simp)).trans' (k2.mono (by simp))⟩

theorem CacheR.add (r : CacheR h c da K q) {x : En × Ep} (hx : EntR h x) (hk : efind x.1.p K.l = none) (hf : ∀ b ∈ entB x, b ∉ q.foot c) (hne : x.2.hb ≠ x.2.bb) {es : Array MapEntry} {clk : Nat} (hm : h[q.mb]? = some (.map es clk)) (he : EntsI es clk (alOf q.L))
    (hh : h' = h.setIfInBounds q.mb (mput es clk (.int .i64 x.1.p) (ptr x.2.hb))) :
    CacheR h' c da { K with l := K.l ++ [x.1] } { q with L := q.L ++ [x] } ∧ Keep h h' [q.mb] := by
  have kk : Keep h h' [q.mb] := by rw [hh]; exact Keep.set _ _ _ _ (by simp)
  obtain ⟨n1, n2⟩ := r.ne
  have hkeys := (efind_none x.1.p K.l).1 hk
  have hal : aput x.1.p (ptr x.2.hb) (alOf q.L) = alOf (q.L ++ [x]) := by
    have ha := al_get x.1.p q.L
    rw [← r.l] at ha
    have : aget x.1.p (alOf q.L) = none := by
      cases hg : aget x.1.p (alOf q.L) with
      | none => rfl
      | some v =>
        rw [hg] at ha
        obtain ⟨y, _, _, _, he⟩ := ha
        rw [hk] at he
        cases he
    unfold aput
    rw [ahas_eq, this]
    simp [alOf]
  refine ⟨⟨r.blk.keep kk (by simpa using n1), ?_, fun y hy => ?_, ?_, ?_, ?_⟩, kk⟩
  · have := MapI.put hm he x.1.p (ptr x.2.hb) hh
    rw [hal] at this
    exact this
  · rcases List.mem_append.1 hy with hy | hy
    · exact (r.ents y hy).keep kk fun b hb => by simp; exact fun e => (n2 y hy b hb).2 e.symm
    · simp only [List.mem_singleton] at hy
      rw [hy]
      exact hx.keep kk fun b hb => by simp; exact fun e => hf b hb (by rw [e]; simp [Cp.foot])
  · have hn := r.nodup
    simp only [Cp.foot, List.flatMap_append, List.flatMap_cons, List.flatMap_nil, List.append_nil] at hn ⊢
    have : (c :: q.mb :: (List.flatMap entB q.L ++ entB x)) = (c :: q.mb :: List.flatMap entB q.L) ++ entB x := rfl
    rw [this]
    refine List.nodup_append.2 ⟨hn, by simpa [entB] using hne, fun a ha b hb e => ?_⟩
    rw [e] at ha
    exact hf b hb ha
  · simp only
    rw [r.l]; simp
  · simp only [List.map_append, List.map_cons, List.map_nil]
    refine List.nodup_append.2 ⟨r.keys, by simp, fun a ha b hb e => ?_⟩
    simp only [List.mem_singleton] at hb
    obtain ⟨y, hy, hya⟩ := List.mem_map.1 ha
    exact hkeys y hy (by rw [hya, e, hb])

end
end Go.Proofs.YtfapgccnhonoiaaGreat

/- The cache, part 8: Get. -/
namespace Go.Proofs.YtfapgccnhonoiaaGreat

def Ck.enter (K : Ck) (e : En) : Ck := { K with clock := IntKind.wrap .i64 (K.clock + 1), l := K.l ++ [e] }

/-- What Get does: an error, or the page's bytes. -/
inductive GetR (D : Dk) (K : Ck) (k : Int) : Except Int (List Value) → Dk → Ck → Prop where
  | bad (h : D.may k 256 ≠ 0) : GetR D K k (.error (D.may k 256)) D K
  | held (e : En) (h : D.may k 256 = 0) (he : efind k K.l = some e) : GetR D K k (.ok e.b) D (K.hit k)
  | full (n : Int) (D1 : Dk) (K1 : Ck) (h : D.may k 256 = 0) (he : efind k K.l = none) (hr : roomR D K.miss n D1 K1) (hn : n ≠ 0) : GetR D K k (.error n) D1 K1
  | off (D1 : Dk) (K1 : Ck) (h : D.may k 256 = 0) (he : efind k K.l = none) (hr : roomR D K.miss 0 D1 K1) (ha : D1.at k 256 ≠ 0) : GetR D K k (.error (D1.at k 256)) D1 K1
  | new (D1 : Dk) (K1 : Ck) (h : D.may k 256 = 0) (he : efind k K.l = none) (hr : roomR D K.miss 0 D1 K1) (ha : D1.at k 256 = 0) :
    GetR D K k (.ok (D1.show k)) D1 (K1.enter ⟨k, D1.show k, false, 0, IntKind.wrap .i64 (K1.clock + 1)⟩)

/-- How its answer lies: an own copy. -/
def gotR (h' : Heap) (old : Nat) (F : List Nat) (v : Value) : Except Int (List Value) → Prop
  | .error n => v = .tuple ⟨[.slice none 0 0, i64 n]⟩
  | .ok pg => ∃ b cap x, v = .tuple ⟨[.slice (some ⟨b, 0, none⟩) 256 cap, i64 0]⟩ ∧ Blk h' b (pg ++ x) ∧ old ≤ b ∧ b ∉ F ∧ okPage pg

section
variable {h h' : Heap} {c da : Nat} {D : Dk} {K : Ck} {p : Pl} {q : Cp}

theorem cGet_ok (r : CD h c da D K p q) (hp : ∀ e ∈ K.l, 0 ≤ e.p) (hb : D.ws.length < 1000000) (k : Int) : CallH Tryz.prog 18 ⟨[ptr c, i64 k]⟩ h fun v h' =>
    ∃ res D' K' p' q', GetR D K k res D' K' ∧ gotR h' h.size (cdFoot c da p' q') v res ∧ CD h' c da D' K' p' q' ∧ Keep h h' (cdFoot c da p q) ∧ ∀ b ∈ cdFoot c da p' q', b ∈ cdFoot c da p q ∨ h.size ≤ b := by
  refine cGet_call c k ⟨by kernel_rfl, (cMay_ok r k 256).mono ?_⟩
  rintro _ h0 ⟨rfl, rfl⟩
  refine ⟨_, rfl, fun e => ?_, fun e => ⟨by kernel_rfl, (cHit_ok r hp hb k).mono ?_⟩⟩
  · have hm : D.may k 256 ≠ 0 := by simpa using e
    exact ⟨_, _, _, p, q, .bad hm, rfl, r, Keep.refl _ _, fun _ hb => .inl hb⟩
  have hm : D.may k 256 = 0 := by simpa using e
  intro v h2 hv
  cases he : efind k K.l with
  | some e0 =>
    rw [he] at hv
    obtain ⟨q', x, rfl, hx, hxk, r2, k2, s2⟩ := hv
    refine ⟨_, _, rfl, nofun, fun _ => ⟨nofun, fun _ => ?_⟩⟩
    have hh := (r2.ck.ents x hx).held
    refine ⟨_, _, _, hh.cell rfl, by kernel_rfl, (sClone_ok h2 _ 256 _ x.1.b (p.foot da) (r2.slAt hx) (by omega) (by omega)).mono ?_⟩
    rintro _ h3 ⟨b, cap, y, rfl, hby, hge, k3, hcap, _⟩
    refine ⟨_, _, _, rfl, .ok x.1.b, D, K.hit k, p, q', ?_, ⟨b, cap, y, rfl, hby, Nat.le_trans k2.size hge, fun hm => ?_, (r2.ck.ents x hx).page⟩, r2.keep k3 (by simp), k2.trans k3 (by simp), s2⟩
    · have hl := r2.ck.l
      -- the entry that is found is the one that was
      have hbe : x.1.b = e0.b := by
        have hxK : x.1 ∈ (K.hit k).l := by rw [hl]; exact List.mem_map_of_mem hx
        have : ∀ (l : List En) (f : En → En), (∀ e, (f e).p = e.p ∧ (f e).b = e.b) → (l.map (·.p)).Nodup → ∀ e0, efind k l = some e0 → ∀ e ∈ emod k f l, e.p = k → e.b = e0.b := by
          intro l f hf
          induction l with
          | nil => intro _ e0 h; cases h
          | cons z s ih =>
            intro hn e0 h0 e1 he1 hk1
            simp only [List.map_cons, List.nodup_cons] at hn
            simp only [emod, List.map_cons, List.mem_cons] at he1
            simp only [efind] at h0
            split at h0
            · rename_i hz
              cases h0
              rcases he1 with he1 | he1
              · rw [he1, if_pos hz.symm]; exact (hf _).2
              · obtain ⟨w, hw, rfl⟩ := List.mem_map.1 he1
                exfalso
                refine hn.1 (List.mem_map.2 ⟨w, hw, ?_⟩)
                by_cases hwk : w.p = k
                · rw [hwk, hz]
                · rw [if_neg hwk] at hk1; exact absurd hk1 hwk
            · rename_i hz
              rcases he1 with he1 | he1
              · rw [he1, if_neg (fun e => hz e.symm)] at hk1
                exact absurd hk1.symm hz
              · exact ih hn.2 e0 h0 e1 he1 hk1
        exact this K.l (fun e => { e with used := IntKind.wrap .i64 (K.clock + 1) }) (fun _ => ⟨rfl, rfl⟩) r.ck.keys e0 he x.1 hxK hxk
      rw [hbe]
      exact .held e0 hm he
    · have := r2.lt b hm; omega
  | none =>
    rw [he] at hv
    obtain ⟨n, D1, K1, rfl, hroom, p1, q1, r1, k1, s1⟩ := hv
    refine ⟨_, _, rfl, fun e => ?_, fun e => ⟨fun _ => ?_, nofun⟩⟩
    · have hn : n ≠ 0 := by simpa using e
      exact ⟨_, D1, K1, p1, q1, .full n D1 K1 hm he hroom hn, rfl, r1, k1, s1⟩
    have hn : n = 0 := by simpa using e
    subst hn
    refine ⟨_, r1.ck.blk.cell rfl, by kernel_rfl, (dRead_ok r1.dk k).mono ?_⟩
    rintro v3 h3 ⟨hv1, hv2⟩
    by_cases hat : D1.at k 256 = 0
    · obtain ⟨b, p2, rfl, hge, hbl, hbn, rd, kd, sd⟩ := hv1 hat
      refine ⟨_, _, _, _, rfl, nofun, fun _ n3 h4 hn3 hh4 => ⟨by kernel_rfl, ?_⟩⟩
      -- the disk behind the read
      have kF : Keep h2 h3 (p1.foot da) := kd
      have rc3 : CacheR h3 c da K1 q1 := r1.ck.keep kF fun b hb => r1.apart b hb
      have k4 : Keep h3 h4 [] := by rw [hh4]; exact Keep.push _ _ _
      have new4 : Blk h4 n3 [.slice (some ⟨b, 0, none⟩) 256 256, .bool false, i64 0, i64 0] := by rw [hh4, hn3]; exact Blk.new _ _ _
      have rc4 := rc3.keep k4 (by simp)
      have hn3f : n3 ∉ q1.foot c := fun hx => by have := rc3.lt n3 hx; omega
      have hbf : b ∉ q1.foot c := fun hx => by have := r1.ck.lt b hx; omega
      have hbl4 := hbl.keep k4 (by simp)
      have hbn3 : n3 ≠ b := fun e => by have := hbl.lt; omega
      refine (cUses_raw rc4 new4 hn3f).mono ?_
      rintro _ h5 ⟨rfl, rc5, new5, k5⟩
      refine ⟨rfl, ?_⟩
      obtain ⟨es, clk, hmap, hes⟩ := rc5.map
      refine ⟨_, rc5.blk.cell rfl, es, clk, hmap, hes.keysOK k, fun h6 hh6 => ?_⟩
      obtain ⟨o1, o2⟩ := Dk.at_zero hat
      have hpg : okPage (D1.show k) := Dk.show_ok r1.dk.ok o1 o2.1
      have hcb : b ≠ c := fun e => hbf (by rw [e]; simp [Cp.foot])
      have hbl5 : Blk h5 b (D1.show k) := hbl4.keep k5 (by simp; exact ⟨hcb, fun e => hbn3 e.symm⟩)
      have hx : EntR h5 (⟨k, D1.show k, false, 0, IntKind.wrap .i64 (K1.clock + 1)⟩, ⟨n3, b, 256⟩) := ⟨new5, ⟨[], by simpa using hbl5⟩, hpg⟩
      have hkn : efind k K1.l = none := by
        rw [efind_none] at he ⊢
        exact fun e he1 => he e ((roomR_sub hroom).1.subset he1)
      obtain ⟨rc6, k6⟩ := rc5.add hx hkn (fun y hy => by
        simp only [entB, List.mem_cons, List.not_mem_nil, or_false] at hy
        rcases hy with rfl | rfl
        · exact hn3f
        · exact hbf) hbn3 hmap hes hh6
      have hh6' := (rc6.ents _ (List.mem_append_right _ (List.mem_singleton.2 rfl))).held
      refine ⟨_, _, _, hh6'.cell rfl, by kernel_rfl, ?_⟩
      -- the whole
      have hsz3 := kd.size
      have hsz4 := k4.size
      have hc1 : c ∈ q1.foot c := by simp [Cp.foot]
      have hmb1 : q1.mb ∈ q1.foot c := by simp [Cp.foot]
      have kk : Keep h2 h6 (cdFoot c da p1 q1) := by
        refine (((kF.mono fun b hb => .inl (List.mem_append_right _ hb)).trans k4 (by simp)).trans k5 fun y hy => ?_).trans k6 fun y hy => ?_
        · simp only [List.mem_cons, List.not_mem_nil, or_false] at hy
          rcases hy with rfl | rfl
          · exact .inl (List.mem_append_left _ hc1)
          · exact .inr (by omega)
        · simp only [List.mem_singleton] at hy
          rw [hy]
          exact .inl (List.mem_append_left _ hmb1)
      have rd6 : DiskR h6 da D1 p2 := by
        refine ((rd.keep k4 (by simp)).keep k5 fun y hy => ?_).keep k6 fun y hy => ?_
        · simp only [List.mem_cons, List.not_mem_nil, or_false, not_or]
          refine ⟨fun e => ?_, fun e => ?_⟩
          · rcases sd y hy with h1 | h1
            · exact r1.apart c hc1 (e ▸ h1)
            · have := r1.ck.lt c hc1; omega
          · have := rd.lt y hy; omega
        · simp only [List.mem_singleton]
          intro e
          rcases sd y hy with h1 | h1
          · exact r1.apart q1.mb hmb1 (e ▸ h1)
          · have := r1.ck.lt q1.mb hmb1; omega
      have r6 : CD h6 c da D1 (K1.enter ⟨k, D1.show k, false, 0, IntKind.wrap .i64 (K1.clock + 1)⟩) p2 { q1 with L := q1.L ++ [(⟨k, D1.show k, false, 0, IntKind.wrap .i64 (K1.clock + 1)⟩, ⟨n3, b, 256⟩)] } := by
        refine ⟨rd6, rc6, fun y hy hyd => ?_⟩
        have hy' : y ∈ q1.foot c ∨ y = n3 ∨ y = b := by
          simp only [Cp.foot, List.flatMap_append, List.flatMap_cons, List.flatMap_nil, List.append_nil, List.mem_cons, List.mem_append, entB, List.not_mem_nil, or_false] at hy ⊢
          rcases hy with h | h | h | h | h
          · exact .inl (.inl h)
          · exact .inl (.inr (.inl h))
          · exact .inl (.inr (.inr h))
          · exact .inr (.inl h)
          · exact .inr (.inr h)
        rcases hy' with hy' | rfl | rfl
        · rcases sd y hyd with h1 | h1
          · exact r1.apart y hy' h1
          · have := r1.ck.lt y hy'; omega
        · have := rd.lt _ hyd; omega
        · exact hbn hyd
      refine (sClone_ok h6 _ 256 _ (D1.show k) (p2.foot da) (r6.slAt (x := (⟨k, D1.show k, false, 0, IntKind.wrap .i64 (K1.clock + 1)⟩, ⟨n3, b, 256⟩)) (List.mem_append_right _ (List.mem_singleton.2 rfl))) (by omega) (by omega)).mono ?_
      rintro _ h7 ⟨b7, cap, y, rfl, hb7, hge7, k7, _, _⟩
      refine ⟨_, _, _, rfl, .ok (D1.show k), D1, _, p2, _, .new D1 K1 hm he hroom hat, ⟨b7, cap, y, rfl, hb7, ?_, fun hmem => ?_, hpg⟩, r6.keep k7 (by simp), (k1.trans kk s1).trans k7 (by simp), fun y hy => ?_⟩
      · have := k1.size; have := kk.size; omega
      · have := r6.lt b7 hmem; omega
      · have old : ∀ z, z ∈ cdFoot c da p1 q1 ∨ h2.size ≤ z → z ∈ cdFoot c da p q ∨ h0.size ≤ z := fun z hz => by
          rcases hz with hz | hz
          · exact s1 z hz
          · exact .inr (Nat.le_trans k1.size hz)
        apply old
        rcases List.mem_append.1 hy with hy | hy
        · simp only [Cp.foot, List.flatMap_append, List.flatMap_cons, List.flatMap_nil, List.append_nil, List.mem_cons, List.mem_append, entB, List.not_mem_nil, or_false] at hy
          rcases hy with h | h | h | h | h
          · exact .inl (List.mem_append_left _ (by rw [h]; simp [Cp.foot]))
          · exact .inl (List.mem_append_left _ (by rw [h]; simp [Cp.foot]))
          · exact .inl (List.mem_append_left _ (by simp only [Cp.foot, List.mem_cons]; exact .inr (.inr h)))
          · exact .inr (by omega)
          · exact .inr (by omega)
        · rcases sd y hy with h1 | h1
          · exact .inl (List.mem_append_right _ h1)
          · exact .inr h1
    · obtain ⟨rfl, rfl⟩ := hv2 hat
      refine ⟨_, _, _, _, rfl, fun _ => ?_, fun e3 => ?_⟩
      · exact ⟨_, D1, K1, p1, q1, .off D1 K1 hm he hroom hat, rfl, r1, k1, s1⟩
      · have : D1.at k 256 = 0 := by simpa using e3
        exact absurd this hat

end
end Go.Proofs.YtfapgccnhonoiaaGreat

/- The cache, part 9: a new one. -/
namespace Go.Proofs.YtfapgccnhonoiaaGreat

def Ck.new (n : Int) : Ck := ⟨n, 0, 0, 0, []⟩

section
variable {h h' : Heap} {da : Nat} {D : Dk} {p : Pl}

theorem cNew_ok (r : DiskR h da D p) (n : Int) : CallH Tryz.prog 7 ⟨[ptr da, i64 n]⟩ h fun v h' =>
    (n < 2 ∨ 64 < n → v = .tuple ⟨[.pointer none, i64 1]⟩ ∧ h' = h) ∧
    (2 ≤ n ∧ n ≤ 64 → ∃ c q, v = .tuple ⟨[ptr c, i64 0]⟩ ∧ CD h' c da D (Ck.new n) p q ∧ Keep h h' [] ∧ ∀ b ∈ q.foot c, h.size ≤ b) := by
  refine cNew_call da n ⟨by kernel_rfl, (dPages_ok r).mono ?_⟩
  rintro _ h0 ⟨rfl, rfl⟩
  have hs := r.ok.some
  refine ⟨_, rfl, fun e => ?_, fun _ => ⟨fun e => ?_, fun e => ⟨fun e' => ?_, fun e' n1 h1 hn1 hh1 n2 h2 hn2 hh2 => ?_⟩⟩⟩
  · have : (D.st.length : Int) = 0 := by simpa using e
    omega
  · have := of_decide_eq_true e
    exact ⟨fun _ => ⟨rfl, rfl⟩, fun hc => by omega⟩
  · have := of_decide_eq_true e'
    exact ⟨fun _ => ⟨rfl, rfl⟩, fun hc => by omega⟩
  · have e := of_decide_eq_false e
    have e' := of_decide_eq_false e'
    have k1 : Keep h0 h1 [] := by rw [hh1]; exact Keep.push _ _ _
    have k2 : Keep h1 h2 [] := by rw [hh2]; exact Keep.push _ _ _
    have s1 : h1.size = h0.size + 1 := by rw [hh1]; simp
    refine ⟨fun hc => by omega, fun hc => ⟨n2, ⟨n1, []⟩, rfl, ⟨(r.keep k1 (by simp)).keep k2 (by simp), ⟨?_, ?_, fun x hx => (nomatch hx), ?_, rfl, by simp [Ck.new]⟩, ?_⟩, k1.trans' k2, ?_⟩⟩
    · have := Blk.new h1 [ptr da, i64 n, .map (some n1), i64 0, i64 0, i64 0] 63
      rw [← hh2, ← hn2] at this
      exact this
    · refine MapI.keep (⟨#[], 0, ?_, EntsI.nil 0⟩ : MapI h1 n1 []) k2 (by simp)
      rw [hh1, hn1]
      simp
    · simp [Cp.foot]
      omega
    · intro b hb hx
      have := r.lt b hx
      simp [Cp.foot] at hb
      omega
    · intro b hb
      simp [Cp.foot] at hb
      omega

end
end Go.Proofs.YtfapgccnhonoiaaGreat

/- The cache, part 10: what Put needs: a new entry that is filled later; an entry's new bytes. -/
namespace Go.Proofs.YtfapgccnhonoiaaGreat

section
variable {h h' : Heap} {c da : Nat} {K : Ck} {q : Cp}

/-- As 'add', but the entry's blocks are filled behind the map's change. -/
theorem CacheR.add2 (r : CacheR h c da K q) {x : En × Ep} (hx : EntR h' x) (hk : efind x.1.p K.l = none) (hf : ∀ b ∈ entB x, b ∉ q.foot c) (hne : x.2.hb ≠ x.2.bb) {F : List Nat} (kk : Keep h h' (q.mb :: F)) (hF : ∀ b ∈ F, b ∉ q.foot c)
    (hm : MapI h' q.mb (aput x.1.p (ptr x.2.hb) (alOf q.L))) :
    CacheR h' c da { K with l := K.l ++ [x.1] } { q with L := q.L ++ [x] } := by
  obtain ⟨n1, n2⟩ := r.ne
  have hkeys := (efind_none x.1.p K.l).1 hk
  have hal : aput x.1.p (ptr x.2.hb) (alOf q.L) = alOf (q.L ++ [x]) := by
    have ha := al_get x.1.p q.L
    rw [← r.l] at ha
    have : aget x.1.p (alOf q.L) = none := by
      cases hg : aget x.1.p (alOf q.L) with
      | none => rfl
      | some v =>
        rw [hg] at ha
        obtain ⟨y, _, _, _, he⟩ := ha
        rw [hk] at he
        cases he
    unfold aput
    rw [ahas_eq, this]
    simp [alOf]
  refine ⟨r.blk.keep kk ?_, by rw [← hal]; exact hm, fun y hy => ?_, ?_, ?_, ?_⟩
  · simp only [List.mem_cons, not_or]
    exact ⟨n1, fun hx => hF c hx (by simp [Cp.foot])⟩
  · rcases List.mem_append.1 hy with hy | hy
    · refine (r.ents y hy).keep kk fun b hb => ?_
      simp only [List.mem_cons, not_or]
      exact ⟨fun e => (n2 y hy b hb).2 e.symm, fun hx => hF b hx (Cp.mem_foot hy hb)⟩
    · simp only [List.mem_singleton] at hy
      rw [hy]
      exact hx
  · have hn := r.nodup
    simp only [Cp.foot, List.flatMap_append, List.flatMap_cons, List.flatMap_nil, List.append_nil] at hn ⊢
    have : (c :: q.mb :: (List.flatMap entB q.L ++ entB x)) = (c :: q.mb :: List.flatMap entB q.L) ++ entB x := rfl
    rw [this]
    refine List.nodup_append.2 ⟨hn, by simpa [entB] using hne, fun a ha b hb e => ?_⟩
    rw [e] at ha
    exact hf b hb ha
  · simp only
    rw [r.l]; simp
  · simp only [List.map_append, List.map_cons, List.map_nil]
    refine List.nodup_append.2 ⟨r.keys, by simp, fun a ha b hb e => ?_⟩
    simp only [List.mem_singleton] at hb
    obtain ⟨y, hy, hya⟩ := List.mem_map.1 ha
    exact hkeys y hy (by rw [hya, e, hb])

theorem lmod_flat_mem {k : Int} {f : En → En} {g : Ep → Ep} {L : List (En × Ep)} {b nb : Nat} (hg : ∀ e, (g e).hb = e.hb ∧ (g e).bb = nb) (hb : b ∈ (lmod k f g L).flatMap entB) : b ∈ L.flatMap entB ∨ b = nb := by
  obtain ⟨y, hy, hby⟩ := List.mem_flatMap.1 hb
  obtain ⟨z, hz, rfl⟩ := List.mem_map.1 hy
  by_cases hk : z.1.p = k
  · rw [if_pos hk] at hby
    simp only [entB, (hg z.2).1, (hg z.2).2, List.mem_cons, List.not_mem_nil, or_false] at hby
    rcases hby with h | h
    · exact .inl (List.mem_flatMap.2 ⟨z, hz, by rw [h]; simp [entB]⟩)
    · exact .inr h
  · rw [if_neg hk] at hby
    exact .inl (List.mem_flatMap.2 ⟨z, hz, hby⟩)

theorem lmod_flat_nodup {k : Int} {f : En → En} {g : Ep → Ep} {nb : Nat} (hg : ∀ e, (g e).hb = e.hb ∧ (g e).bb = nb) : ∀ (L : List (En × Ep)), (L.flatMap entB).Nodup → (L.map (·.1.p)).Nodup → nb ∉ L.flatMap entB → ((lmod k f g L).flatMap entB).Nodup
  | [], _, _, _ => by simp [lmod]
  | z :: s, hn, hk, hnb => by
    rw [List.flatMap_cons] at hn hnb
    obtain ⟨h1, h2, h3⟩ := List.nodup_append.1 hn
    simp only [List.mem_append, not_or] at hnb
    simp only [List.map_cons, List.nodup_cons] at hk
    simp only [lmod, List.map_cons, List.flatMap_cons]
    by_cases hz : z.1.p = k
    · rw [if_pos hz]
      have hrest : lmod k f g s = s := by
        unfold lmod
        conv => rhs; rw [← List.map_id s]
        apply List.map_congr_left
        intro y hy
        rw [if_neg (fun e => hk.1 (List.mem_map.2 ⟨y, hy, by rw [e, hz]⟩))]
        rfl
      have hrest' : (s.map fun x => if x.1.p = k then (f x.1, g x.2) else x) = s := hrest
      rw [hrest']
      refine List.nodup_append.2 ⟨?_, h2, fun a ha b hb e => ?_⟩
      · simp only [entB, (hg z.2).1, (hg z.2).2, List.nodup_cons, List.mem_cons, List.not_mem_nil, or_false, not_false_eq_true, List.nodup_nil, and_true, true_and]
        intro e
        exact hnb.1 (by rw [← e]; simp [entB])
      · simp only [entB, (hg z.2).1, (hg z.2).2, List.mem_cons, List.not_mem_nil, or_false] at ha
        rcases ha with ha | ha
        · exact h3 a (by rw [ha]; simp [entB]) b hb e
        · exact hnb.2 (by rw [← ha, e]; exact hb)
    · rw [if_neg hz]
      refine List.nodup_append.2 ⟨h1, lmod_flat_nodup hg s h2 hk.2 hnb.2, fun a ha b hb e => ?_⟩
      rcases lmod_flat_mem hg hb with h | h
      · exact h3 a ha b h e
      · exact hnb.1 (by rw [← h, ← e]; exact ha)

end
end Go.Proofs.YtfapgccnhonoiaaGreat

/- The cache, part 11: Put. -/
namespace Go.Proofs.YtfapgccnhonoiaaGreat

section
variable {h h' : Heap} {c da : Nat} {D : Dk} {K : Ck} {p : Pl} {q : Cp}

/-- One entry's content has changed, and where its bytes lie. -/
theorem CacheR.entry2 (r : CacheR h c da K q) {x : En × Ep} (hx : x ∈ q.L) (f : En → En) (hf : ∀ e, (f e).p = e.p) (nb ncap : Nat) (hnb : nb ∉ q.foot c) {F : List Nat} (k : Keep h h' (x.2.hb :: F)) (hF : ∀ b ∈ F, b ∉ q.foot c)
    (he : EntR h' (f x.1, ⟨x.2.hb, nb, ncap⟩)) :
    CacheR h' c da { K with l := emod x.1.p f K.l } { q with L := lmod x.1.p f (fun e => ⟨e.hb, nb, ncap⟩) q.L } := by
  obtain ⟨n1, n2⟩ := r.ne
  refine ⟨r.blk.keep k ?_, ?_, fun y hy => ?_, ?_, ?_, ?_⟩
  · simp only [List.mem_cons, not_or]
    exact ⟨(n2 x hx _ (by simp [entB])).1, fun hx => hF c hx (by simp [Cp.foot])⟩
  · simp only
    rw [lmod_al _ _ (fun e => ⟨e.hb, nb, ncap⟩) hf (fun _ => rfl)]
    refine r.map.keep k ?_
    simp only [List.mem_cons, not_or]
    exact ⟨(n2 x hx _ (by simp [entB])).2, fun hx => hF _ hx (by simp [Cp.foot])⟩
  · obtain ⟨z, hz, rfl⟩ := List.mem_map.1 hy
    by_cases hk : z.1.p = x.1.p
    · have hzx : z = x := r.inj hz hx hk
      rw [hzx, if_pos rfl]
      exact he
    · rw [if_neg hk]
      refine (r.ents z hz).keep k fun b hb' => ?_
      simp only [List.mem_cons, not_or]
      exact ⟨fun e => r.apart hz hx hk b hb' (by rw [e]; simp [entB]), fun hx => hF b hx (Cp.mem_foot hz hb')⟩
  · have hn := r.nodup
    have hkn := r.keys
    rw [r.l, List.map_map] at hkn
    simp only [Cp.foot, List.nodup_cons, List.mem_cons, not_or] at hn hnb ⊢
    refine ⟨⟨n1, fun hx => ?_⟩, fun hx => ?_, lmod_flat_nodup (g := fun e => ⟨e.hb, nb, ncap⟩) (nb := nb) (fun _ => ⟨rfl, rfl⟩) q.L hn.2.2 hkn hnb.2.2⟩
    · rcases lmod_flat_mem (g := fun e => ⟨e.hb, nb, ncap⟩) (nb := nb) (fun _ => ⟨rfl, rfl⟩) hx with h | h
      · exact hn.1.2 h
      · exact hnb.1 h.symm
    · rcases lmod_flat_mem (g := fun e => ⟨e.hb, nb, ncap⟩) (nb := nb) (fun _ => ⟨rfl, rfl⟩) hx with h | h
      · exact hn.2.1 h
      · exact hnb.2.1 h.symm
  · simp only
    rw [r.l, lmod_fst]
  · simp only
    rw [emod_keys _ _ hf]
    exact r.keys

/-- What Put does. -/
inductive PutR (D : Dk) (K : Ck) (k : Int) (l : Nat) (pg : List Value) : Int → Dk → Ck → Prop where
  | bad (h : D.may k l ≠ 0) : PutR D K k l pg (D.may k l) D K
  | held (e : En) (h : D.may k l = 0) (he : efind k K.l = some e) : PutR D K k l pg 0 D { K.hit k with l := emod k (fun e => { e with b := pg, ch := true }) (K.hit k).l }
  | full (n : Int) (D1 : Dk) (K1 : Ck) (h : D.may k l = 0) (he : efind k K.l = none) (hr : roomR D K.miss n D1 K1) (hn : n ≠ 0) : PutR D K k l pg n D1 K1
  | new (D1 : Dk) (K1 : Ck) (h : D.may k l = 0) (he : efind k K.l = none) (hr : roomR D K.miss 0 D1 K1) : PutR D K k l pg 0 D1 (K1.enter ⟨k, pg, true, 0, IntKind.wrap .i64 (K1.clock + 1)⟩)

theorem Dk.may_zero {D : Dk} {i size : Int} (h : D.may i size = 0) : 0 ≤ i ∧ i < D.st.length ∧ size = 256 := by
  unfold Dk.may at h
  split at h
  · cases h
  · rename_i hc
    simp only [not_or, Int.not_lt, Int.not_le, ne_eq, Decidable.not_not] at hc
    exact hc

/-- Bytes that lie apart, as they are behind a call. -/
theorem SlAt.over {G : List Nat} {s : Option Addr} {l : Nat} {pg : List Value} {F : List Nat} (x : SlAt h s l pg F) (k : Keep h h' F) (hG : ∀ b ∈ G, b ∈ F ∨ h.size ≤ b) : SlAt h' s l pg G := by
  obtain ⟨h1, h2, h3⟩ := x
  refine ⟨h1, h2, ?_⟩
  rcases h3 with h3 | ⟨b, o, hq, hb, hl, hr⟩
  · exact .inl h3
  · refine .inr ⟨b, o, hq, fun hx => ?_, Nat.lt_of_lt_of_le hl k.size, by rw [rowAt_same (k.same b hl hb)]; exact hr⟩
    rcases hG b hx with h | h
    · exact hb h
    · omega

end
end Go.Proofs.YtfapgccnhonoiaaGreat

/- The cache, part 12: Put, its walk. -/
namespace Go.Proofs.YtfapgccnhonoiaaGreat

section
variable {h h' : Heap} {c da : Nat} {D : Dk} {K : Ck} {p : Pl} {q : Cp}

theorem cPut_ok (r : CD h c da D K p q) (hp : ∀ e ∈ K.l, 0 ≤ e.p) (hb : D.ws.length < 1000000) (k : Int) (s : Option Addr) (l cp : Nat) (pg : List Value) (hs : SlAt h s l pg (cdFoot c da p q)) :
    CallH Tryz.prog 16 ⟨[ptr c, i64 k, .slice s l cp]⟩ h fun v h' => ∃ n D' K', v = i64 n ∧ PutR D K k l pg n D' K' ∧ CDPost h h' c da p q D' K' := by
  refine cPut_call c k s l cp ⟨by kernel_rfl, (cMay_ok r k l).mono ?_⟩
  rintro _ h0 ⟨rfl, rfl⟩
  refine ⟨_, rfl, fun e => ?_, fun e => ⟨by kernel_rfl, (cHit_ok r hp hb k).mono ?_⟩⟩
  · have hm : D.may k l ≠ 0 := by simpa using e
    exact ⟨_, _, _, rfl, .bad hm, CDPost.same r⟩
  have hm : D.may k l = 0 := by simpa using e
  have hl : l = 256 := by have := (Dk.may_zero hm).2.2; omega
  have hpg : okPage pg := ⟨by rw [hs.1, hl], hs.2.1⟩
  intro v h2 hv
  cases he : efind k K.l with
  | some e0 =>
    rw [he] at hv
    obtain ⟨q', x, rfl, hx, hxk, r2, k2, s2⟩ := hv
    have hs2 : SlAt h2 s l pg (cdFoot c da p q') := hs.over k2 s2
    refine ⟨_, _, rfl, nofun, fun _ => ⟨nofun, fun _ => ⟨by kernel_rfl, ?_⟩⟩⟩
    refine (sClone_ok h2 s l cp pg _ hs2 (by omega) (by omega)).mono ?_
    rintro _ h8 ⟨b, cap, y, rfl, hby, hge, k8, hcap, _⟩
    refine ⟨_, _, _, rfl, ?_⟩
    have r8 := r2.keep k8 (by simp)
    have hh := (r8.ck.ents x hx).held
    have hbf : b ∉ q'.foot c := fun hx => by have := r2.ck.lt b hx; omega
    have hbh : b ≠ x.2.hb := fun e => hbf (by rw [e]; exact Cp.mem_foot hx (by simp [entB]))
    refine ⟨rfl, hh.ok (by simp), fun h9 hh9 => ?_⟩
    have k9 : Keep h8 h9 [x.2.hb] := by rw [hh9]; exact Keep.upd _ _ _ _ _ (by simp)
    have b9 := hh.upd 0 (.slice (some ⟨b, 0, none⟩) l cap)
    rw [← hh9] at b9
    refine ⟨rfl, (by rw [addr_add]; exact b9.ok (by simp)), fun h10 hh10 => ?_⟩
    rw [addr_add] at hh10
    have k10 : Keep h9 h10 [x.2.hb] := by rw [hh10]; exact Keep.upd _ _ _ _ _ (by simp)
    have b10 := b9.upd (0 + 1) (.bool true)
    rw [← hh10] at b10
    have kk : Keep h8 h10 [x.2.hb] := k9.trans' k10
    subst hl
    have ent : EntR h10 (({ x.1 with b := pg, ch := true } : En), (⟨x.2.hb, b, cap⟩ : Ep)) := ⟨b10, ⟨y, hby.keep kk (by simpa using hbh)⟩, hpg⟩
    have r10 := r8.ck.entry2 hx (fun e => { e with b := pg, ch := true }) (fun _ => rfl) b cap hbf (F := []) kk (by simp) ent
    rw [hxk] at r10
    have post : CPost h2 h10 c da q' { K.hit k with l := emod k (fun e => { e with b := pg, ch := true }) (K.hit k).l } := by
      refine ⟨_, r10, (k8.mono (by simp)).trans' (kk.mono fun z hz => .inl ?_), fun z hz => ?_⟩
      · simp only [List.mem_singleton] at hz; rw [hz]; exact Cp.mem_foot hx (by simp [entB])
      · simp only [Cp.foot, List.mem_cons] at hz ⊢
        rcases hz with hz | hz | hz
        · exact .inl (.inl hz)
        · exact .inl (.inr (.inl hz))
        · rcases lmod_flat_mem (g := fun e => ⟨e.hb, b, cap⟩) (nb := b) (fun _ => ⟨rfl, rfl⟩) hz with hz | hz
          · exact .inl (.inr (.inr hz))
          · rw [hz]; exact .inr hge
    exact ⟨0, D, _, rfl, .held e0 hm he, CDPost.via k2 s2 (r2.cache post)⟩
  | none =>
    rw [he] at hv
    obtain ⟨n, D1, K1, rfl, hroom, p1, q1, r1, k1, s1⟩ := hv
    have hs1 : SlAt h2 s l pg (cdFoot c da p1 q1) := hs.over k1 s1
    refine ⟨_, _, rfl, fun e => ?_, fun e => ⟨fun _ n1 h3 hn1 hh3 => ⟨by kernel_rfl, ?_⟩, nofun⟩⟩
    · have hn : n ≠ 0 := by simpa using e
      exact ⟨n, D1, K1, rfl, .full n D1 K1 hm he hroom hn, p1, q1, r1, k1, s1⟩
    have hn : n = 0 := by simpa using e
    subst hn
    have k3 : Keep h2 h3 [] := by rw [hh3]; exact Keep.push _ _ _
    have new3 : Blk h3 n1 [.slice none 0 0, .bool false, i64 0, i64 0] := by rw [hh3, hn1]; exact Blk.new _ _ _
    have rc3 := r1.ck.keep k3 (by simp)
    have hn1f : n1 ∉ q1.foot c := fun hx => by have := r1.ck.lt n1 hx; omega
    refine (cUses_raw rc3 new3 hn1f).mono ?_
    rintro _ h4 ⟨rfl, rc4, new4, k4⟩
    refine ⟨rfl, ?_⟩
    obtain ⟨es, clk, hmap, hes⟩ := rc4.map
    refine ⟨_, rc4.blk.cell rfl, es, clk, hmap, hes.keysOK k, fun h5 hh5 => ⟨by kernel_rfl, ?_⟩⟩
    have m5 := MapI.put hmap hes k (ptr n1) hh5
    have k5 : Keep h4 h5 [q1.mb] := by rw [hh5]; exact Keep.set _ _ _ _ (by simp)
    have hmbn : n1 ≠ q1.mb := fun e => hn1f (by rw [e]; simp [Cp.foot])
    have new5 := new4.keep k5 (by simpa using hmbn)
    have hc1 : c ∈ q1.foot c := by simp [Cp.foot]
    have hmb1 : q1.mb ∈ q1.foot c := by simp [Cp.foot]
    have k25 : Keep h2 h5 (q1.foot c) := by
      refine ((k3.mono (F' := q1.foot c) (by simp)).trans k4 fun y hy => ?_).trans k5 fun y hy => ?_
      · simp only [List.mem_cons, List.not_mem_nil, or_false] at hy
        rcases hy with hy | hy
        · rw [hy]; exact .inl hc1
        · exact .inr (by omega)
      · simp only [List.mem_singleton] at hy
        rw [hy]; exact .inl hmb1
    have hs5 : SlAt h5 s l pg (cdFoot c da p1 q1) := hs1.keep k25 fun b hb => List.mem_append_left _ hb
    refine (sClone_ok h5 s l cp pg _ hs5 (by omega) (by omega)).mono ?_
    rintro _ h6 ⟨b, cap, y, rfl, hby, hge, k6, hcap, _⟩
    have sz25 := k25.size
    have hn1lt := new5.lt
    have hbn1 : b ≠ n1 := by omega
    have hbf : b ∉ q1.foot c := fun hx => by have := r1.ck.lt b hx; omega
    have hmbb : q1.mb ≠ b := fun e => hbf (e ▸ hmb1)
    have new6 := new5.keep k6 (by simp)
    refine ⟨_, _, _, rfl, rfl, new6.ok (by simp), fun h7 hh7 => ?_⟩
    have k7 : Keep h6 h7 [n1] := by rw [hh7]; exact Keep.upd _ _ _ _ _ (by simp)
    have new7 := new6.upd 0 (.slice (some ⟨b, 0, none⟩) l cap)
    rw [← hh7] at new7
    refine ⟨rfl, new7.ok (by simp), fun h8 hh8 => ?_⟩
    have k8 : Keep h7 h8 [n1] := by rw [hh8]; exact Keep.upd _ _ _ _ _ (by simp)
    have new8 := new7.upd 1 (.bool true)
    rw [← hh8] at new8
    subst hl
    have k68 : Keep h6 h8 [n1] := k7.trans' k8
    have ent : EntR h8 ((⟨k, pg, true, 0, IntKind.wrap .i64 (K1.clock + 1)⟩ : En), (⟨n1, b, cap⟩ : Ep)) := ⟨new8, ⟨y, hby.keep k68 (by simpa using hbn1)⟩, hpg⟩
    have hkn : efind k K1.l = none := by
      rw [efind_none] at he ⊢
      exact fun e he1 => he e ((roomR_sub hroom).1.subset he1)
    have m8 : MapI h8 q1.mb (aput k (ptr n1) (alOf q1.L)) := (m5.keep k6 (by simp)).keep k68 (by simp; exact fun e => hmbn e.symm)
    have k48 : Keep h4 h8 (q1.mb :: [n1]) := ((k5.mono (F' := q1.mb :: [n1]) (by simp)).trans k6 (by simp)).trans k68 (by simp)
    have rc8 := rc4.add2 ent hkn (fun z hz => by
      simp only [entB, List.mem_cons, List.not_mem_nil, or_false] at hz
      rcases hz with hz | hz
      · rw [hz]; exact hn1f
      · rw [hz]; exact hbf) (fun e => hbn1 e.symm) k48 (by simpa using hn1f) m8
    have post : CPost h2 h8 c da q1 (K1.enter ⟨k, pg, true, 0, IntKind.wrap .i64 (K1.clock + 1)⟩) := by
      have hge1 : h2.size ≤ n1 := by omega
      refine ⟨_, rc8, (k25.trans k6 (by simp)).trans k68 fun z hz => .inr ?_, fun z hz => ?_⟩
      · simp only [List.mem_singleton] at hz; omega
      · simp only [Cp.foot, List.flatMap_append, List.flatMap_cons, List.flatMap_nil, List.append_nil, List.mem_cons, List.mem_append, entB, List.not_mem_nil, or_false] at hz ⊢
        rcases hz with hz | hz | hz | hz | hz
        · exact .inl (.inl hz)
        · exact .inl (.inr (.inl hz))
        · exact .inl (.inr (.inr hz))
        · exact .inr (by omega)
        · exact .inr (by omega)
    exact ⟨0, D1, _, rfl, .new D1 K1 hm he hroom, CDPost.via k1 s1 (r1.cache post)⟩

end
end Go.Proofs.YtfapgccnhonoiaaGreat

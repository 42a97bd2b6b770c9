/- A framework of verification conditions for the model's programs, second half: conditions of code, computed, are enough for a call; facts about heaps; no condition. -/
import Derived.Test.YtfapgccnhonoiaaGreatMa
import Derived.Laws.Strings
import Derived.IntWalk

/- The framework, part 13: operations, typed: ranges, equality; one operation, all in all. -/
namespace Go.Proofs.YtfapgccnhonoiaaGreat

section
variable {P : Program} {T : List TI}

theorem isOth_ne {k : TK} (h : isOth k = false) : k ≠ .oth := fun e => by rw [e] at h; cases h

theorem TabOK.sl (hT : TabOK P T) {t e : TypeId} (hk : (lookT T t).k = .sl e) : (lookT T e).k ≠ .oth := by
  have := hT.closed t; rw [hk] at this; simp only [closedK, Bool.not_eq_true'] at this; exact isOth_ne this
theorem TabOK.arr (hT : TabOK P T) {t e : TypeId} {n : Nat} (hk : (lookT T t).k = .arr n e) : (lookT T e).k ≠ .oth := by
  have := hT.closed t; rw [hk] at this; simp only [closedK, Bool.not_eq_true'] at this; exact isOth_ne this
theorem TabOK.mapE (hT : TabOK P T) {t k e : TypeId} (hk : (lookT T t).k = .map k e) : (lookT T e).k ≠ .oth := by
  have := hT.closed t; rw [hk] at this; simp only [closedK, Bool.and_eq_true, Bool.not_eq_true'] at this; exact isOth_ne this.2
theorem TabOK.st (hT : TabOK P T) {t : TypeId} {fs : List (Nat × TypeId)} (hk : (lookT T t).k = .st fs) : ∀ f ∈ fs, (lookT T f.2).k ≠ .oth := by
  have := hT.closed t; rw [hk] at this; simp only [closedK, List.all_eq_true, Bool.not_eq_true'] at this; exact fun f hf => isOth_ne (this f hf)

theorem sem_makeSlice (hT : TabOK P T) {t : TypeId} {l c : Value} {h : Heap} {K : FV → Heap → Prop} (hd : dMakeSlice T t l c h K) : semH P (Instr.makeSlice t l c) (fun v h' => ∃ b, K (v, b) h') h := by
  unfold dMakeSlice at hd
  cases l <;> cases c <;> try (exact hd.elim)
  rename_i kl l kc c
  simp only at hd
  cases hk : (lookT T t).k <;> simp only [hk] at hd
  rename_i e
  obtain ⟨⟨h0, h1, h2, h3⟩, hd⟩ := hd
  obtain ⟨i, z, hi, hsz, hby, hz, hzc, _⟩ := hT.info e (hT.sl hk)
  unfold Instr.makeSlice
  rw [semH_bind', semH_underlying (tkP hT hk)]
  dsimp only
  rw [semH_bind']
  show semH P (asInt (.int kl l)) _ h
  unfold asInt
  rw [semH_bind']
  refine semH_pure' ?_
  refine semH_pure' ?_
  rw [semH_bind', semH_bind']
  refine semH_pure' ?_
  refine semH_pure' ?_
  rw [semH_bind', semH_typeInfo hi, hby]
  have wl : IntKind.i64.wrap l = l := by
    simp only [IntKind.wrap, IntKind.bits, IntKind.signed, Bool.true_and, decide_eq_true_eq, ge_iff_le]
    have e : l % 2 ^ 64 = l := Int.emod_eq_of_lt h0 (by omega)
    rw [e, if_neg (by omega)]
  have wc : IntKind.i64.wrap c = c := by
    simp only [IntKind.wrap, IntKind.bits, IntKind.signed, Bool.true_and, decide_eq_true_eq, ge_iff_le]
    have e : c % 2 ^ 64 = c := Int.emod_eq_of_lt (by omega) (by omega)
    rw [e, if_neg (by omega)]
  simp only [wl, wc]
  have hno : ¬ ((decide (c < 0) || decide ((((lookT T e).bytes : Nat) : Int) * c > 2 ^ 48)) = true ∨ l < 0 ∨ l > c) := by
    simp only [Bool.or_eq_true, decide_eq_true_eq]
    omega
  simp only [Bool.or_eq_true, decide_eq_true_eq] at hno ⊢
  rw [if_neg (by omega)]
  rw [semH_bind']
  have room : ∀ (m : Nat) (KK : Unit → Heap → Prop), KK () h → semH P (askRoom m) KK h := by
    intro m KK hKK
    unfold askRoom
    split <;> exact hKK
  refine room _ _ ?_
  rw [semH_bind', semH_sizeOf hi, hsz]
  have finish : ∀ zero : Array Value, ((Array.range (c.toNat * (lookT T e).size)).map (zero[· % zero.size]!)).toList = zrow (lookT T e).zero c.toNat → semH P (do
      let a ← newRow e ((Array.range (c.toNat * (lookT T e).size)).map (zero[· % zero.size]!))
      pure (Value.slice (some a) l.toNat c.toNat)) (fun v h' => ∃ b, K (v, b) h') h := by
    intro zero hzero
    rw [semH_bind', semH_newRow]
    refine semH_pure' ⟨false, ?_⟩
    have := hd _ _ rfl rfl
    rw [← hzero] at this
    exact this
  have hlen := hT.zlen e (hT.sl hk)
  by_cases h0 : c.toNat * (lookT T e).size = 0
  · rw [if_pos h0, semH_bind']
    refine semH_pure' ?_
    refine finish #[] ?_
    have hz0 : (zrow (lookT T e).zero c.toNat).length = 0 := by rw [zrow_length, hlen, h0]
    rw [List.length_eq_zero_iff.1 hz0, h0]
    simp
  · rw [if_neg h0, semH_bind', semH_zeroValue hi hz, semH_bind']
    refine semH_pure' ?_
    refine finish z.cells ?_
    have := range_zrow z.cells c.toNat
    rw [hzc] at this
    have hs : z.cells.size = (lookT T e).size := by rw [← hlen, ← hzc]; simp
    rw [hs] at this
    rw [hs]
    exact this

theorem sem_range (hT : TabOK P T) {t : TypeId} {x : Value} {h : Heap} {K : FV → Heap → Prop} (hd : dRange T t x h K) : semH P (Instr.range t x) (fun v h' => ∃ b, K (v, b) h') h := by
  unfold dRange at hd
  unfold Instr.range
  cases x with
  | map r =>
    simp only at hd
    cases hk : (lookT T t).k <;> simp only [hk] at hd
    rw [semH_bind', semH_underlying (tkP hT hk)]
    cases r with
    | none =>
      simp only at hd
      dsimp only
      rw [semH_bind']
      refine semH_pure' ?_
      rw [semH_bind', semH_newObj]
      exact ⟨_, hd _ _ rfl rfl⟩
    | some m =>
      obtain ⟨es, clk, hm, hd⟩ := hd
      dsimp only
      rw [semH_bind']
      refine semH_getObj hm (by simp) _ ?_
      dsimp only
      rw [semH_bind']
      refine semH_pure' ?_
      rw [semH_bind', semH_newObj]
      exact ⟨_, hd _ _ rfl rfl⟩
  | string s =>
    simp only at hd
    cases hk : (lookT T t).k <;> simp only [hk] at hd
    rw [semH_bind', semH_underlying (tkP hT hk)]
    dsimp only
    rw [semH_bind']
    refine semH_pure' ?_
    rw [semH_bind', semH_newObj]
    exact ⟨_, hd _ _ rfl rfl⟩
  | _ => exact hd.elim

theorem sem_next {t : TypeId} {it : Value} {s : Bool} {ty : TypeId} {h : Heap} {K : FV → Heap → Prop} (hd : dNext T t it s h K) : semH P (Instr.next it s ty) (fun v h' => ∃ b, K (v, b) h') h := by
  unfold dNext at hd
  cases it with
  | pointer p =>
    simp only at hd
    obtain ⟨a, rfl, h0, hd⟩ := onSome_spec hd
    obtain ⟨blk, off, spot⟩ := a
    simp only at h0
    subst h0
    unfold Instr.next
    cases s with
    | true =>
      obtain ⟨str, pos, hs, hyes, hno⟩ := hd
      refine (semH_bind' (getObj blk) _ _ _).2 ?_
      refine semH_getObj hs (by simp) _ ?_
      dsimp only
      by_cases hp : pos < str.size
      · rw [if_pos hp, semH_bind']
        exact semH_setObj _ hs (by simp) _ ⟨_, hyes hp _ rfl⟩
      · rw [if_neg hp]
        exact ⟨_, hno (by omega)⟩
    | false =>
      rcases hd with ⟨hs, hK⟩ | ⟨m, since, seen, last, es, clk, hs, hm, hok, hyes, hno⟩
      · refine (semH_bind' (getObj blk) _ _ _).2 ?_
        refine semH_getObj hs (by simp) _ ?_
        exact ⟨_, hK⟩
      · refine (semH_bind' (getObj blk) _ _ _).2 ?_
        refine semH_getObj hs (by simp) _ ?_
        dsimp only
        rw [semH_bind']
        refine semH_getObj hm (by simp) _ ?_
        dsimp only
        rw [if_neg (by
          intro hx
          simp only [Bool.and_eq_true, Bool.not_eq_true', Array.all_eq_true', decide_eq_true_eq] at hx
          rcases hok with h1 | h1 | ⟨e, he, hlt⟩
          · rw [h1] at hx; simp at hx
          · rw [h1] at hx; simp at hx
          · have := hx.2 e (by simpa using he); omega)]
        have hmem : ∀ e, e ∈ (es.filter fun e => !seen.contains e.born) ↔ (e ∈ es.toList ∧ seen.contains e.born = false) := by intro e; simp
        generalize hl : (es.filter fun e => !seen.contains e.born) = left at hmem
        generalize hold : left.filter (fun e => decide (e.born < since)) = old
        generalize hnew : left.filter (fun e => decide (e.born ≥ since)) = new
        generalize hc : (if old.isEmpty = true then #[none] else #[]) ++ (old ++ new).map some = cands
        have hin : ∀ x ∈ cands, (∃ e, x = some e ∧ mayNext es since seen e) ∨ (x = none ∧ mayEnd es since seen) := by
          intro x hx
          rw [← hc] at hx
          rcases Array.mem_append.1 hx with h1 | h1
          · split at h1
            · rename_i he
              have hx0 : x = none := by simpa using h1
              refine .inr ⟨hx0, fun e he1 he2 => ?_⟩
              have hle : e ∈ left := (hmem e).2 ⟨he1, he2⟩
              rcases Nat.lt_or_ge e.born since with h3 | h3
              · have : e ∈ old := by rw [← hold]; simp [hle, h3]
                have he' : old = #[] := by simpa using he
                rw [he'] at this; simp at this
              · exact h3
            · simp at h1
          · obtain ⟨e, he, rfl⟩ := Array.mem_map.1 h1
            refine .inl ⟨e, rfl, ?_⟩
            have hle : e ∈ left := by
              rcases Array.mem_append.1 he with h2 | h2
              · rw [← hold] at h2; exact (Array.mem_filter.1 h2).1
              · rw [← hnew] at h2; exact (Array.mem_filter.1 h2).1
            exact (hmem e).1 hle
        have hne : 0 < cands.size := by
          rw [← hc]
          by_cases ho : old.isEmpty = true
          · rw [if_pos ho]; simp; omega
          · have : old ≠ #[] := by simpa using ho
            have := Array.size_pos_iff.2 this
            simp; omega
        have choose_any : ∀ (n : Nat) (KK : Nat → Heap → Prop), 0 < n → (∀ i, i < n → KK i h) → semH P (choose (.mapNext n)) KK h := by
          intro n KK hn hKK
          unfold choose
          simp only [semH]
          split
          · exact hKK 0 hn
          · intro tt
            exact hKK _ (Nat.mod_lt _ hn)
        rw [semH_bind']
        refine choose_any _ _ hne fun i hi => ?_
        have hx : cands[i]? = some cands[i] := by simp [hi]
        rw [hx]
        rcases hin cands[i] (Array.getElem_mem hi) with ⟨e, he, hm'⟩ | ⟨he, hm'⟩
        · rw [he]
          dsimp only
          rw [semH_bind']
          refine semH_setObj _ hs (by simp) _ ?_
          have hy := hyes e hm' _ rfl
          refine semH_pure' ⟨true, ?_⟩
          split at hy
          · obtain ⟨k, hk1, hy⟩ := exV_ex T _ _ _ hy
            obtain ⟨v, hv1, hy⟩ := exV_ex T _ _ _ hy
            rw [hk1, hv1]
            exact hy
          · exact hy
        · rw [he]
          exact ⟨_, hno hm'⟩
  | _ => exact hd.elim

theorem sem_entry {t : TypeId} {it : Value} {h : Heap} {K : FV → Prop} (hd : dEntry T t it h K) : semH P (Instr.entry it) (fun v h' => h' = h ∧ ∃ b, K (v, b)) h := by
  unfold dEntry at hd
  cases it with
  | pointer p =>
    simp only at hd
    obtain ⟨a, rfl, h0, m, since, seen, last, es, stamp, e, hs, hst, hm, hf, hd2⟩ := onSome_spec hd
    obtain ⟨blk, off, spot⟩ := a
    simp only at h0
    subst h0
    unfold Instr.entry
    refine (semH_bind' (getObj blk) _ _ _).2 ?_
    refine semH_getObj hs (by simp) _ ?_
    dsimp only
    rw [hst]
    dsimp only
    rw [semH_bind']
    refine semH_getObj hm (by simp) _ ?_
    dsimp only
    rw [if_neg (by simp), hf]
    refine semH_pure' ⟨rfl, false, ?_⟩
    split at hd2
    · obtain ⟨k, hk1, hy⟩ := exV_ex T _ _ _ hd2
      obtain ⟨v, hv1, hy⟩ := exV_ex T _ _ _ hy
      rw [hk1, hv1]
      exact hy
    · exact hd2
  | _ => exact hd.elim

end
end Go.Proofs.YtfapgccnhonoiaaGreat

/- The framework, part 14: equality; one operation, all in all. -/
namespace Go.Proofs.YtfapgccnhonoiaaGreat

section
variable {P : Program} {T : List TI}

theorem sem_eq_simple (hT : TabOK P T) {t : TypeId} {d : Nat} {v w : Value} {b : Bool} {h : Heap} {K : Bool → Heap → Prop}
    (hc : (∃ k x y, (lookT T t).k = .int k ∧ v = .int k x ∧ w = .int k y ∧ b = (x == y)) ∨ (∃ x y, (lookT T t).k = .bool ∧ v = .bool x ∧ w = .bool y ∧ b = (x == y))) (hk : K b h) : semH P (Op.equalIn (d + 1) t v w) K h := by
  unfold Op.equalIn
  rcases hc with ⟨k, x, y, hu, rfl, rfl, rfl⟩ | ⟨x, y, hu, rfl, rfl, rfl⟩
  · rw [semH_bind', semH_underlying (tkP hT hu)]
    dsimp only
    rw [if_pos rfl]
    exact hk
  · rw [semH_bind', semH_underlying (tkP hT hu)]
    exact hk

theorem eq_fields (hT : TabOK P T) {d : Nat} {h : Heap} (xs ys : Array Value) : ∀ (F : List Field) (k : Nat) (vs ws : List Value) (b : Bool), (∀ f ∈ F, f.name ≠ "_") →
    risesB k (F.map fun f => (f.offset, f.type)) = true → allSimple T (F.map fun f => (f.offset, f.type)) vs = true → allSimple T (F.map fun f => (f.offset, f.type)) ws = true → eqCells vs ws = some b →
    (∀ i v, vs[i]? = some v → xs[k + i]? = some v) → (∀ i v, ws[i]? = some v → ys[k + i]? = some v) → ∀ (body : Field → Option Bool × Unit → Sem (ForInStep (Option Bool × Unit))),
    (∀ f r K, f ∈ F → (∃ v w, xs[f.offset]? = some v ∧ ys[f.offset]? = some w ∧ ∃ bb, (∀ KK : Bool → Heap → Prop, KK bb h → semH P (Op.equalIn (d + 1) f.type v w) KK h) ∧ simpleK (lookT T f.type).k = true ∧
      (if bb then K (.yield (none, ())) h else K (.done (some false, ())) h)) → semH P (body f r) K h) →
    ∀ (K : Option Bool × Unit → Heap → Prop), (if b then K (none, ()) h else K (some false, ()) h) → semH P (forIn F ((none, ()) : Option Bool × Unit) body) K h
  | [], k, vs, ws, b, _, _, hv, hw, he, _, _, body, _, K, hK => by
    cases vs <;> cases ws <;> simp [allSimple] at hv hw
    simp only [eqCells] at he
    cases he
    exact hK
  | f :: F, k, vs, ws, b, hname, hr, hv, hw, he, hxs, hys, body, hbody, K, hK => by
    simp only [List.map_cons, risesB, Bool.and_eq_true] at hr
    have hoff : f.offset = k := Nat.eq_of_beq_eq_true hr.1
    rw [List.forIn_cons, semH_bind']
    cases vs with
    | nil => simp [allSimple] at hv
    | cons v vs =>
      cases ws with
      | nil => simp [allSimple] at hw
      | cons w ws =>
        have hx0 : xs[f.offset]? = some v := by rw [hoff]; simpa using hxs 0 v rfl
        have hy0 : ys[f.offset]? = some w := by rw [hoff]; simpa using hys 0 w rfl
        have rest : ∀ b', allSimple T (F.map fun f => (f.offset, f.type)) vs = true → allSimple T (F.map fun f => (f.offset, f.type)) ws = true → eqCells vs ws = some b' → (if b' then K (none, ()) h else K (some false, ()) h) →
            semH P (forIn F ((none, ()) : Option Bool × Unit) body) K h := fun b' a1 a2 a3 a4 =>
          eq_fields hT xs ys F (k + 1) vs ws b' (fun g hg => hname g (by simp [hg])) hr.2 a1 a2 a3 (fun i u hu => by have := hxs (i + 1) u (by simpa using hu); rwa [show k + (i + 1) = k + 1 + i by omega] at this)
            (fun i u hu => by have := hys (i + 1) u (by simpa using hu); rwa [show k + (i + 1) = k + 1 + i by omega] at this) body (fun g r KK hg => hbody g r KK (by simp [hg])) K a4
        refine hbody f _ _ (by simp) ⟨v, w, hx0, hy0, ?_⟩
        cases v <;> simp only [List.map_cons, allSimple, Bool.and_eq_true, Bool.false_eq_true] at hv
        · cases w <;> simp only [List.map_cons, allSimple, Bool.and_eq_true, Bool.false_eq_true] at hw <;> simp only [eqCells, reduceCtorEq] at he
          rename_i x y
          obtain ⟨hv1, hv2⟩ := hv
          obtain ⟨hw1, hw2⟩ := hw
          cases hk : (lookT T f.type).k <;> simp only [hk] at hv1 <;> try (cases hv1; done)
          cases he' : eqCells vs ws with
          | none => rw [he'] at he; cases he
          | some b' =>
            rw [he'] at he
            simp only [Option.map_some, Option.some.injEq] at he
            refine ⟨x == y, fun KK hKK => sem_eq_simple hT (.inr ⟨x, y, hk, rfl, rfl, rfl⟩) hKK, rfl, ?_⟩
            cases hxy : (x == y) with
            | true => rw [hxy] at he; simp only [Bool.true_and] at he; subst he; exact rest b' hv2 hw2 he' hK
            | false => rw [hxy] at he; simp only [Bool.false_and] at he; subst he; exact hK
        · cases w <;> simp only [List.map_cons, allSimple, Bool.and_eq_true, Bool.false_eq_true] at hw <;> simp only [eqCells, reduceCtorEq] at he
          rename_i kx x ky y
          obtain ⟨hv1, hv2⟩ := hv
          obtain ⟨hw1, hw2⟩ := hw
          cases hk : (lookT T f.type).k <;> simp only [hk] at hv1 hw1 <;> try (cases hv1; done)
          rename_i kk
          have e1 := kEq_spec hv1
          have e2 := kEq_spec hw1
          subst e1
          subst e2
          cases he' : eqCells vs ws with
          | none => rw [he'] at he; simp at he
          | some b' =>
            rw [he'] at he
            have hkk : kEq ky ky = true := hw1
            simp only [hkk, if_true, Option.map_some, Option.some.injEq] at he
            refine ⟨x == y, fun KK hKK => sem_eq_simple hT (.inl ⟨ky, x, y, hk, rfl, rfl, rfl⟩) hKK, rfl, ?_⟩
            cases hxy : (x == y) with
            | true => rw [hxy] at he; simp only [Bool.true_and] at he; subst he; exact rest b' hv2 hw2 he' hK
            | false => rw [hxy] at he; simp only [Bool.false_and] at he; subst he; exact hK

end
end Go.Proofs.YtfapgccnhonoiaaGreat

/- The framework, part 15: binary operations; one operation, all in all. -/
namespace Go.Proofs.YtfapgccnhonoiaaGreat

section
variable {P : Program} {T : List TI}

theorem sem_equal (hT : TabOK P T) {t : TypeId} {v w : Value} {h : Heap} {K : Bool → Prop} (hd : dEq T t v w K) : semH P (Op.equal t v w) (fun b h' => h' = h ∧ K b) h := by
  show semH P (Op.equalIn (9999 + 1) t v w) _ h
  unfold dEq at hd
  cases v <;> cases w <;> try (exact hd.elim)
  case bool.bool a b =>
    simp only at hd
    cases hk : (lookT T t).k <;> simp only [hk] at hd
    exact sem_eq_simple hT (.inr ⟨a, b, hk, rfl, rfl, rfl⟩) ⟨rfl, hd⟩
  case pointer.pointer p q =>
    simp only at hd
    cases hk : (lookT T t).k <;> simp only [hk] at hd
    rename_i e
    rcases dNil_spec hd with ⟨rfl, hK⟩ | ⟨rfl, hK⟩
    · exact sem_equalIn_nil ⟨rfl, hK⟩ (.inl ⟨e, p, tkP hT hk, rfl, rfl, rfl⟩)
    · exact sem_equalIn_nil ⟨rfl, hK⟩ (.inr (.inl ⟨e, q, tkP hT hk, rfl, rfl, rfl⟩))
  case slice.slice p l c q l' c' =>
    simp only at hd
    cases hk : (lookT T t).k <;> simp only [hk] at hd
    rename_i e
    rcases dNil_spec hd with ⟨rfl, hK⟩ | ⟨rfl, hK⟩
    · exact sem_equalIn_nil ⟨rfl, hK⟩ (.inr (.inr (.inl ⟨e, p, l, c, l', c', tkP hT hk, rfl, rfl, rfl⟩)))
    · exact sem_equalIn_nil ⟨rfl, hK⟩ (.inr (.inr (.inr (.inl ⟨e, q, l, c, l', c', tkP hT hk, rfl, rfl, rfl⟩))))
  case map.map p q =>
    simp only at hd
    cases hk : (lookT T t).k <;> simp only [hk] at hd
    rename_i e f
    rcases dNil_spec hd with ⟨rfl, hK⟩ | ⟨rfl, hK⟩
    · exact sem_equalIn_nil ⟨rfl, hK⟩ (.inr (.inr (.inr (.inr (.inl ⟨e, f, p, tkP hT hk, rfl, rfl, rfl⟩)))))
    · exact sem_equalIn_nil ⟨rfl, hK⟩ (.inr (.inr (.inr (.inr (.inr ⟨e, f, q, tkP hT hk, rfl, rfl, rfl⟩)))))
  case func.nilFunc =>
    simp only at hd
    cases hk : (lookT T t).k <;> simp only [hk] at hd
    obtain ⟨x, y, z, hF⟩ := tkP hT hk
    unfold Op.equalIn
    rw [semH_bind', semH_underlying hF]
    exact ⟨rfl, hd⟩
  case nilFunc.nilFunc =>
    simp only at hd
    cases hk : (lookT T t).k <;> simp only [hk] at hd
    obtain ⟨x, y, z, hF⟩ := tkP hT hk
    unfold Op.equalIn
    rw [semH_bind', semH_underlying hF]
    exact ⟨rfl, hd⟩
  case string.string a b =>
    simp only at hd
    cases hk : (lookT T t).k <;> simp only [hk] at hd
    unfold Op.equalIn
    rw [semH_bind', semH_underlying (tkP hT hk)]
    exact ⟨rfl, hd⟩
  case agg.agg xs ys =>
    simp only at hd
    cases hk : (lookT T t).k <;> simp only [hk] at hd
    rename_i fs
    obtain ⟨hx, hy, hr, b, he, hK⟩ := hd
    obtain ⟨F, hF, hm⟩ := tkP hT hk
    obtain ⟨hst, _, hnm⟩ := hT.eqst t fs hk
    subst hm
    unfold Op.equalIn
    rw [semH_bind', semH_underlying hF]
    dsimp only
    rw [semH_bind', semH_program, hst]
    simp only [Bool.false_eq_true, if_false]
    rw [semH_bind', ← Array.forIn_toList]
    refine eq_fields hT (d := 9998) xs ys F.toList 0 xs.toList ys.toList b (fun f hf => hnm F hF f hf) hr hx hy he (fun i v hv => by simpa using hv) (fun i v hv => by simpa using hv) _ ?_ _ ?_
    · intro f r K' hf ⟨v, w, hv, hw, bb, hbb, hs, hK'⟩
      simp only [hnm F hF f hf, ne_eq, not_false_eq_true, if_true]
      rw [semH_bind']
      refine sem_part hT hs hv ?_
      rw [semH_bind']
      refine sem_part hT hs hw ?_
      rw [semH_bind']
      refine hbb _ ?_
      cases bb with
      | true => exact hK'
      | false => exact hK'
    · cases b with
      | true => exact ⟨rfl, hK⟩
      | false => exact ⟨rfl, hK⟩

theorem sem_eqGuard (hT : TabOK P T) {op : BinOp} {t : TypeId} {x y : Operand} {v w : Value} {h : Heap} {K : Unit → Heap → Prop} (hv : v ≠ .nilIface) (ha : ∀ xs ys, v = .agg xs → w = .agg ys → ∃ fs, (lookT T t).k = .st fs) (hk : K () h) :
    semH P (eqGuard op t x y v w) K h := by
  unfold eqGuard
  have main : ∀ c : Bool, semH P (if (!c) = true then pure () else
      match (generalizing := false) v, w with
      | .nilIface, .nilIface => do
        if (x matches .const _) || (y matches .const _) then return
        if ← Op.eqGuardIn Op.maxDepth t v w then unsupported (.noEntry "binop/eql: two nil values of an interface type with methods, neither of them the literal nil")
      | .agg _, .agg _ => do
        if !(← program).eqGuardType (← program).depth t then return
        if ← Op.eqGuardIn Op.maxDepth t v w then unsupported (.noEntry "binop/eql: two nil values of an interface type with methods, in a part of a struct or an array")
      | _, _ => pure ()) K h := by
    intro c
    cases c with
    | false => exact hk
    | true =>
      simp only [Bool.not_true, Bool.false_eq_true, if_false]
      cases v <;> cases w <;> first | exact hk | exact absurd rfl hv | skip
      rename_i xs ys
      obtain ⟨fs, hfs⟩ := ha xs ys rfl rfl
      obtain ⟨_, hg, _⟩ := hT.eqst t fs hfs
      dsimp only
      rw [semH_bind', semH_program, semH_bind', semH_program, hg]
      exact hk
  exact main _

theorem sem_binOp (hT : TabOK P T) {op : BinOp} {t : TypeId} {x y : Operand} {v w : Value} {h : Heap} {K : FV → Prop} (hd : dBin T op t v w K) :
    semH P (do eqGuard op t x y v w; binOp op t v w) (fun u h' => h' = h ∧ ∃ b, K (u, b)) h := by
  rw [semH_bind']
  by_cases hi : (∃ k a, v = .int k a) ∧ ∃ k b, w = .int k b
  · obtain ⟨⟨k, a, rfl⟩, k', b, rfl⟩ := hi
    refine sem_eqGuard hT (by simp) (by simp) ?_
    unfold dBin at hd
    cases op <;> simp only at hd
    case shl => exact sem_shift (.inl rfl) hd
    case shr => exact sem_shift (.inr rfl) hd
    all_goals
      split at hd
      · rename_i hk
        have := kEq_spec hk
        subst this
        rw [binOp_type]
        exact sem_int hd
      · exact hd.elim
  · have hd' : dBinO T op t v w K := by
      unfold dBin at hd
      cases v <;> cases w <;> first | exact hd | exact absurd ⟨⟨_, _, rfl⟩, _, _, rfl⟩ hi
    have hne : ∀ L, dEq T t v w L → v ≠ .nilIface ∧ (∀ xs ys, v = .agg xs → w = .agg ys → ∃ fs, (lookT T t).k = .st fs) := by
      intro L hL
      unfold dEq at hL
      cases v <;> cases w <;> try (exact hL.elim)
      case agg.agg =>
        refine ⟨by simp, fun xs ys hx hy => ?_⟩
        simp only at hL
        cases hk : (lookT T t).k <;> simp only [hk] at hL
        exact ⟨_, rfl⟩
      all_goals exact ⟨by simp, by simp⟩
    have hns : ∀ L, dEq T t v w L → (∀ s u, v = .string s → w = .string u → False) → ((binOp .eql t v w : Sem Value) = (do pure (.bool (← Op.equal t v w)))) ∧ ((binOp .neq t v w : Sem Value) = (do pure (.bool (!(← Op.equal t v w))))) := by
      intro L hL hss
      unfold dEq at hL
      cases v <;> cases w <;> try (exact hL.elim)
      all_goals first | exact ⟨rfl, rfl⟩ | exact (hss _ _ rfl rfl).elim
    cases op <;> simp only [dBinO] at hd'
    · obtain ⟨h1, h2⟩ := hne _ hd'
      refine sem_eqGuard hT h1 h2 ?_
      by_cases hstr : ∃ s u, v = .string s ∧ w = .string u
      · obtain ⟨s, u, rfl, rfl⟩ := hstr
        refine ⟨rfl, false, ?_⟩
        have hx : K (.bool (s == u), false) := by
          simp only [dEq] at hd'
          cases hk : (lookT T t).k <;> simp only [hk] at hd'
          exact hd'
        have e : (s.toList == u.toList) = (s == u) := str_eq s u
        rw [e]; exact hx
      · rw [(hns _ hd' (fun s u a b => hstr ⟨s, u, a, b⟩)).1, semH_bind']
        refine semH_mono _ (fun b h' hx => ?_) (sem_equal hT (h := h) hd')
        exact ⟨hx.1, _, hx.2⟩
    · obtain ⟨h1, h2⟩ := hne _ hd'
      refine sem_eqGuard hT h1 h2 ?_
      by_cases hstr : ∃ s u, v = .string s ∧ w = .string u
      · obtain ⟨s, u, rfl, rfl⟩ := hstr
        refine ⟨rfl, false, ?_⟩
        have hx : K (.bool (!(s == u)), false) := by
          simp only [dEq] at hd'
          cases hk : (lookT T t).k <;> simp only [hk] at hd'
          exact hd'
        have e : (s.toList == u.toList) = (s == u) := str_eq s u
        rw [e]; exact hx
      · rw [(hns _ hd' (fun s u a b => hstr ⟨s, u, a, b⟩)).2, semH_bind']
        refine semH_mono _ (fun b h' hx => ?_) (sem_equal hT (h := h) hd')
        exact ⟨hx.1, _, hx.2⟩
where
  str_eq (s u : ByteArray) : (s.toList == u.toList) = (s == u) := by
    rw [ByteArray.toList_eq, ByteArray.toList_eq]
    obtain ⟨a⟩ := s
    obtain ⟨b⟩ := u
    show (a.toList == b.toList) = (a == b)
    rw [Bool.eq_iff_iff]
    simp

end
end Go.Proofs.YtfapgccnhonoiaaGreat

/- The framework, part 16: one operation, all in all. -/
namespace Go.Proofs.YtfapgccnhonoiaaGreat

section
variable {P : Program} {T : List TI}

/-- What an operation hands on, its mark forgotten. -/
def anyK (K : FV → Heap → Prop) : Value → Heap → Prop := fun v h => ∃ b, K (v, b) h

theorem sem_call_func {f : FuncId} {fi ca vs : Array Value} {h : Heap} {K : Value → Heap → Prop} (he : entersB P f = true) (hc : CallH P f (fi ++ vs ++ ca) h K) :
    semH P (do let d ← Deferred.ofValue (.func (.func f) fi ca) vs; invoke d.target d.args) (nextH P K) h := callV_func he hc

theorem ans_any {t : TypeId} {K : FV → Heap → Prop} {r : Value} {h : Heap} (ha : ansH T t K r h) : anyK K r h := by
  obtain ⟨v, rfl, hk⟩ := exV_ex T _ _ _ ha
  exact ⟨_, hk⟩

theorem semH_next_same {s : Sem Value} {K : FV → Heap → Prop} {h : Heap} (hs : semH P s (fun v h' => h' = h ∧ ∃ b, K (v, b) h) h) : semH P (do pure (.value (← s))) (nextH P (anyK K)) h :=
  semH_v (semH_mono s (fun v h' ⟨e, b, hk⟩ => by subst e; exact ⟨b, hk⟩) hs)

theorem semH_next_any {s : Sem Value} {K : FV → Heap → Prop} {h : Heap} (hs : semH P s (fun v h' => ∃ b, K (v, b) h') h) : semH P (do pure (.value (← s))) (nextH P (anyK K)) h := semH_v hs

theorem opt_spec {ev : Operand → Option FV} {ρ : Operand → Value} (hev : ∀ x v, ev x = some v → ρ x = v.1) {x : Option Operand} {K : Option Int → Prop} (h : dOp.optI ev x K) :
    ∃ li, (x.map ρ = none ∧ li = none ∨ ∃ k i, x.map ρ = some (.int k i) ∧ li = some i) ∧ K li := by
  cases x with
  | none => exact ⟨none, .inl ⟨rfl, rfl⟩, h⟩
  | some y =>
    obtain ⟨v, hv, h⟩ := onE_spec h
    obtain ⟨v, b⟩ := v
    cases v <;> try (exact h.elim)
    rename_i k n
    exact ⟨some n, .inr ⟨k, n, by simp [hev y _ hv], rfl⟩, h⟩

theorem min_spec {l : List Value} {h : Heap} {K : FV → Prop} {ts : Array TypeId} {ty : TypeId} (hd : minI l K) : semH P (Builtin.min_ ts ty ⟨l⟩) (fun v h' => h' = h ∧ ∃ b, K (v, b)) h := by
  unfold minI at hd
  split at hd
  · split at hd
    · exact ⟨rfl, _, hd⟩
    · exact hd.elim
  · exact hd.elim

theorem max_spec {l : List Value} {h : Heap} {K : FV → Prop} {ts : Array TypeId} {ty : TypeId} (hd : maxI l K) : semH P (Builtin.max_ ts ty ⟨l⟩) (fun v h' => h' = h ∧ ∃ b, K (v, b)) h := by
  unfold maxI at hd
  split at hd
  · split at hd
    · exact ⟨rfl, _, hd⟩
    · exact hd.elim
  · exact hd.elim

theorem un_spec {op : UnOp} {v : Value} {h : Heap} {K : FV → Prop} (hd : dUn op v K) : semH P (Op.unary op v) (fun v h' => h' = h ∧ ∃ b, K (v, b)) h := by
  unfold dUn at hd
  cases v <;> try (exact hd.elim)
  · cases op <;> try (exact hd.elim)
    exact ⟨rfl, _, hd⟩
  · cases op <;> try (exact hd.elim)
    · exact ⟨rfl, _, hd⟩
    · exact ⟨rfl, _, hd⟩

theorem conv_spec (hT : TabOK P T) {s d : TypeId} {v : Value} {h : Heap} {K : FV → Prop} (hs : (lookT T s).k ≠ .oth) (hd : dConv T d v K) : semH P (convert s d v) (fun v h' => h' = h ∧ ∃ b, K (v, b)) h := by
  unfold dConv at hd
  cases v <;> try (exact hd.elim)
  rename_i k n
  simp only at hd
  cases hk : (lookT T d).k <;> simp only [hk] at hd
  have hks := hT.kind s
  have hu : ∃ x, P.underlying s = some x := by
    cases hk' : (lookT T s).k <;> rw [hk'] at hks <;> first | exact ⟨_, hks⟩ | (obtain ⟨a, b, _⟩ := hks; exact ⟨_, b⟩) | (obtain ⟨a, b, c, e⟩ := hks; exact ⟨_, e⟩) | exact absurd hk' hs
  obtain ⟨x, hu⟩ := hu
  unfold convert
  rw [semH_bind', semH_underlying hu, semH_bind', semH_underlying (tkP hT hk)]
  exact ⟨rfl, _, hd⟩

theorem builtin_spec (hT : TabOK P T) {b : Builtin} {ts : Array TypeId} {ty : TypeId} {cs : Array Bool} {vs : List Value} {h : Heap} {K : FV → Heap → Prop} (hd : dBuiltin T b ts.toList vs h K) :
    semH P (builtin b ts ty cs ⟨vs⟩) (nextH P (anyK K)) h := by
  obtain ⟨ts⟩ := ts
  simp only at hd
  cases ts with
  | nil => exact hd.elim
  | cons t r =>
    have h0 : (⟨t :: r⟩ : Array TypeId)[0]? = some t := rfl
    cases b <;> try (exact hd.elim)
    case append =>
      simp only [dBuiltin] at hd
      split at hd
      · split at hd
        · rename_i s x t2
          have h1 : (⟨[t, t2]⟩ : Array TypeId)[1]? = some t2 := rfl
          split at hd
          · rename_i e hk
            exact semH_next_any (sem_append hT h0 h1 (.inl ⟨e, hk⟩) (fun e hk => hT.sl hk) hd)
          · rename_i hk
            exact semH_next_any (sem_append hT h0 h1 (.inr hk) (fun e hk => hT.sl hk) hd)
          · exact hd.elim
        · exact hd.elim
      · exact hd.elim
    case cap =>
      simp only [dBuiltin] at hd
      split at hd
      · exact semH_next_same (sem_cap hT h0 hd)
      · exact hd.elim
    case clear =>
      simp only [dBuiltin] at hd
      split at hd
      · exact semH_next_any (sem_clear hT h0 hd)
      · exact hd.elim
    case copy =>
      simp only [dBuiltin] at hd
      split at hd
      · exact semH_next_any (sem_copy hT h0 (fun e hk => hT.sl hk) hd)
      · exact hd.elim
    case delete =>
      simp only [dBuiltin] at hd
      split at hd
      · exact semH_next_any (sem_delete hT h0 hd)
      · exact hd.elim
    case len =>
      simp only [dBuiltin] at hd
      split at hd
      · exact semH_next_same (sem_len hT h0 hd)
      · exact hd.elim
    case max =>
      simp only [dBuiltin] at hd
      exact semH_next_same (max_spec hd)
    case min =>
      simp only [dBuiltin] at hd
      exact semH_next_same (min_spec hd)

set_option maxHeartbeats 1000000 in
theorem dOp_sound (hT : TabOK P T) {o : Oper} {ev : Operand → Option FV} {ρ : Operand → Value} (hev : ∀ x v, ev x = some v → ρ x = v.1) {K : FV → Heap → Prop} {h : Heap} (hd : dOp P T o ev K h) :
    operH P ρ o (anyK K) h := by
  obtain ⟨dst, op, type, pos, after, guard⟩ := o
  unfold dOp at hd
  refine ⟨fun c hc => by simp only at hc; subst hc; exact hd.elim, ?_⟩
  cases op <;> simp only [execOp] at hd ⊢ <;> try (exact hd.elim)
  case move x => replace hd := onE_spec hd; obtain ⟨v, hv, hd⟩ := hd; rw [hev x v hv]; exact ⟨_, hd⟩
  case assign x => replace hd := onE_spec hd; obtain ⟨v, hv, hd⟩ := hd; rw [hev x v hv]; exact ⟨_, hd⟩
  case pick c a b =>
    replace hd := onE_spec hd
    obtain ⟨vc, hc, hd⟩ := hd
    replace hd := onE_spec hd
    obtain ⟨va, ha, hd⟩ := hd
    replace hd := onE_spec hd
    obtain ⟨vb, hb, hd⟩ := hd
    rw [hev c vc hc, hev a va ha, hev b vb hb]
    obtain ⟨vc, fc⟩ := vc
    cases vc <;> try (exact hd.elim)
    rename_i t
    simp only at hd
    show semH P (do pure (Next.value (if ← asBool (.bool t) then va.1 else vb.1))) _ h
    rw [semH_bind']
    refine semH_pure' ?_
    cases fc with
    | true => cases t with
      | true => exact ⟨_, hd⟩
      | false => exact ⟨_, hd⟩
    | false => cases t with
      | true => exact ⟨_, hd.1 rfl⟩
      | false => exact ⟨_, hd.2 rfl⟩
  case alloc e =>
    have hn : (lookT T e).k ≠ .oth := fun hx => by simp only [hx] at hd
    have hd' : newH h (.cells ⟨(lookT T e).zero⟩ e) fun b h' => K (.pointer (some ⟨b, 0, none⟩), false) h' := by
      cases hk : (lookT T e).k <;> simp only [hk] at hd <;> first | exact hd | exact absurd hk hn
    obtain ⟨i, z, hi, _, _, hz, hzc, _⟩ := hT.info e hn
    refine semH_next_any ?_
    unfold Instr.alloc
    rw [semH_bind', semH_zeroValue hi hz]
    show semH P (do pure (Value.pointer (some (← newVar e z)))) _ h
    rw [semH_bind', semH_newVar]
    have : z.cells = ⟨(lookT T e).zero⟩ := by rw [← hzc]
    rw [this]
    exact ⟨_, hd' _ _ rfl rfl⟩
  case box e x =>
    replace hd := onE_spec hd
    obtain ⟨v, hv, hd⟩ := hd
    rw [hev x v hv]
    refine semH_next_any ?_
    unfold Instr.box
    rw [semH_bind', semH_newVar]
    have : v.1.cells = ⟨cellsL v.1⟩ := by rw [← cellsL_eq]
    rw [this]
    exact ⟨_, hd _ _ rfl rfl⟩
  case build t ps =>
    replace hd := partsL_spec hev _ _ hd
    refine semH_next_same ?_
    have e : (ps.map fun (x : Nat × Operand) => (x.1, ρ x.2)).toList = ps.toList.map fun x => (x.1, ρ x.2) := by simp
    rw [← e] at hd
    exact sem_build hT (fun fs hk => hT.st hk) (fun n e hk => hT.arr hk) hd
  case buildSlice t n ps =>
    replace hd := partsL_spec hev _ _ hd
    refine semH_next_any ?_
    have e : (ps.map fun (x : Nat × Operand) => (x.1, ρ x.2)).toList = ps.toList.map fun x => (x.1, ρ x.2) := by simp
    rw [← e] at hd
    exact sem_buildSlice hT (fun e hk => hT.sl hk) hd
  case load t x =>
    replace hd := onE_spec hd
    obtain ⟨v, hv, hd⟩ := hd
    rw [hev x v hv]
    obtain ⟨v, fv⟩ := v
    cases v <;> try (exact hd.elim)
    replace hd := onSome_spec hd
    obtain ⟨a, rfl, hd⟩ := hd
    have hn : (lookT T t).k ≠ .oth := fun hx => by simp only [hx] at hd
    have hd' : exV T 2 t fun u => valAt T t h a u ∧ K (u, false) h := by
      cases hk : (lookT T t).k <;> simp only [hk] at hd <;> first | exact hd | exact absurd hk hn
    obtain ⟨u, hu, hK⟩ := exV_ex T _ _ _ hd'
    exact semH_next_any (sem_loadAt hT hn hu ⟨_, hK⟩)
  case store t x y =>
    replace hd := onE_spec hd
    obtain ⟨v, hv, hd⟩ := hd
    rw [hev x v hv]
    obtain ⟨v, fv⟩ := v
    cases v <;> try (exact hd.elim)
    replace hd := onSome_spec hd
    obtain ⟨a, rfl, hd⟩ := hd
    replace hd := onE_spec hd
    obtain ⟨u, hu, hd⟩ := hd
    rw [hev y u hu]
    obtain ⟨u, fu⟩ := u
    refine semH_u ?_
    show semH P (storeVar t a u) _ h
    have one : ∀ w, (match simpleK (lookT T t).k && Nat.beq (lookT T t).size 1 with
        | true => isCell w = true ∧ okAt h a ∧ toH (upd h a w) fun h' => K (undef, true) h'
        | false => False) → semH P (storeVar t a w) (fun _ h' => anyK K undef h') h := by
      intro w hd
      split at hd
      · rename_i hb
        simp only [Bool.and_eq_true] at hb
        exact sem_storeOne hT (fun hx => by rw [hx] at hb; simp [simpleK] at hb) (Nat.eq_of_beq_eq_true hb.2) hd.1 hd.2.1 ⟨_, hd.2.2 _ rfl⟩
      · exact hd.elim
    cases u
    case agg cs =>
      obtain ⟨h1, h2, h3, h4, h5⟩ := hd
      exact sem_storeVar hT h4 h1 h2 h3 ⟨_, h5 _ rfl⟩
    all_goals exact one _ hd
  case nilCheck x =>
    replace hd := onE_spec hd
    obtain ⟨v, hv, hd⟩ := hd
    rw [hev x v hv]
    obtain ⟨v, fv⟩ := v
    cases v <;> try (exact hd.elim)
    · replace hd := onSome_spec hd
      obtain ⟨a, rfl, hd⟩ := hd
      exact ⟨_, hd⟩
    · rename_i fn fi ca
      cases fn <;> try (exact hd.elim)
      exact ⟨_, hd⟩
  case binOp op t x y ty =>
    replace hd := onE_spec hd
    obtain ⟨v, hv, hd⟩ := hd
    replace hd := onE_spec hd
    obtain ⟨w, hw, hd⟩ := hd
    rw [hev x v hv, hev y w hw]
    refine semH_next_same (K := K) ?_
    exact semH_mono _ (fun u h' ⟨e, b, hk⟩ => ⟨e, b, hk⟩) (sem_binOp hT hd)
  case unOp op t x =>
    replace hd := onE_spec hd
    obtain ⟨v, hv, hd⟩ := hd
    rw [hev x v hv]
    exact semH_next_same (un_spec hd)
  case convert s d x =>
    have hs : isOth (lookT T s).k = false := by
      cases hx : isOth (lookT T s).k with
      | true => simp only [hx] at hd
      | false => rfl
    simp only [hs] at hd
    replace hd := onE_spec hd
    obtain ⟨v, hv, hd⟩ := hd
    rw [hev x v hv]
    exact semH_next_same (conv_spec hT (isOth_ne hs) hd)
  case sliceToArrayPointer t x =>
    replace hd := onE_spec hd
    obtain ⟨v, hv, hd⟩ := hd
    rw [hev x v hv]
    obtain ⟨v, fv⟩ := v
    cases v <;> try (exact hd.elim)
    simp only at hd
    cases hk : (lookT T t).k <;> simp only [hk] at hd
    exact semH_next_any (sem_arrayAt hT hk hd.1 ⟨_, hd.2⟩)
  case makeFunc fn first cap =>
    replace hd := onL_spec hev _ _ hd
    replace hd := onL_spec hev _ _ hd
    refine semH_next_any ?_
    have e1 : first.map ρ = ⟨first.toList.map ρ⟩ := by apply Array.ext'; simp
    have e2 : cap.map ρ = ⟨cap.toList.map ρ⟩ := by apply Array.ext'; simp
    rw [e1, e2]
    exact ⟨_, hd⟩
  case makeMap t r =>
    cases hk : (lookT T t).k <;> simp only [hk] at hd
    refine semH_next_any ?_
    unfold Instr.makeMap
    cases r with
    | none =>
      show semH P (do pure (Value.map (some (← newObj (.map #[] 0))))) _ h
      rw [semH_bind', semH_newObj]
      exact ⟨_, hd _ _ rfl rfl⟩
    | some x =>
      simp only at hd
      replace hd := onE_spec hd
      obtain ⟨v, hv, hd⟩ := hd
      obtain ⟨v, fv⟩ := v
      cases v <;> try (exact hd.elim)
      simp only [Option.map_some, hev x _ hv]
      rw [semH_bind', semH_underlying (tkP hT hk)]
      dsimp only
      rw [semH_bind']
      unfold asInt
      rw [semH_bind']
      refine semH_pure' ?_
      refine semH_pure' ?_
      rw [semH_bind', semH_newObj]
      exact ⟨_, hd _ _ rfl rfl⟩
  case makeSlice t l c =>
    replace hd := onE_spec hd
    obtain ⟨v, hv, hd⟩ := hd
    replace hd := onE_spec hd
    obtain ⟨w, hw, hd⟩ := hd
    rw [hev l v hv, hev c w hw]
    exact semH_next_any (sem_makeSlice hT hd)
  case slice t x lo hi mx =>
    cases mx with
    | some m => exact hd.elim
    | none =>
      simp only at hd
      replace hd := onE_spec hd
      obtain ⟨v, hv, hd⟩ := hd
      replace hd := opt_spec hev hd
      obtain ⟨li, hlo, hd⟩ := hd
      replace hd := opt_spec hev hd
      obtain ⟨hj, hhi, hd⟩ := hd
      rw [hev x v hv]
      exact semH_next_same (sem_sliceAt hT hlo hhi (fun e hk => hT.sl hk) (fun n e hk => hT.arr hk) hd)
  case fieldAddr t x f =>
    replace hd := onE_spec hd
    obtain ⟨v, hv, hd⟩ := hd
    rw [hev x v hv]
    obtain ⟨v, fv⟩ := v
    cases v <;> try (exact hd.elim)
    replace hd := onSome_spec hd
    obtain ⟨a, rfl, hd⟩ := hd
    cases hk : (lookT T t).k <;> simp only [hk] at hd
    rename_i fs
    cases hg : nthL fs f with
    | none => simp only [hg] at hd
    | some g =>
      simp only [hg] at hd
      cases hz : Nat.beq (lookT T g.2).size 0 with
      | true => simp only [hz] at hd
      | false =>
        simp only [hz] at hd
        have hn : (lookT T g.2).k ≠ .oth := fun hx => by simp only [hx] at hd
        have hd' : K (.pointer (some (fld a g.1)), false) h := by
          cases hk2 : (lookT T g.2).k <;> simp only [hk2] at hd <;> first | exact hd | exact absurd hk2 hn
        exact semH_next_any (sem_fieldAt hT hk hg (fun e => by rw [e] at hz; cases hz) hn ⟨_, hd'⟩)
  case field t x f =>
    replace hd := onE_spec hd
    obtain ⟨v, hv, hd⟩ := hd
    rw [hev x v hv]
    exact semH_next_same (sem_field hT hd)
  case indexAddr t x i =>
    replace hd := onE_spec hd
    obtain ⟨v, hv, hd⟩ := hd
    replace hd := onE_spec hd
    obtain ⟨w, hw, hd⟩ := hd
    rw [hev x v hv, hev i w hw]
    obtain ⟨w, fw⟩ := w
    cases w <;> try (exact hd.elim)
    exact semH_next_same (sem_indexAt hT (fun e hk => hT.sl hk) (fun n e hk => hT.arr hk) hd)
  case index t x i =>
    replace hd := onE_spec hd
    obtain ⟨v, hv, hd⟩ := hd
    replace hd := onE_spec hd
    obtain ⟨w, hw, hd⟩ := hd
    rw [hev x v hv, hev i w hw]
    obtain ⟨w, fw⟩ := w
    cases w <;> try (exact hd.elim)
    exact semH_next_same (sem_index hT hd)
  case lookup t m k ok =>
    replace hd := onE_spec hd
    obtain ⟨v, hv, hd⟩ := hd
    replace hd := onE_spec hd
    obtain ⟨w, hw, hd⟩ := hd
    rw [hev m v hv, hev k w hw]
    exact semH_next_same (sem_lookup hT (fun k e hk => hT.mapE hk) hd)
  case mapUpdate t m k x =>
    replace hd := onE_spec hd
    obtain ⟨v, hv, hd⟩ := hd
    replace hd := onE_spec hd
    obtain ⟨w, hw, hd⟩ := hd
    replace hd := onE_spec hd
    obtain ⟨u, hu, hd⟩ := hd
    rw [hev m v hv, hev k w hw, hev x u hu]
    exact semH_u (sem_mapUpdate hT hd)
  case range t x =>
    replace hd := onE_spec hd
    obtain ⟨v, hv, hd⟩ := hd
    rw [hev x v hv]
    exact semH_next_any (sem_range hT hd)
  case next it s =>
    replace hd := onE_spec hd
    obtain ⟨v, hv, hd⟩ := hd
    rw [hev it v hv]
    exact semH_next_any (sem_next hd)
  case entry it =>
    replace hd := onE_spec hd
    obtain ⟨v, hv, hd⟩ := hd
    rw [hev it v hv]
    exact semH_next_same (sem_entry hd)
  case extract x i =>
    replace hd := onE_spec hd
    obtain ⟨v, hv, hd⟩ := hd
    rw [hev x v hv]
    obtain ⟨v, fv⟩ := v
    cases v <;> try (exact hd.elim)
    rename_i vs
    simp only at hd
    cases hg : nthL vs.toList i with
    | none => simp only [hg] at hd
    | some u =>
      simp only [hg] at hd
      have hu : vs[i]? = some u := by rw [nthL_eq] at hg; simpa using hg
      refine semH_next_any ?_
      unfold Instr.extract
      simp only [hu]
      exact ⟨_, hd⟩
  case call c =>
    obtain ⟨callee, args, argTypes⟩ := c
    cases callee with
    | invoke r m => exact hd.elim
    | value f =>
      simp only at hd
      replace hd := onE_spec hd
      obtain ⟨vf, hvf, hd⟩ := hd
      replace hd := onL_spec hev _ _ hd
      show semH P (do let d ← Deferred.ofValue (ρ f) (args.map ρ); invoke d.target d.args) _ h
      have e1 : args.map ρ = ⟨args.toList.map ρ⟩ := by apply Array.ext'; simp
      rw [hev f vf hvf, e1]
      obtain ⟨vf, ff⟩ := vf
      have gen : ∀ v, CallV P v ⟨args.toList.map ρ⟩ h (ansH T type K) → semH P (do let d ← Deferred.ofValue v ⟨args.toList.map ρ⟩; invoke d.target d.args) (nextH P (anyK K)) h :=
        fun v hv => CallV.mono hv (fun r h' ha => ans_any ha)
      by_cases hfun : ∃ g fi ca, vf = .func (.func g) fi ca
      · obtain ⟨g, fi, ca, rfl⟩ := hfun
        simp only at hd
        refine sem_call_func hd.1 (CallH.mono (R := ansH T type K) ?_ (fun r h' ha => ans_any ha))
        have e2 : fi ++ (⟨args.toList.map ρ⟩ : Array Value) ++ ca = ⟨fi.toList ++ args.toList.map ρ ++ ca.toList⟩ := by apply Array.ext'; simp
        rw [e2]
        exact hd.2
      · have hd' : CallV P vf ⟨args.toList.map ρ⟩ h (ansH T type K) := by
          clear gen hvf e1
          cases vf
          case func fn fi ca =>
            cases fn
            case func g => exact absurd ⟨_, _, _, rfl⟩ hfun
            all_goals exact hd
          all_goals exact hd
        exact gen vf hd'
    | builtin b =>
      simp only at hd
      replace hd := onL_spec hev _ _ hd
      have e1 : args.map ρ = ⟨args.toList.map ρ⟩ := by apply Array.ext'; simp
      have key : ∀ cs, semH P (builtin b argTypes type cs (args.map ρ)) (nextH P (anyK K)) h := fun cs => by
        rw [e1]
        exact builtin_spec hT hd
      simp only [resolve, pure_bind, invoke]
      exact key _

end
end Go.Proofs.YtfapgccnhonoiaaGreat

/- The framework, part 17: what is known of a frame; regions, typed. -/
namespace Go.Proofs.YtfapgccnhonoiaaGreat

/-- What is known of a frame: its temporaries, and the marks of its ranges over functions. -/
structure Env where
  tm : List (Option FV)
  marks : List Nat

def getE : List (Option FV) → Nat → Option FV
  | [], _ => none
  | x :: _, 0 => x
  | _ :: r, n + 1 => getE r n

def setE : List (Option FV) → Nat → Option FV → List (Option FV)
  | [], _, _ => []
  | _ :: r, 0, v => v :: r
  | x :: r, n + 1, v => x :: setE r n v

def evE (e : Env) : Operand → Option FV
  | .tmp t => getE e.tm t
  | .const v => some (v, true)
  | .global g => some (.pointer (some ⟨g, 0, none⟩), true)
  | .func f => some (.func (.func f) #[] #[], true)

def putE (e : Env) (dst : Option Tmp) (v : FV) : Env :=
  match dst with
  | some d => ⟨setE e.tm d (some v), e.marks⟩
  | none => e

structure Agree (e : Env) (a : Act) : Prop where
  size : e.tm.length = a.tmps.size
  vals : ∀ t v, getE e.tm t = some v → a.tmps.getD t undef = v.1
  defers : a.defers = e.marks.map fun r => { target := .collected r, args := #[] }

theorem setE_length : ∀ (l : List (Option FV)) (n : Nat) (v : Option FV), (setE l n v).length = l.length
  | [], _, _ => rfl
  | x :: r, 0, v => rfl
  | x :: r, n + 1, v => by simp [setE, setE_length r n v]

theorem getE_lt : ∀ (l : List (Option FV)) (n : Nat) (v : FV), getE l n = some v → n < l.length
  | [], _, _, h => by simp [getE] at h
  | x :: r, 0, v, h => by simp
  | x :: r, n + 1, v, h => by have := getE_lt r n v h; simp; omega

theorem getE_set_ne : ∀ (l : List (Option FV)) (n m : Nat) (v : Option FV), n ≠ m → getE (setE l n v) m = getE l m
  | [], _, _, _, _ => rfl
  | x :: r, 0, 0, v, h => absurd rfl h
  | x :: r, 0, m + 1, v, h => rfl
  | x :: r, n + 1, 0, v, h => rfl
  | x :: r, n + 1, m + 1, v, h => by simp only [setE, getE]; exact getE_set_ne r n m v (by omega)

theorem getE_set_eq : ∀ (l : List (Option FV)) (n : Nat) (v : Option FV) (u : FV), getE (setE l n v) n = some u → v = some u
  | [], _, _, _, h => by simp [setE, getE] at h
  | x :: r, 0, v, u, h => h
  | x :: r, n + 1, v, u, h => getE_set_eq r n v u h

theorem Agree.put {e : Env} {a : Act} (h : Agree e a) (dst : Option Tmp) (v : FV) : Agree (putE e dst v) (a.put dst v.1) := by
  cases dst with
  | none => exact h
  | some d =>
    refine ⟨by simp [putE, Act.put, setE_length, h.size], fun t u hu => ?_, h.defers⟩
    simp only [putE] at hu
    simp only [Act.put]
    by_cases hd : d = t
    · subst hd
      have := getE_set_eq _ _ _ _ hu
      cases this
      have hlt := getE_lt _ _ _ hu
      rw [setE_length, h.size] at hlt
      simp [hlt]
    · rw [getE_set_ne _ _ _ _ hd] at hu
      have := h.vals t u hu
      rw [← this]
      simp [Array.getElem?_setIfInBounds_ne hd]

theorem Agree.ev {e : Env} {a : Act} (h : Agree e a) : ∀ x v, evE e x = some v → a.eval x = v.1 := by
  intro x v hv
  cases x with
  | tmp t => exact h.vals t v hv
  | const u => cases hv; rfl
  | global g => cases hv; rfl
  | func f => cases hv; rfl

/-- A temporary's value, told more exactly. -/
theorem Agree.refine {e : Env} {a : Act} (h : Agree e a) {d : Nat} {v u : FV} (hd : getE e.tm d = some v) (he : v.1 = u.1) : Agree ⟨setE e.tm d (some u), e.marks⟩ a := by
  refine ⟨by simp [setE_length, h.size], fun t x hx => ?_, h.defers⟩
  by_cases hdt : d = t
  · subst hdt
    have := getE_set_eq _ _ _ _ hx
    cases this
    rw [← he]
    exact h.vals d v hd
  · rw [getE_set_ne _ _ _ _ hdt] at hx
    exact h.vals t x hx

/-- The temporaries that were not written are as they were. -/
structure Keeps (asg : List Nat) (e e' : Env) : Prop where
  same : ∀ t, t ∉ asg → getE e'.tm t = getE e.tm t
  length : e'.tm.length = e.tm.length

theorem Keeps.refl (asg : List Nat) (e : Env) : Keeps asg e e := ⟨fun _ _ => rfl, rfl⟩
theorem Keeps.trans {s1 s2 : List Nat} {a b c : Env} (h : Keeps s1 a b) (k : Keeps s2 b c) : Keeps (s1 ++ s2) a c :=
  ⟨fun t ht => by rw [k.same t (fun hx => ht (by simp [hx])), h.same t (fun hx => ht (by simp [hx]))], k.length.trans h.length⟩
theorem Keeps.mono {s1 s2 : List Nat} {a b : Env} (h : Keeps s1 a b) (hs : ∀ t ∈ s1, t ∈ s2) : Keeps s2 a b := ⟨fun t ht => h.same t fun hx => ht (hs t hx), h.length⟩
theorem Keeps.trans' {s : List Nat} {a b c : Env} (h : Keeps s a b) (k : Keeps s b c) : Keeps s a c := (h.trans k).mono (by simp)
theorem Keeps.put {s : List Nat} {e : Env} {dst : Option Tmp} {v : FV} (hd : ∀ d, dst = some d → d ∈ s) : Keeps s e (putE e dst v) := by
  cases dst with
  | none => exact Keeps.refl _ _
  | some d =>
    refine ⟨fun t ht => ?_, by simp [putE, setE_length]⟩
    have : d ≠ t := fun he => ht (he ▸ hd d rfl)
    exact getE_set_ne _ _ _ _ this
theorem Keeps.set {s : List Nat} {e : Env} {d : Nat} {v : Option FV} (hd : d ∈ s) : Keeps s e ⟨setE e.tm d v, e.marks⟩ :=
  ⟨fun t ht => getE_set_ne _ _ _ _ (fun he => ht (he ▸ hd)), by simp [setE_length]⟩

/-- The temporaries that operations write. -/
def dstsL : List Oper → List Nat
  | [] => []
  | o :: r => match o.dst with
    | some d => d :: dstsL r
    | none => dstsL r

theorem dstsL_mem (l : List Oper) (o : Oper) (d : Nat) (ho : o ∈ l) (hd : o.dst = some d) : d ∈ dstsL l := by
  induction l with
  | nil => cases ho
  | cons x r ih =>
    rcases List.mem_cons.1 ho with h | h
    · rw [← h]
      have e : dstsL (o :: r) = d :: dstsL r := by rw [dstsL, hd]
      rw [e]; exact List.mem_cons_self
    · have := ih h
      rw [dstsL]
      cases x.dst with
      | none => exact this
      | some k => exact List.mem_cons_of_mem _ this

section
variable {P : Program} {T : List TI}

/-! ### Guards -/

/-- An operation that may be passed over: by what its guard has yielded. -/
def dGuard (ops : List Oper) (o : Oper) (e : Env) (run skip : Env → Prop) : Prop :=
  match o.guard with
  | none => run e
  | some g => match (match nthL ops g.1 with | some oj => oj.dst | none => none) with
    | none => False
    | some d => match getE e.tm d with
      | none => False
      | some v => match v.1 with
        | .bool b => match v.2 with
          | true => match b with
            | true => (match g.2 with | true => run e | false => skip e)
            | false => (match g.2 with | true => skip e | false => run e)
          | false =>
            (b = true → (match g.2 with | true => run ⟨setE e.tm d (some (.bool true, true)), e.marks⟩ | false => skip ⟨setE e.tm d (some (.bool true, true)), e.marks⟩)) ∧
            (b = false → (match g.2 with | true => skip ⟨setE e.tm d (some (.bool false, true)), e.marks⟩ | false => run ⟨setE e.tm d (some (.bool false, true)), e.marks⟩))
        | _ => skip e

theorem dGuard_spec {ops : Array Oper} {o : Oper} {e : Env} {a : Act} (ha : Agree e a) {run skip : Env → Prop} (hd : dGuard ops.toList o e run skip) :
    ∃ e', Agree e' a ∧ Keeps (dstsL ops.toList) e e' ∧ e'.marks = e.marks ∧
      ((Region.wanted o (yielded ops a.tmps) = true ∧ run e') ∨ (Region.wanted o (yielded ops a.tmps) = false ∧ skip e')) := by
  unfold dGuard at hd
  unfold Region.wanted
  cases hg : o.guard with
  | none => simp only [hg] at hd; exact ⟨e, ha, Keeps.refl _ _, rfl, .inl ⟨rfl, hd⟩⟩
  | some g =>
    obtain ⟨j, want⟩ := g
    simp only [hg] at hd
    cases hj : nthL ops.toList j with
    | none => simp only [hj] at hd
    | some oj =>
      simp only [hj] at hd
      cases hdst : oj.dst with
      | none => simp only [hdst] at hd
      | some d =>
        simp only [hdst] at hd
        cases hv : getE e.tm d with
        | none => simp only [hv] at hd
        | some v =>
          simp only [hv] at hd
          obtain ⟨v, fl⟩ := v
          have hoj : ops[j]? = some oj := by rw [nthL_eq] at hj; simpa using hj
          have hmem : oj ∈ ops.toList := by rw [nthL_eq] at hj; exact List.mem_of_getElem? hj
          have hlt : d < a.tmps.size := by rw [← ha.size]; exact getE_lt _ _ _ hv
          have hval : a.tmps[d]? = some v := by
            have := ha.vals d _ hv
            simpa [hlt] using this
          have hy : yielded ops a.tmps j = match v with | .bool b => some b | _ => none := by
            unfold yielded
            simp only [hoj, Option.bind_some, hdst, hval]
            cases v <;> rfl
          have hin : d ∈ dstsL ops.toList := dstsL_mem _ _ _ hmem hdst
          simp only [hy]
          cases v with
          | bool b =>
            simp only at hd
            cases fl with
            | true =>
              refine ⟨e, ha, Keeps.refl _ _, rfl, ?_⟩
              cases b <;> cases want <;> simp only at hd <;> first | exact .inl ⟨rfl, hd⟩ | exact .inr ⟨rfl, hd⟩
            | false =>
              cases b with
              | true =>
                refine ⟨_, ha.refine hv (u := (.bool true, true)) rfl, Keeps.set hin, rfl, ?_⟩
                have := hd.1 rfl
                cases want <;> simp only at this <;> first | exact .inl ⟨rfl, this⟩ | exact .inr ⟨rfl, this⟩
              | false =>
                refine ⟨_, ha.refine hv (u := (.bool false, true)) rfl, Keeps.set hin, rfl, ?_⟩
                have := hd.2 rfl
                cases want <;> simp only at this <;> first | exact .inl ⟨rfl, this⟩ | exact .inr ⟨rfl, this⟩
          | _ => exact ⟨e, ha, Keeps.refl _ _, rfl, .inr ⟨rfl, hd⟩⟩

/-! ### A region in the text's order -/

def dOps (P : Program) (T : List TI) (ops : List Oper) (Q : Env → Heap → Prop) : List Oper → Env → Heap → Prop
  | [], e, h => Q e h
  | o :: r, e, h => dGuard ops o e (fun e' => dOp P T o (evE e') (fun v h' => dOps P T ops Q r (putE e' o.dst v) h') h) (fun e' => dOps P T ops Q r (putE e' o.dst (undef, true)) h)

theorem dOps_sound (hT : TabOK P T) {ops : Array Oper} {Q : Env → Heap → Prop} {e0 : Env} : ∀ (l : List Oper) (e : Env) (a : Act) (h : Heap), (∀ o ∈ l, o ∈ ops.toList) → Agree e a → Keeps (dstsL ops.toList) e0 e → e.marks = e0.marks →
    dOps P T ops.toList Q l e h → opsH P ops (fun a' h' => ∃ e', Agree e' a' ∧ Keeps (dstsL ops.toList) e0 e' ∧ e'.marks = e0.marks ∧ Q e' h') l a h
  | [], e, a, h, _, ha, hk, hm, hd => ⟨e, ha, hk, hm, hd⟩
  | o :: r, e, a, h, hl, ha, hk, hm, hd => by
    simp only [dOps] at hd
    obtain ⟨e', ha', hk', hm', hcase⟩ := dGuard_spec ha hd
    have hdst : ∀ d, o.dst = some d → d ∈ dstsL ops.toList := fun d hd => dstsL_mem _ _ _ (hl o (by simp)) hd
    simp only [opsH]
    rcases hcase with ⟨hw, hrun⟩ | ⟨hw, hskip⟩
    · rw [if_pos hw]
      refine operH_mono (fun v h' hx => ?_) (dOp_sound hT ha'.ev hrun)
      obtain ⟨b, hx⟩ := hx
      exact dOps_sound hT r _ _ h' (fun x hx => hl x (by simp [hx])) (ha'.put o.dst (v, b)) ((hk.trans' hk').trans' (Keeps.put hdst)) (by
        cases hd : o.dst <;> simp [putE, hm', hm]) hx
    · rw [if_neg (by rw [hw]; simp)]
      exact dOps_sound hT r _ _ h (fun x hx => hl x (by simp [hx])) (ha'.put o.dst (undef, true)) ((hk.trans' hk').trans' (Keeps.put hdst)) (by
        cases hd : o.dst <;> simp [putE, hm', hm]) hskip

end
end Go.Proofs.YtfapgccnhonoiaaGreat

/- The framework, part 18: regions that draw their order, typed. -/
namespace Go.Proofs.YtfapgccnhonoiaaGreat

section
variable {P : Program} {T : List TI}

/-- It tells one value. -/
def Tells {α : Type} (D : (α → Prop) → Prop) : Prop := ∀ K, D K → ∃ v, K v ∧ ∀ L : α → Prop, L v → D L

theorem exL_wit {G : TypeId → (Value → Prop) → Prop} (hG : ∀ t, Tells (G t)) : ∀ ts, Tells (exL G ts)
  | [], K, h => ⟨[], h, fun _ hL => hL⟩
  | t :: ts, K, h => by
    obtain ⟨v, hv, h1⟩ := hG t _ h
    obtain ⟨vs, hvs, h2⟩ := exL_wit hG ts _ hv
    exact ⟨v :: vs, hvs, fun L hL => h1 _ (h2 _ hL)⟩

theorem exV_wit (T : List TI) : ∀ (n : Nat) (t : TypeId), Tells (exV T n t)
  | 0, _, K, h => by obtain ⟨v, h⟩ := h; exact ⟨v, h, fun L hL => ⟨v, hL⟩⟩
  | n + 1, t, K, h => by
    unfold exV at h
    split at h <;> rename_i hk
    · obtain ⟨i, h⟩ := h; exact ⟨_, h, fun L hL => by unfold exV; rw [hk]; exact ⟨i, hL⟩⟩
    · obtain ⟨i, h⟩ := h; exact ⟨_, h, fun L hL => by unfold exV; rw [hk]; exact ⟨i, hL⟩⟩
    · obtain ⟨i, h⟩ := h; exact ⟨_, h, fun L hL => by unfold exV; rw [hk]; exact ⟨i, hL⟩⟩
    · obtain ⟨i, h⟩ := h; exact ⟨_, h, fun L hL => by unfold exV; rw [hk]; exact ⟨i, hL⟩⟩
    · obtain ⟨a, l, c, h⟩ := h; exact ⟨_, h, fun L hL => by unfold exV; rw [hk]; exact ⟨a, l, c, hL⟩⟩
    · obtain ⟨i, h⟩ := h; exact ⟨_, h, fun L hL => by unfold exV; rw [hk]; exact ⟨i, hL⟩⟩
    · split at h
      · rename_i hf
        obtain ⟨vs, hvs, h2⟩ := exL_wit (exV_wit T n) _ _ h
        exact ⟨_, hvs, fun L hL => by unfold exV; rw [hk]; simp only [hf, if_true]; exact h2 _ hL⟩
      · rename_i hf
        obtain ⟨cs, h⟩ := h
        exact ⟨_, h, fun L hL => by unfold exV; rw [hk]; simp only [hf]; exact ⟨cs, hL⟩⟩
    · obtain ⟨cs, h⟩ := h; exact ⟨_, h, fun L hL => by unfold exV; rw [hk]; exact ⟨cs, hL⟩⟩
    · obtain ⟨vs, hvs, h2⟩ := exL_wit (exV_wit T n) _ _ h
      exact ⟨_, hvs, fun L hL => by unfold exV; rw [hk]; exact h2 _ hL⟩
    · obtain ⟨v, h⟩ := h
      refine ⟨v, h, fun L hL => ?_⟩
      unfold exV
      cases hk' : (lookT T t).k <;> simp_all <;> exact ⟨v, hL⟩

theorem dInt_tells (op : BinOp) (k : IntKind) (a b : Int) : Tells (dInt op k a b) := by
  intro K h
  cases op <;> simp only [dInt] at h ⊢ <;> first | exact ⟨_, h, fun _ hL => hL⟩ | exact ⟨_, h.2, fun _ hL => ⟨h.1, hL⟩⟩

theorem dNil_tells {α : Type} (p q : Option α) : Tells (dNil p q) := by
  intro K h
  unfold dNil at h ⊢
  cases q with
  | none => exact ⟨_, h, fun _ hL => hL⟩
  | some b => cases p with
    | none => exact ⟨_, h, fun _ hL => hL⟩
    | some a => exact h.elim

theorem dEq_tells (t : TypeId) (v w : Value) : Tells (dEq T t v w) := by
  intro K h
  unfold dEq at h ⊢
  cases v <;> cases w <;> try (exact h.elim)
  all_goals
    simp only at h ⊢
    split at h <;> try (exact h.elim)
  · exact ⟨_, h, fun _ hL => hL⟩
  · exact ⟨_, h, fun _ hL => hL⟩
  · exact dNil_tells _ _ K h
  · exact dNil_tells _ _ K h
  · exact dNil_tells _ _ K h
  · exact ⟨_, h, fun _ hL => hL⟩
  · exact ⟨_, h, fun _ hL => hL⟩
  · obtain ⟨h1, h2, h3, b, h4, h5⟩ := h
    exact ⟨b, h5, fun _ hL => ⟨h1, h2, h3, b, h4, hL⟩⟩

theorem tells_map {α β : Type} {D : (α → Prop) → Prop} (hD : Tells D) (f : α → β) : Tells (fun K : β → Prop => D fun a => K (f a)) := by
  intro K h
  obtain ⟨v, hv, h2⟩ := hD _ h
  exact ⟨f v, hv, fun L hL => h2 _ hL⟩

theorem dBin_tells (op : BinOp) (t : TypeId) (v w : Value) : Tells (dBin T op t v w) := by
  have hO : ∀ op v w, Tells (dBinO T op t v w) := by
    intro op v w K h
    cases op <;> simp only [dBinO] at h ⊢
    · exact tells_map (dEq_tells t v w) (fun b => ((.bool b, false) : FV)) K h
    · exact tells_map (dEq_tells t v w) (fun b => ((.bool (!b), false) : FV)) K h
  intro K h
  by_cases hi : (∃ k a, v = .int k a) ∧ ∃ k b, w = .int k b
  · obtain ⟨⟨k, a, rfl⟩, k', b, rfl⟩ := hi
    unfold dBin at h ⊢
    cases op <;> simp only at h ⊢
    case shl => exact dInt_tells _ _ _ _ K h
    case shr => exact dInt_tells _ _ _ _ K h
    all_goals
      split at h
      · exact dInt_tells _ _ _ _ K h
      · exact h.elim
  · have e : ∀ L, dBin T op t v w L = dBinO T op t v w L := by
      intro L
      unfold dBin
      cases v <;> cases w <;> first | rfl | exact absurd ⟨⟨_, _, rfl⟩, _, _, rfl⟩ hi
    rw [e] at h
    obtain ⟨u, hu, h2⟩ := hO op v w K h
    exact ⟨u, hu, fun L hL => by rw [e]; exact h2 L hL⟩

theorem dUn_tells (op : UnOp) (v : Value) : Tells (dUn op v) := by
  intro K h
  unfold dUn at h ⊢
  cases v <;> try (exact h.elim)
  all_goals
    cases op <;> simp only at h ⊢ <;> first | exact h.elim | exact ⟨_, h, fun _ hL => hL⟩

theorem dConv_tells (d : TypeId) (v : Value) : Tells (dConv T d v) := by
  intro K h
  unfold dConv at h ⊢
  cases v <;> try (exact h.elim)
  simp only at h ⊢
  split at h
  · exact ⟨_, h, fun _ hL => hL⟩
  · exact h.elim

theorem onSome_tells {α β : Type} (p : Option α) {D : α → (β → Prop) → Prop} (hD : ∀ a, Tells (D a)) : Tells (fun K : β → Prop => onSome p fun a => D a K) := by
  intro K h
  cases p with
  | none => exact h.elim
  | some a => exact hD a K h

theorem onE_tells {β : Type} (p : Option FV) {D : FV → (β → Prop) → Prop} (hD : ∀ a, Tells (D a)) : Tells (fun K : β → Prop => onE p fun a => D a K) := by
  intro K h
  cases p with
  | none => exact h.elim
  | some a => exact hD a K h

theorem and_tells {β : Type} (A : Prop) {D : (β → Prop) → Prop} (hD : Tells D) : Tells (fun K : β → Prop => A ∧ D K) := by
  intro K h
  obtain ⟨v, hv, h2⟩ := hD K h.2
  exact ⟨v, hv, fun L hL => ⟨h.1, h2 L hL⟩⟩

theorem one_tells {β : Type} (v : β) : Tells (fun K : β → Prop => K v) := fun _ h => ⟨v, h, fun _ hL => hL⟩
theorem no_tells {β : Type} : Tells (fun _ : β → Prop => False) := fun _ h => h.elim

theorem exV_tells (n : Nat) (t : TypeId) (A : Value → Prop) (f : Value → FV) : Tells (fun K : FV → Prop => exV T n t fun u => A u ∧ K (f u)) := by
  intro K h
  obtain ⟨u, hu, h2⟩ := exV_wit T n t _ h
  exact ⟨f u, hu.2, fun L hL => h2 _ ⟨hu.1, hL⟩⟩

theorem dSlice_tells (t : TypeId) (x : Value) (lo hi : Option Int) : Tells (dSlice T t x lo hi) := by
  unfold dSlice
  cases x <;> try (exact no_tells)
  · simp only
    split
    · split
      · exact and_tells _ (by split <;> first | exact and_tells _ (one_tells _) | exact one_tells _)
      · split <;> first | exact and_tells _ (one_tells _) | exact one_tells _
    · exact no_tells
  · simp only
    split
    · refine onSome_tells _ fun a => ?_
      split
      · exact and_tells _ (by split <;> first | exact and_tells _ (one_tells _) | exact one_tells _)
      · split <;> first | exact and_tells _ (one_tells _) | exact one_tells _
    · exact no_tells
  · simp only
    split
    · split
      · exact and_tells _ (by split <;> first | exact and_tells _ (one_tells _) | exact one_tells _)
      · split <;> first | exact and_tells _ (one_tells _) | exact one_tells _
    · exact no_tells

theorem dIndexAddr_tells (t : TypeId) (x : Value) (i : Int) : Tells (dIndexAddr T t x i) := by
  unfold dIndexAddr
  cases x <;> try (exact no_tells)
  all_goals
    simp only
    split
    · exact onSome_tells _ fun a => and_tells _ (one_tells _)
    · exact no_tells

theorem dIndex_tells (t : TypeId) (x : Value) (i : Int) : Tells (dIndex T t x i) := by
  unfold dIndex
  cases x <;> try (exact no_tells)
  · simp only
    split
    · refine and_tells _ ?_
      intro K h
      obtain ⟨b, hb, hK⟩ := h
      exact ⟨_, hK, fun L hL => ⟨b, hb, hL⟩⟩
    · exact no_tells
  · simp only
    split
    · split
      · refine and_tells _ (and_tells _ ?_)
        exact exV_tells _ _ _ _
      · exact no_tells
    · exact no_tells

theorem dField_tells (t : TypeId) (x : Value) (f : Nat) : Tells (dField T t x f) := by
  unfold dField
  cases x <;> try (exact no_tells)
  simp only
  split
  · split
    · split
      · split <;> first | exact one_tells _ | exact no_tells
      · split <;> first | exact one_tells _ | exact no_tells
    · exact no_tells
  · exact no_tells

theorem dLookup_tells (t : TypeId) (m key : Value) (ok : Bool) (h : Heap) : Tells (dLookup T t m key ok h) := by
  unfold dLookup
  cases m <;> try (exact no_tells)
  simp only
  split
  · split
    · intro K hd
      obtain ⟨es, h1, h2, hy, hn⟩ := hd
      cases hg : mget key es with
      | none =>
        have := hn hg
        cases ok with
        | true => exact ⟨_, this, fun L hL => ⟨es, h1, h2, fun v hv => (by rw [hg] at hv; cases hv), fun _ => hL⟩⟩
        | false => exact ⟨_, this, fun L hL => ⟨es, h1, h2, fun v hv => (by rw [hg] at hv; cases hv), fun _ => hL⟩⟩
      | some v =>
        obtain ⟨u, hu, h3⟩ := exV_wit T _ _ _ (hy v hg)
        cases ok with
        | true => exact ⟨_, hu.2, fun L hL => ⟨es, h1, h2, fun w hw => (by rw [hg] at hw; cases hw; exact h3 _ ⟨hu.1, hL⟩), fun hx => (by rw [hg] at hx; cases hx)⟩⟩
        | false => exact ⟨_, hu.2, fun L hL => ⟨es, h1, h2, fun w hw => (by rw [hg] at hw; cases hw; exact h3 _ ⟨hu.1, hL⟩), fun hx => (by rw [hg] at hx; cases hx)⟩⟩
    · exact no_tells
  · exact no_tells

theorem dLen_tells (t : TypeId) (x : Value) (h : Heap) : Tells (dLen T t x h) := by
  unfold dLen
  cases x <;> try (exact no_tells)
  case map r =>
    simp only
    split
    · intro K hd
      obtain ⟨es, h1, h2⟩ := hd
      exact ⟨_, h2, fun L hL => ⟨es, h1, hL⟩⟩
    · exact no_tells
  case pointer p =>
    simp only
    split
    · split <;> first | exact one_tells _ | exact no_tells
    · exact one_tells _
    · exact no_tells
  all_goals
    simp only
    split <;> first | exact one_tells _ | exact no_tells

theorem dBuild_tells (t : TypeId) (ps : List (Nat × Value)) : Tells (dBuild T t ps) := by
  unfold dBuild
  split
  · split
    · split <;> first | exact one_tells _ | exact no_tells
    · split
      · exact and_tells _ (one_tells _)
      · split <;> first | exact one_tells _ | exact no_tells
  · split <;> first | exact one_tells _ | exact no_tells
  · exact no_tells

end
end Go.Proofs.YtfapgccnhonoiaaGreat

/- The framework, part 19: regions that draw their order, typed: the walk of one order. -/
namespace Go.Proofs.YtfapgccnhonoiaaGreat

/-- An operation that leaves the heap alone. -/
def isReadOp (o : Oper) : Bool :=
  match o.op with
  | .move _ => true
  | .assign _ => true
  | .pick _ _ _ => true
  | .load _ _ => true
  | .nilCheck _ => true
  | .binOp _ _ _ _ _ => true
  | .unOp _ _ _ => true
  | .convert _ _ _ => true
  | .sliceToArrayPointer _ _ => true
  | .fieldAddr _ _ _ => true
  | .field _ _ _ => true
  | .indexAddr _ _ _ => true
  | .index _ _ _ => true
  | .lookup _ _ _ _ => true
  | .extract _ _ => true
  | .slice _ _ _ _ _ => true
  | .build _ _ => true
  | .makeFunc _ _ _ => true
  | .call c => match c.callee with
    | .builtin b => match b with
      | .len => true
      | .cap => true
      | .min => true
      | .max => true
      | _ => false
    | _ => false
  | _ => false

/-- Does it read the heap? -/
def heapRead (T : List TI) (o : Oper) : Bool :=
  match o.op with
  | .load _ _ => true
  | .lookup _ _ _ _ => true
  | .call c => match c.argTypes.toList with
    | t :: _ => match (lookT T t).k with
      | .map _ _ => true
      | _ => false
    | [] => true
  | _ => false

section
variable {P : Program} {T : List TI}

theorem optI_tells {ev : Operand → Option FV} (x : Option Operand) {D : Option Int → (FV → Prop) → Prop} (hD : ∀ i, Tells (D i)) : Tells (fun K : FV → Prop => dOp.optI ev x fun i => D i K) := by
  unfold dOp.optI
  cases x with
  | none => exact hD none
  | some y =>
    refine onE_tells _ fun v => ?_
    obtain ⟨v, f⟩ := v
    cases v <;> first | exact no_tells | exact hD _

theorem onL_tells {ev : Operand → Option FV} : ∀ (l : List Operand) {D : List Value → (FV → Prop) → Prop} (_ : ∀ vs, Tells (D vs)), Tells (fun K : FV → Prop => onL ev l fun vs => D vs K)
  | [], _, hD => hD []
  | x :: r, _, hD => onE_tells _ fun v => onL_tells r fun vs => hD (v.1 :: vs)

theorem partsL_tells {ev : Operand → Option FV} : ∀ (l : List (Nat × Operand)) {D : List (Nat × Value) → (FV → Prop) → Prop} (_ : ∀ vs, Tells (D vs)), Tells (fun K : FV → Prop => partsL ev l fun vs => D vs K)
  | [], _, hD => hD []
  | x :: r, _, hD => onE_tells _ fun v => partsL_tells r fun vs => hD ((x.1, v.1) :: vs)

/-- Of an operation that leaves the heap alone: it tells one value; where it does not read the heap, over whatever heap. -/
theorem dOp_tells {o : Oper} (hr : isReadOp o = true) {ev : Operand → Option FV} {K : FV → Heap → Prop} {h : Heap} (hd : dOp P T o ev K h) :
    ∃ v, K v h ∧ (∀ L : FV → Heap → Prop, L v h → dOp P T o ev L h) ∧ (heapRead T o = false → ∀ (L : FV → Heap → Prop) h', L v h' → dOp P T o ev L h') := by
  -- what does not look at the heap
  have pure : ∀ (D : (FV → Prop) → Prop), Tells D → (∀ L h', dOp P T o ev L h' = D fun r => L r h') → ∃ v, K v h ∧ (∀ L : FV → Heap → Prop, L v h → dOp P T o ev L h) ∧ (heapRead T o = false → ∀ (L : FV → Heap → Prop) h', L v h' → dOp P T o ev L h') := by
    intro D hD he
    rw [he] at hd
    obtain ⟨v, hv, h2⟩ := hD _ hd
    exact ⟨v, hv, fun L hL => by rw [he]; exact h2 (fun r => L r h) hL, fun _ L h' hL => by rw [he]; exact h2 (fun r => L r h') hL⟩
  -- what does
  have reads : heapRead T o = true → ∀ (D : (FV → Prop) → Prop), Tells D → (∀ L, dOp P T o ev L h = D fun r => L r h) → ∃ v, K v h ∧ (∀ L : FV → Heap → Prop, L v h → dOp P T o ev L h) ∧ (heapRead T o = false → ∀ (L : FV → Heap → Prop) h', L v h' → dOp P T o ev L h') := by
    intro hh D hD he
    rw [he] at hd
    obtain ⟨v, hv, h2⟩ := hD _ hd
    exact ⟨v, hv, fun L hL => by rw [he]; exact h2 (fun r => L r h) hL, fun hx => by rw [hh] at hx; cases hx⟩
  obtain ⟨dst, op, type, pos, after, guard⟩ := o
  cases op <;> simp only [isReadOp, Bool.false_eq_true] at hr
  case move x => exact pure _ (onE_tells (ev x) fun v => one_tells v) (fun _ _ => rfl)
  case assign x => exact pure _ (onE_tells (ev x) fun v => one_tells v) (fun _ _ => rfl)
  case pick c a b =>
    refine pure (fun K => onE (ev c) fun vc => onE (ev a) fun va => onE (ev b) fun vb =>
      match vc.1 with
      | .bool t => match vc.2 with
        | true => match t with
          | true => K va
          | false => K vb
        | false => (t = true → K va) ∧ (t = false → K vb)
      | _ => False) (onE_tells (ev c) fun vc => onE_tells (ev a) fun va => onE_tells (ev b) fun vb => ?_) (fun _ _ => rfl)
    obtain ⟨vc, fl⟩ := vc
    cases vc <;> try (exact no_tells)
    rename_i t
    cases fl with
    | true => cases t with
      | true => exact one_tells _
      | false => exact one_tells _
    | false =>
      intro K h
      cases t with
      | true => exact ⟨va, h.1 rfl, fun L hL => ⟨fun _ => hL, fun hx => (by cases hx)⟩⟩
      | false => exact ⟨vb, h.2 rfl, fun L hL => ⟨fun hx => (by cases hx), fun _ => hL⟩⟩
  case build t ps => exact pure _ (partsL_tells ps.toList fun vs => dBuild_tells t vs) (fun _ _ => rfl)
  case load t x =>
    refine reads rfl (fun K => onE (ev x) fun v => match v.1 with
      | .pointer p => onSome p fun a => match (lookT T t).k with
        | .oth => False
        | _ => exV T 2 t fun u => valAt T t h a u ∧ K (u, false)
      | _ => False) (onE_tells (ev x) fun v => ?_) (fun _ => rfl)
    obtain ⟨v, fl⟩ := v
    cases v <;> try (exact no_tells)
    refine onSome_tells _ fun a => ?_
    have e := exV_tells (T := T) 2 t (fun u => valAt T t h a u) (fun u => (u, false))
    cases hk : (lookT T t).k <;> simp only [hk] <;> first | exact no_tells | exact e
  case nilCheck x =>
    refine pure (fun K => onE (ev x) fun v => match v.1 with
      | .pointer p => onSome p fun a => K (.pointer (some a), false)
      | .func (.func f) fi ca => K (.func (.func f) fi ca, false)
      | _ => False) (onE_tells (ev x) fun v => ?_) (fun _ _ => rfl)
    obtain ⟨v, fl⟩ := v
    cases v <;> try (exact no_tells)
    · exact onSome_tells _ fun a => one_tells _
    · rename_i fn fi ca
      cases fn <;> first | exact no_tells | exact one_tells _
  case binOp op t x y ty => exact pure _ (onE_tells (ev x) fun v => onE_tells (ev y) fun w => dBin_tells op t v.1 w.1) (fun _ _ => rfl)
  case unOp op t x => exact pure _ (onE_tells (ev x) fun v => dUn_tells op v.1) (fun _ _ => rfl)
  case convert s d x =>
    refine pure (fun K => match isOth (lookT T s).k with
      | true => False
      | false => onE (ev x) fun v => dConv T d v.1 K) ?_ (fun _ _ => rfl)
    cases isOth (lookT T s).k with
    | true => exact no_tells
    | false => exact onE_tells (ev x) fun v => dConv_tells d v.1
  case sliceToArrayPointer t x =>
    refine pure (fun K => onE (ev x) fun v => match v.1 with
      | .slice a len _ => match (lookT T t).k with
        | .arr n _ => n ≤ len ∧ K (.pointer a, false)
        | _ => False
      | _ => False) (onE_tells (ev x) fun v => ?_) (fun _ _ => rfl)
    obtain ⟨v, fl⟩ := v
    cases v <;> try (exact no_tells)
    simp only
    split
    · exact and_tells _ (one_tells _)
    · exact no_tells
  case makeFunc fn first cap => exact pure _ (onL_tells first.toList fun fs => onL_tells cap.toList fun cs => one_tells _) (fun _ _ => rfl)
  case slice t x lo hi mx =>
    cases mx with
    | some m => exact hd.elim
    | none => exact pure _ (onE_tells (ev x) fun v => optI_tells lo fun a => optI_tells hi fun b => dSlice_tells t v.1 a b) (fun _ _ => rfl)
  case fieldAddr t x f =>
    refine pure (fun K => onE (ev x) fun v => match v.1 with
      | .pointer p => onSome p fun a => match (lookT T t).k with
        | .st fs => match nthL fs f with
          | some g => match Nat.beq (lookT T g.2).size 0 with
            | true => False
            | false => match (lookT T g.2).k with
              | .oth => False
              | _ => K (.pointer (some (fld a g.1)), false)
          | none => False
        | _ => False
      | _ => False) (onE_tells (ev x) fun v => ?_) (fun _ _ => rfl)
    obtain ⟨v, fl⟩ := v
    cases v <;> try (exact no_tells)
    refine onSome_tells _ fun a => ?_
    split
    · split
      · split
        · exact no_tells
        · split
          · exact no_tells
          · exact one_tells _
      · exact no_tells
    · exact no_tells
  case field t x f => exact pure _ (onE_tells (ev x) fun v => dField_tells t v.1 f) (fun _ _ => rfl)
  case indexAddr t x i =>
    refine pure (fun K => onE (ev x) fun v => onE (ev i) fun w => match w.1 with
      | .int _ n => dIndexAddr T t v.1 n K
      | _ => False) (onE_tells (ev x) fun v => onE_tells (ev i) fun w => ?_) (fun _ _ => rfl)
    obtain ⟨w, fl⟩ := w
    cases w <;> first | exact no_tells | exact dIndexAddr_tells _ _ _
  case index t x i =>
    refine pure (fun K => onE (ev x) fun v => onE (ev i) fun w => match w.1 with
      | .int _ n => dIndex T t v.1 n K
      | _ => False) (onE_tells (ev x) fun v => onE_tells (ev i) fun w => ?_) (fun _ _ => rfl)
    obtain ⟨w, fl⟩ := w
    cases w <;> first | exact no_tells | exact dIndex_tells _ _ _
  case lookup t m k ok => exact reads rfl _ (onE_tells (ev m) fun v => onE_tells (ev k) fun w => dLookup_tells t v.1 w.1 ok h) (fun _ => rfl)
  case extract x i =>
    refine pure (fun K => onE (ev x) fun v => match v.1 with
      | .tuple vs => match nthL vs.toList i with
        | some u => K (u, v.2)
        | none => False
      | _ => False) (onE_tells (ev x) fun v => ?_) (fun _ _ => rfl)
    obtain ⟨v, fl⟩ := v
    cases v <;> try (exact no_tells)
    simp only
    split
    · exact one_tells _
    · exact no_tells
  case call c =>
    obtain ⟨callee, args, ⟨ts⟩⟩ := c
    cases callee <;> simp only [Bool.false_eq_true] at hr
    rename_i b
    cases ts with
    | nil =>
      have h0 : onL ev args.toList fun _ => False := hd
      have := onL_spec (ρ := fun x => ((ev x).map (·.1)).getD undef) (fun x v hv => by simp [hv]) _ _ h0
      exact this.elim
    | cons t r =>
      cases b <;> simp only [Bool.false_eq_true] at hr
      case cap =>
        refine pure (fun K => onL ev args.toList fun vs => match vs with
          | [x] => dCap T t x K
          | _ => False) (onL_tells _ fun vs => ?_) (fun _ _ => rfl)
        split
        · unfold dCap
          split
          · split <;> first | exact one_tells _ | exact no_tells
          · exact no_tells
        · exact no_tells
      case len =>
        by_cases hm : ∃ k e, (lookT T t).k = .map k e
        · obtain ⟨k, e, hm⟩ := hm
          refine reads (by simp only [heapRead, hm]) (fun K => onL ev args.toList fun vs => match vs with
            | [x] => dLen T t x h K
            | _ => False) (onL_tells _ fun vs => ?_) (fun _ => rfl)
          split
          · exact dLen_tells _ _ _
          · exact no_tells
        · refine pure (fun K => onL ev args.toList fun vs => match vs with
            | [x] => dLen T t x #[] K
            | _ => False) (onL_tells _ fun vs => ?_) (fun L h' => ?_)
          · split
            · exact dLen_tells _ _ _
            · exact no_tells
          · show (onL ev args.toList fun vs => match vs with | [x] => dLen T t x h' (fun r => L r h') | _ => False) = _
            congr 1
            funext vs
            split
            · rename_i x
              unfold dLen
              cases x <;> try rfl
              simp only
              cases hk : (lookT T t).k <;> first | rfl | exact absurd ⟨_, _, hk⟩ hm
            · rfl
      case max =>
        refine pure (fun K => onL ev args.toList fun vs => maxI vs K) (onL_tells _ fun vs => ?_) (fun _ _ => rfl)
        unfold maxI
        split
        · split <;> first | exact one_tells _ | exact no_tells
        · exact no_tells
      case min =>
        refine pure (fun K => onL ev args.toList fun vs => minI vs K) (onL_tells _ fun vs => ?_) (fun _ _ => rfl)
        unfold minI
        split
        · split <;> first | exact one_tells _ | exact no_tells
        · exact no_tells

end
end Go.Proofs.YtfapgccnhonoiaaGreat

/- The framework, part 20: regions that draw their order, typed: the walk of one order. -/
namespace Go.Proofs.YtfapgccnhonoiaaGreat

/-- What must still be read behind operation j. -/
def oblH (ops : Array Oper) (j : Nat) : List (Nat × (Heap → Prop)) → Heap → Prop → Prop
  | [], _, X => X
  | x :: S, h, X => match reachB ops x.1 ops.size j with
    | true => oblH ops j S h X
    | false => x.2 h ∧ oblH ops j S h X

def needS (ops : Array Oper) (i : Nat) : List (Nat × Bool) → Bool
  | [] => false
  | x :: r => (!x.2 && !reachB ops i ops.size x.1) || needS ops i r

/-- The walk of one order of a region that draws its order. -/
def dDraw (P : Program) (T : List TI) (ops : Array Oper) (Q : Env → Heap → Prop) : List (Nat × Bool) → List (Nat × (Heap → Prop)) → Env → Heap → Prop
  | [], _, e, h => Q e h
  | x :: r, S, e, h => match nthL ops.toList x.1 with
    | none => False
    | some o => match x.2 with
      | true => match isReadOp o with
        | false => False
        | true => dGuard ops.toList o e
          (fun e' => dOp P T o (evE e') (fun v _ => dDraw P T ops Q r (match heapRead T o && needS ops x.1 r with
            | true => (x.1, fun h' => dOp P T o (evE e') (fun u _ => u = v) h') :: S
            | false => S) (putE e' o.dst v) h) h)
          (fun e' => dDraw P T ops Q r S (putE e' o.dst (undef, true)) h)
      | false => dGuard ops.toList o e
        (fun e' => dOp P T o (evE e') (fun v h' => oblH ops x.1 S h' (dDraw P T ops Q r S (putE e' o.dst v) h')) h)
        (fun e' => dDraw P T ops Q r S (putE e' o.dst (undef, true)) h)

section
variable {P : Program} {T : List TI}

theorem oblH_spec {ops : Array Oper} {j : Nat} : ∀ (S : List (Nat × (Heap → Prop))) {h : Heap} {X : Prop}, oblH ops j S h X → X ∧ ∀ x ∈ S, reachB ops x.1 ops.size j = false → x.2 h
  | [], _, _, hh => ⟨hh, fun _ hx => by cases hx⟩
  | x :: S, h, X, hh => by
    simp only [oblH] at hh
    split at hh
    · rename_i hr
      obtain ⟨h1, h2⟩ := oblH_spec S hh
      refine ⟨h1, fun y hy hry => ?_⟩
      rcases List.mem_cons.1 hy with rfl | hy
      · rw [hr] at hry; cases hry
      · exact h2 y hy hry
    · obtain ⟨h1, h2⟩ := oblH_spec S hh.2
      refine ⟨h1, fun y hy hry => ?_⟩
      rcases List.mem_cons.1 hy with rfl | hy
      · exact hh.1
      · exact h2 y hy hry

theorem needS_spec {ops : Array Oper} {i : Nat} : ∀ {r : List (Nat × Bool)}, needS ops i r = false → ∀ j, (j, false) ∈ r → reachB ops i ops.size j = true
  | [], _, j, hj => by cases hj
  | x :: r, h, j, hj => by
    simp only [needS, Bool.or_eq_false_iff, Bool.and_eq_false_iff, Bool.not_eq_false'] at h
    rcases List.mem_cons.1 hj with rfl | hj
    · rcases h.1 with h1 | h1
      · cases h1
      · exact h1
    · exact needS_spec h.2 j hj

theorem putE_marks (e : Env) (d : Option Tmp) (v : FV) : (putE e d v).marks = e.marks := by cases d <;> rfl

theorem dDraw_sound (hT : TabOK P T) {ops : Array Oper} {Q : Env → Heap → Prop} {e0 : Env} : ∀ (l : List (Nat × Bool)) (S : List (Nat × (Heap → Prop))) (st : Nat → Heap → Heap → Prop) (e : Env) (a : Act) (h : Heap),
    Agree e a → Keeps (dstsL ops.toList) e0 e → e.marks = e0.marks → (∀ j h, st j h h) → (∀ j, (j, false) ∈ l → ∀ h h', (∀ x ∈ S, reachB ops x.1 ops.size j = false → x.2 h') → st j h h') →
    dDraw P T ops Q l S e h → drawH P ops (fun a' h' => ∃ e', Agree e' a' ∧ Keeps (dstsL ops.toList) e0 e' ∧ e'.marks = e0.marks ∧ Q e' h') l st a h
  | [], S, st, e, a, h, ha, hk, hm, _, _, hd => ⟨e, ha, hk, hm, hd⟩
  | (i, rd) :: r, S, st, e, a, h, ha, hk, hm, hrefl, hst, hd => by
    simp only [dDraw] at hd
    cases ho : nthL ops.toList i with
    | none => simp only [ho] at hd
    | some o =>
      simp only [ho] at hd
      have hoi : ops[i]? = some o := by rw [nthL_eq] at ho; simpa using ho
      have hmem : o ∈ ops.toList := by rw [nthL_eq] at ho; exact List.mem_of_getElem? ho
      have hdst : ∀ d, o.dst = some d → d ∈ dstsL ops.toList := fun d hd => dstsL_mem _ _ _ hmem hd
      cases rd with
      | true =>
        simp only at hd
        split at hd
        · exact hd.elim
        · rename_i hread
          obtain ⟨e', ha', hk', hm', hcase⟩ := dGuard_spec ha hd
          simp only [drawH, hoi]
          rcases hcase with ⟨hw, hrun⟩ | ⟨hw, hskip⟩
          · obtain ⟨v, hv, h2, h3⟩ := dOp_tells hread hrun
            have yields : ∀ h', dOp P T o (evE e') (fun u h'' => u = v ∧ h'' = h') h' → yieldsH P ops o v.1 a h' := fun h' hx =>
              .inl ⟨hw, operH_mono (fun u h'' ⟨b, hb⟩ => ⟨by rw [← hb.1], hb.2⟩) (dOp_sound hT ha'.ev hx)⟩
            refine ⟨v.1, yields h (h2 _ ⟨rfl, rfl⟩), ?_⟩
            refine dDraw_sound hT r _ _ _ _ h (ha'.put o.dst v) ((hk.trans' hk').trans' (Keeps.put hdst)) (by rw [putE_marks, hm', hm]) (fun j h => ⟨hrefl j h, fun _ hx => hx⟩) ?_ hv
            intro j hj h1 h1' hobl
            refine ⟨hst j (by simp [hj]) h1 h1' (fun x hx hr => hobl x ?_ hr), fun hr _ => ?_⟩
            · split
              · exact List.mem_cons_of_mem _ hx
              · exact hx
            · cases hh : heapRead T o with
              | false => exact yields h1' (h3 hh _ h1' ⟨rfl, rfl⟩)
              | true =>
                cases hn : needS ops i r with
                | false => rw [needS_spec hn j hj] at hr; cases hr
                | true =>
                  have hx : dOp P T o (evE e') (fun u _ => u = v) h1' := hobl (i, fun h' => dOp P T o (evE e') (fun u _ => u = v) h') (by rw [hh, hn]; exact List.mem_cons_self) hr
                  obtain ⟨v', hv', h4, _⟩ := dOp_tells hread hx
                  subst hv'
                  exact yields h1' (h4 _ ⟨rfl, rfl⟩)
          · refine ⟨undef, .inr ⟨hw, rfl⟩, ?_⟩
            refine dDraw_sound hT r _ _ _ _ h (ha'.put o.dst (undef, true)) ((hk.trans' hk').trans' (Keeps.put hdst)) (by rw [putE_marks, hm', hm]) (fun j h => ⟨hrefl j h, fun _ hx => hx⟩) ?_ hskip
            intro j hj h1 h1' hobl
            exact ⟨hst j (by simp [hj]) h1 h1' hobl, fun _ _ => .inr ⟨hw, rfl⟩⟩
      | false =>
        simp only at hd
        obtain ⟨e', ha', hk', hm', hcase⟩ := dGuard_spec ha hd
        simp only [drawH, stepH, hoi]
        rcases hcase with ⟨hw, hrun⟩ | ⟨hw, hskip⟩
        · rw [if_pos hw]
          refine operH_mono (fun v h' hx => ?_) (dOp_sound hT ha'.ev hrun)
          obtain ⟨b, hx⟩ := hx
          obtain ⟨h1, h2⟩ := oblH_spec S hx
          refine ⟨hst i (by simp) h h' h2, ?_⟩
          exact dDraw_sound hT r S st _ _ h' (ha'.put o.dst (v, b)) ((hk.trans' hk').trans' (Keeps.put hdst)) (by rw [putE_marks, hm', hm]) hrefl (fun j hj => hst j (by simp [hj])) h1
        · rw [if_neg (by rw [hw]; simp)]
          refine ⟨hrefl i h, ?_⟩
          exact dDraw_sound hT r S st _ _ h (ha'.put o.dst (undef, true)) ((hk.trans' hk').trans' (Keeps.put hdst)) (by rw [putE_marks, hm', hm]) hrefl (fun j hj => hst j (by simp [hj])) hskip

/-! ### A scope without jumps -/

theorem stepR_scope {b : Frame} {a : Act} {k : List Item} {cs : List Frame} {w : World} {c : Code} : step P (lone (b.atR a (.code (.scope c) :: k)) cs w) = .next (lone (b.atR a (.code c :: .inScope c :: k)) cs w) :=
  step_lone_go (by simp [stepG, stepG.exec, Frame.atR])
theorem stepR_inScope {b : Frame} {a : Act} {k : List Item} {cs : List Frame} {w : World} {c : Code} : step P (lone (b.atR a (.inScope c :: k)) cs w) = .next (lone (b.atR a k) cs w) :=
  step_lone_go (by simp [stepG, stepG.exec, Frame.atR])

def outScope (Q : Exit → Act → Heap → Prop) : Exit → Act → Heap → Prop
  | .goto _, _, _ => False
  | e, a, h => Q e a h

theorem codeH_scope {ro : Option Nat} {c : Code} {Q : Exit → Act → Heap → Prop} {a : Act} {h : Heap} (hc : codeH P ro c (outScope Q) a h) : codeH P ro (.scope c) Q a h := by
  intro w hw b k cs hro hb hr
  have h0 : (lone (b.atR a (.code (.scope c) :: k)) cs w).fenced P (fw ro) := fenced_calm hb hr rfl
  obtain ⟨e, a₁, w₁, hq, harr⟩ := hc w hw b (.inScope c :: k) cs hro hb hr
  have hx : ∀ id, exitTo id (.inScope c :: k) = exitTo id k := fun id => by simp [exitTo]
  cases e with
  | normal => exact ⟨.normal, a₁, w₁, hq, .head h0 stepR_scope (StepsIn.trans harr (.one (fenced_calm hb hr rfl) stepR_inScope))⟩
  | exit id => exact ⟨.exit id, a₁, w₁, hq, fun k' hk => .head h0 stepR_scope (harr.1 k' (by rw [hx]; exact hk)), fun hr' hk => let ⟨k₁, h1, h2⟩ := harr.2 hr' (by rw [hx]; exact hk); ⟨k₁, h1, .head h0 stepR_scope h2⟩⟩
  | goto l => exact hq.2.elim
  | ret => exact ⟨_, a₁, w₁, hq, .of_steps (.one h0 stepR_scope) harr⟩
  | panic ch => exact ⟨_, a₁, w₁, hq, .of_steps (.one h0 stepR_scope) harr⟩
  | outgrown => exact ⟨_, a₁, w₁, hq, .of_steps (.one h0 stepR_scope) harr⟩

end
end Go.Proofs.YtfapgccnhonoiaaGreat

/- The framework, part 21: code, typed: definitions. -/
namespace Go.Proofs.YtfapgccnhonoiaaGreat

/-- How a temporary's value is told where a loop or a cut names it anew. -/
inductive Shape where
  | int (k : IntKind)
  | bool
  | ptr
  | adr
  | sl
  | map
  | str
  | val

/-- Functions of values so told. -/
def Fam (A : Type) : List Shape → Type
  | [] => A
  | .int _ :: r => Int → Fam A r
  | .bool :: r => Bool → Fam A r
  | .ptr :: r => Option Addr → Fam A r
  | .adr :: r => Addr → Fam A r
  | .sl :: r => Option Addr → Nat → Nat → Fam A r
  | .map :: r => Option Nat → Fam A r
  | .str :: r => ByteArray → Fam A r
  | .val :: r => Value → Fam A r

/-- A function applied to what is known. -/
def atF {A : Type} : (ss : List Shape) → Fam A ss → List (Option FV) → (A → Prop) → Prop
  | [], f, _, K => K f
  | .int k :: r, f, v :: vs, K => match v with
    | some x => match x.1 with
      | .int k' n => match kEq k k' with
        | true => atF r (f n) vs K
        | false => False
      | _ => False
    | none => False
  | .bool :: r, f, v :: vs, K => match v with
    | some x => match x.1 with
      | .bool b => atF r (f b) vs K
      | _ => False
    | none => False
  | .ptr :: r, f, v :: vs, K => match v with
    | some x => match x.1 with
      | .pointer p => atF r (f p) vs K
      | _ => False
    | none => False
  | .adr :: r, f, v :: vs, K => match v with
    | some x => match x.1 with
      | .pointer p => match p with
        | some a => atF r (f a) vs K
        | none => False
      | _ => False
    | none => False
  | .sl :: r, f, v :: vs, K => match v with
    | some x => match x.1 with
      | .slice a l c => atF r (f a l c) vs K
      | _ => False
    | none => False
  | .map :: r, f, v :: vs, K => match v with
    | some x => match x.1 with
      | .map m => atF r (f m) vs K
      | _ => False
    | none => False
  | .str :: r, f, v :: vs, K => match v with
    | some x => match x.1 with
      | .string s => atF r (f s) vs K
      | _ => False
    | none => False
  | .val :: r, f, v :: vs, K => match v with
    | some x => atF r (f x.1) vs K
    | none => False
  | _ :: _, _, [], _ => False

/-- The same of the values themselves. -/
def appF {A : Type} : (ss : List Shape) → Fam A ss → List Value → Option A
  | [], f, _ => some f
  | .int k :: r, f, v :: vs => match v with
    | .int k' n => if kEq k k' = true then appF r (f n) vs else none
    | _ => none
  | .bool :: r, f, v :: vs => match v with
    | .bool b => appF r (f b) vs
    | _ => none
  | .ptr :: r, f, v :: vs => match v with
    | .pointer p => appF r (f p) vs
    | _ => none
  | .adr :: r, f, v :: vs => match v with
    | .pointer (some a) => appF r (f a) vs
    | _ => none
  | .sl :: r, f, v :: vs => match v with
    | .slice a l c => appF r (f a l c) vs
    | _ => none
  | .map :: r, f, v :: vs => match v with
    | .map m => appF r (f m) vs
    | _ => none
  | .str :: r, f, v :: vs => match v with
    | .string s => appF r (f s) vs
    | _ => none
  | .val :: r, f, v :: vs => appF r (f v) vs
  | _ :: _, _, [] => none

/-- For all values so told. -/
def allF {A B : Type} : (ss : List Shape) → Fam A ss → Fam B ss → (A → B → List FV → Prop) → Prop
  | [], I, M, F => F I M []
  | .int k :: r, I, M, F => ∀ n : Int, allF r (I n) (M n) fun i m vs => F i m ((.int k n, false) :: vs)
  | .bool :: r, I, M, F => ∀ b : Bool, allF r (I b) (M b) fun i m vs => F i m ((.bool b, false) :: vs)
  | .ptr :: r, I, M, F => ∀ p : Option Addr, allF r (I p) (M p) fun i m vs => F i m ((.pointer p, false) :: vs)
  | .adr :: r, I, M, F => ∀ p : Addr, allF r (I p) (M p) fun i m vs => F i m ((.pointer (some p), false) :: vs)
  | .sl :: r, I, M, F => ∀ (a : Option Addr) (l c : Nat), allF r (I a l c) (M a l c) fun i m vs => F i m ((.slice a l c, false) :: vs)
  | .map :: r, I, M, F => ∀ p : Option Nat, allF r (I p) (M p) fun i m vs => F i m ((.map p, false) :: vs)
  | .str :: r, I, M, F => ∀ s : ByteArray, allF r (I s) (M s) fun i m vs => F i m ((.string s, false) :: vs)
  | .val :: r, I, M, F => ∀ v : Value, allF r (I v) (M v) fun i m vs => F i m ((v, false) :: vs)

/-- For all values of these shapes. -/
def allV : List Shape → (List FV → Prop) → Prop
  | [], F => F []
  | .int k :: r, F => ∀ n : Int, allV r fun vs => F ((.int k n, false) :: vs)
  | .bool :: r, F => ∀ b : Bool, allV r fun vs => F ((.bool b, false) :: vs)
  | .ptr :: r, F => ∀ p : Option Addr, allV r fun vs => F ((.pointer p, false) :: vs)
  | .adr :: r, F => ∀ p : Addr, allV r fun vs => F ((.pointer (some p), false) :: vs)
  | .sl :: r, F => ∀ (a : Option Addr) (l c : Nat), allV r fun vs => F ((.slice a l c, false) :: vs)
  | .map :: r, F => ∀ p : Option Nat, allV r fun vs => F ((.map p, false) :: vs)
  | .str :: r, F => ∀ s : ByteArray, allV r fun vs => F ((.string s, false) :: vs)
  | .val :: r, F => ∀ v : Value, allV r fun vs => F ((v, false) :: vs)

/-- What is told to the walk of one function beside its code: the orders of the regions that draw (by the region's number); the temporaries that its loops name (by the first region of the body), that its cuts name (by the first region behind the cut); the shapes of the variables of its ranges over functions (by the first region of the body); the regions that no run comes to. -/
structure Ann where
  ords : List (Nat × List (Nat × Bool))
  loops : List (Nat × List (Nat × Shape))
  cuts : List (Nat × List (Nat × Shape))
  ranges : List (Nat × List Shape)
  dead : List Nat

def lookA {α : Type} : List (Nat × α) → Nat → Option α
  | [], _ => none
  | x :: r, k => match Nat.beq x.1 k with
    | true => some x.2
    | false => lookA r k

/-- An order: reads first, as long as they are free. -/
def greedy (ops : Array Oper) : Nat → Array Bool → List (Nat × Bool)
  | 0, _ => []
  | n + 1, listed =>
    match (Region.ready .any ops listed).find? (fun i => match ops[i]? with | some o => isReadOp o && Region.free .any ops listed i | none => false) with
    | some i => (i, true) :: greedy ops n (listed.setIfInBounds i true)
    | none => match Region.ready .any ops listed with
      | i :: _ => (i, false) :: greedy ops n (listed.setIfInBounds i true)
      | [] => []

def ordOf (ann : Ann) (id : Nat) (ops : Array Oper) : List (Nat × Bool) :=
  match lookA ann.ords id with
  | some l => l
  | none => greedy ops ops.size (Array.replicate ops.size false)

/-- May a region be walked in that order? -/
def ordIs (ops : Array Oper) (l : List (Nat × Bool)) : Bool := Nat.beq l.length ops.size && Region.noSelect ops && ordB ops l (Array.replicate ops.size false)

def firstId : Code → Option Nat
  | .region id _ _ => some id
  | .seq a b => match firstId a with
    | some i => some i
    | none => firstId b
  | .cond _ a b => match firstId a with
    | some i => some i
    | none => firstId b
  | .block _ c => firstId c
  | .loop c => firstId c
  | .scope c => firstId c
  | _ => none

/-- What is told of a part of the code, by its first region. -/
def atId {α : Type} (l : List (Nat × α)) (c : Code) : Option α :=
  match firstId c with
  | some i => lookA l i
  | none => none

/-- The temporaries that code writes. -/
def asgC : Code → List Nat
  | .region _ ops _ => dstsL ops.toList
  | .seq a b => asgC a ++ asgC b
  | .cond _ a b => asgC a ++ asgC b
  | .block _ c => asgC c
  | .loop c => asgC c
  | .scope c => asgC c
  | _ => []

/-- No range over a function. -/
def noRange : Code → Bool
  | .seq a b => noRange a && noRange b
  | .cond _ a b => noRange a && noRange b
  | .block _ c => noRange c
  | .loop c => noRange c
  | .scope c => noRange c
  | .rangeFunc _ _ _ _ => false
  | _ => true

def memB (t : Nat) : List Nat → Bool
  | [] => false
  | x :: r => Nat.beq t x || memB t r

def maskL : List Nat → List (Option FV) → List (Option FV)
  | [], tm => tm
  | t :: r, tm => maskL r (setE tm t none)

def setSlots : List (Option FV) → List Nat → List FV → List (Option FV)
  | tm, t :: ts, v :: vs => setSlots (setE tm t (some v)) ts vs
  | tm, _, _ => tm

def getSlots : List (Option FV) → List Nat → List (Option FV)
  | _, [] => []
  | tm, t :: ts => getE tm t :: getSlots tm ts

def subB : List Nat → List Nat → Bool
  | [], _ => true
  | x :: r, l => memB x l && subB r l

def fstL {α β : Type} : List (α × β) → List α
  | [] => []
  | x :: r => x.1 :: fstL r
def sndS {α β : Type} : List (α × β) → List β
  | [] => []
  | x :: r => x.2 :: sndS r

/-- The jumps that leave a round. -/
def jumpsC : Code → List Code
  | .seq a b => jumpsC a ++ jumpsC b
  | .cond _ a b => jumpsC a ++ jumpsC b
  | .block id c => dropJ id (jumpsC c)
  | .loop c => jumpsC c
  | .scope c => jumpsC c
  | .ret => [.ret]
  | .exit id => [.exit id]
  | _ => []
where
  dropJ (id : Nat) : List Code → List Code
    | [] => []
    | .exit i :: r => match Nat.beq i id with
      | true => dropJ id r
      | false => .exit i :: dropJ id r
    | c :: r => c :: dropJ id r

abbrev Post := Exit → Env → Heap → Prop

def thenE (K : Env → Heap → Prop) (Q : Post) : Post
  | .normal, e, h => K e h
  | x, e, h => Q x e h

def blockE (id : Nat) (Q : Post) : Post
  | .exit i, e, h => match Nat.beq i id with
    | true => Q .normal e h
    | false => Q (.exit i) e h
  | x, e, h => Q x e h

def scopeE (Q : Post) : Post
  | .goto _, _, _ => False
  | x, e, h => Q x e h

/-- The value that a round's function is. -/
def yieldV (l : Nat) : Value := .func (.yield l) #[] #[]

/-- How a round ends. -/
def roundE (l : Nat) (rec : LoopState → Option Code → Obj) (R : Value → Heap → Prop) : Post
  | .normal, _, h => h[l]? = some (rec .busy none) ∧ toH (h.setIfInBounds l (rec .ready none)) fun h' => R (.bool true) h'
  | .ret, _, h => h[l]? = some (rec .busy none) ∧ toH (h.setIfInBounds l (rec .done (some .ret))) fun h' => R (.bool false) h'
  | .exit id, _, h => h[l]? = some (rec .busy none) ∧ toH (h.setIfInBounds l (rec .done (some (.exit id)))) fun h' => R (.bool false) h'
  | _, _, _ => False

def setParams : List (Option FV) → List Tmp → List FV → List (Option FV)
  | tm, t :: ts, v :: vs => setParams (setE tm t (some v)) ts vs
  | tm, _, _ => tm

def valsL : List FV → List Value
  | [] => []
  | v :: r => v.1 :: valsL r

def notCells (o : Obj) : Prop := ∀ c e f, o ≠ .cells c e f

/-- What becomes of a range over a function when the iterator has returned. -/
def afterR (l : Nat) (rec : LoopState → Option Code → Obj) (Q : Post) (e : Env) (h : Heap) : List Code → Prop
  | [] => h[l]? = some (rec .ready none) ∧ toH (h.setIfInBounds l (rec .exhausted none)) fun h' => Q .normal e h'
  | .ret :: r => (h[l]? = some (rec .done (some .ret)) ∧ toH (h.setIfInBounds l (rec .exhausted (some .ret))) fun h' => Q .ret e h') ∨ afterR l rec Q e h r
  | .exit id :: r => (h[l]? = some (rec .done (some (.exit id))) ∧ toH (h.setIfInBounds l (rec .exhausted (some (.exit id)))) fun h' => Q (.exit id) e h') ∨ afterR l rec Q e h r
  | _ :: r => afterR l rec Q e h r

/-- Code. -/
def dCode (P : Program) (T : List TI) (ann : Ann) : Code → Option Nat → Post → Env → Heap → Prop
  | .skip, _, Q, e, h => Q .normal e h
  | .label _, _, Q, e, h => Q .normal e h
  | .exit id, _, Q, e, h => Q (.exit id) e h
  | .ret, _, Q, e, h => Q .ret e h
  | .goto _, _, _, _, _ => False
  | .refuse _, _, _, _, _ => False
  | .region id ops draw, _, Q, e, h => match memB id ann.dead with
    | true => False
    | false => match draw with
      | false => dOps P T ops.toList (Q .normal) ops.toList e h
      | true => match ordIs ops (ordOf ann id ops) with
        | true => dDraw P T ops (Q .normal) (ordOf ann id ops) [] e h
        | false => False
  | .seq a b, ro, Q, e, h => match atId ann.cuts b with
    | none => dCode P T ann a ro (thenE (fun e' h' => dCode P T ann b ro Q e' h') Q) e h
    | some sl => match noRange a && subB (fstL sl) (asgC a) with
      | false => False
      | true => ∃ J : Fam (Heap → Prop) (sndS sl),
          dCode P T ann a ro (thenE (fun e' h' => atF (sndS sl) J (getSlots e'.tm (fstL sl)) fun j => j h') Q) e h ∧
          allF (sndS sl) J J fun j _ vs => ∀ h, j h → dCode P T ann b ro Q ⟨setSlots (maskL (asgC a) e.tm) (fstL sl) vs, e.marks⟩ h
  | .cond c a b, ro, Q, e, h => match evE e c with
    | some v => match v.1 with
      | .bool t => match v.2 with
        | true => match t with
          | true => dCode P T ann a ro Q e h
          | false => dCode P T ann b ro Q e h
        | false => (t = true → dCode P T ann a ro Q e h) ∧ (t = false → dCode P T ann b ro Q e h)
      | _ => False
    | none => False
  | .block id c, ro, Q, e, h => dCode P T ann c ro (blockE id Q) e h
  | .scope c, ro, Q, e, h => dCode P T ann c ro (scopeE Q) e h
  | .loop c, ro, Q, e, h => match atId ann.loops c with
    | none => False
    | some sl => match noRange c && subB (fstL sl) (asgC c) with
      | false => False
      | true => ∃ (I : Fam (Heap → Prop) (sndS sl)) (M : Fam (Heap → Nat) (sndS sl)),
          atF (sndS sl) I (getSlots e.tm (fstL sl)) (fun i => i h) ∧
          allF (sndS sl) I M fun i m vs => ∀ h, i h → dCode P T ann c ro
            (thenE (fun e' h' => atF (sndS sl) I (getSlots e'.tm (fstL sl)) (fun i' => i' h') ∧ atF (sndS sl) M (getSlots e'.tm (fstL sl)) (fun m' => m' h' < m h)) Q)
            ⟨setSlots (maskL (asgC c) e.tm) (fstL sl) vs, e.marks⟩ h
  | .rangeFunc g ps assign body, ro, Q, e, h => match ro with
    | some _ => False
    | none => match evE e g with
      | some v => match v.1 with
        | .func (.func f) fi ca => match atId ann.ranges body with
          | none => False
          | some ss => match Nat.beq ss.length ps.size with
            | false => False
            | true => entersB P f = true ∧
              ∀ (l D : Nat) (rec : LoopState → Option Code → Obj) (h1 : Heap), D = h.size → l = h.size + 1 → (∀ st p, notCells (rec st p)) →
                h1 = (h.push (.deferred (some []))).push (rec .ready none) →
                allV ss (fun vs => ∀ (hh : Heap) (R : Value → Heap → Prop), hh[l]? = some (rec .ready none) →
                  dCode P T ann assign (some l) (thenE (fun e1 h2 => h2[l]? = some (rec .ready none) ∧ toH (h2.setIfInBounds l (rec .busy none)) fun h3 => dCode P T ann body (some l) (roundE l rec R) e1 h3) (fun _ _ _ => False)) ⟨setParams e.tm ps.toList vs, []⟩ hh →
                  CallV P (yieldV l) ⟨valsL vs⟩ hh R) →
                CallH P f ⟨fi.toList ++ yieldV l :: ca.toList⟩ h1 fun _ h2 => afterR l rec Q ⟨e.tm, D :: e.marks⟩ h2 (jumpsC body)
        | _ => False
      | none => False

end Go.Proofs.YtfapgccnhonoiaaGreat

/- The framework, part 22: code, typed: what the definitions say is so. -/
namespace Go.Proofs.YtfapgccnhonoiaaGreat

def fits : List (Option FV) → List Value → Prop
  | [], [] => True
  | g :: gs, v :: vs => (∀ x, g = some x → x.1 = v) ∧ fits gs vs
  | _, _ => False

theorem atF_app {A : Type} : ∀ (ss : List Shape) (f : Fam A ss) (gs : List (Option FV)) (vals : List Value) (K : A → Prop), fits gs vals → atF ss f gs K → ∃ x, appF ss f vals = some x ∧ K x
  | [], f, gs, vals, K, _, h => by cases vals <;> exact ⟨f, rfl, h⟩
  | s :: r, f, [], vals, K, _, h => by cases s <;> exact h.elim
  | s :: r, f, g :: gs, [], K, hf, h => hf.elim
  | s :: r, f, g :: gs, v :: vs, K, hf, h => by
    obtain ⟨h1, h2⟩ := hf
    cases g with
    | none => cases s <;> exact h.elim
    | some x =>
      obtain ⟨x, fl⟩ := x
      have hx := h1 _ rfl
      simp only at hx
      subst hx
      cases s with
      | int k =>
        simp only [atF] at h
        cases x <;> try (exact h.elim)
        simp only at h
        split at h
        · rename_i hk
          obtain ⟨y, hy, hK⟩ := atF_app r _ gs vs K h2 h
          exact ⟨y, by simp only [appF, hk, if_true]; exact hy, hK⟩
        · exact h.elim
      | bool =>
        simp only [atF] at h
        cases x <;> first | exact h.elim | exact atF_app r _ gs vs K h2 h
      | ptr =>
        simp only [atF] at h
        cases x <;> first | exact h.elim | exact atF_app r _ gs vs K h2 h
      | adr =>
        simp only [atF] at h
        cases x <;> try (exact h.elim)
        rename_i p
        cases p with
        | none => exact h.elim
        | some a => exact atF_app r _ gs vs K h2 h
      | sl =>
        simp only [atF] at h
        cases x <;> first | exact h.elim | exact atF_app r _ gs vs K h2 h
      | map =>
        simp only [atF] at h
        cases x <;> first | exact h.elim | exact atF_app r _ gs vs K h2 h
      | str =>
        simp only [atF] at h
        cases x <;> first | exact h.elim | exact atF_app r _ gs vs K h2 h
      | val =>
        simp only [atF] at h
        exact atF_app r _ gs vs K h2 h

theorem allF_app {A B : Type} : ∀ (ss : List Shape) (I : Fam A ss) (M : Fam B ss) (vals : List Value) (i : A) (F : A → B → List FV → Prop), vals.length = ss.length → appF ss I vals = some i → allF ss I M F →
    ∃ m vs, appF ss M vals = some m ∧ F i m vs ∧ valsL vs = vals
  | [], I, M, [], i, F, _, ha, h => by
    have ha' : some I = some i := ha
    cases ha'
    exact ⟨M, [], rfl, h, rfl⟩
  | [], I, M, v :: vs, i, F, hl, ha, h => by simp at hl
  | s :: r, I, M, [], i, F, hl, ha, h => by simp at hl
  | s :: r, I, M, v :: vs, i, F, hl, ha, h => by
    have hl' : vs.length = r.length := by simpa using hl
    cases s with
    | int k =>
      simp only [appF] at ha
      cases v <;> simp only [reduceCtorEq] at ha
      rename_i k' n
      split at ha
      · rename_i hk
        have := kEq_spec hk
        subst this
        obtain ⟨m, ws, h1, h2, h3⟩ := allF_app r _ _ vs i _ hl' ha (h n)
        exact ⟨m, _, by simp only [appF, hk, if_true]; exact h1, h2, by simp [valsL, h3]⟩
      · cases ha
    | bool =>
      simp only [appF] at ha
      cases v <;> simp only [reduceCtorEq] at ha
      obtain ⟨m, ws, h1, h2, h3⟩ := allF_app r _ _ vs i _ hl' ha (h _)
      exact ⟨m, _, h1, h2, by simp [valsL, h3]⟩
    | ptr =>
      simp only [appF] at ha
      cases v <;> simp only [reduceCtorEq] at ha
      obtain ⟨m, ws, h1, h2, h3⟩ := allF_app r _ _ vs i _ hl' ha (h _)
      exact ⟨m, _, h1, h2, by simp [valsL, h3]⟩
    | adr =>
      simp only [appF] at ha
      cases v <;> try (cases ha)
      rename_i p
      cases p with
      | none => cases ha
      | some a =>
        obtain ⟨m, ws, h1, h2, h3⟩ := allF_app r _ _ vs i _ hl' ha (h _)
        exact ⟨m, _, h1, h2, by simp [valsL, h3]⟩
    | sl =>
      simp only [appF] at ha
      cases v <;> simp only [reduceCtorEq] at ha
      obtain ⟨m, ws, h1, h2, h3⟩ := allF_app r _ _ vs i _ hl' ha (h _ _ _)
      exact ⟨m, _, h1, h2, by simp [valsL, h3]⟩
    | map =>
      simp only [appF] at ha
      cases v <;> simp only [reduceCtorEq] at ha
      obtain ⟨m, ws, h1, h2, h3⟩ := allF_app r _ _ vs i _ hl' ha (h _)
      exact ⟨m, _, h1, h2, by simp [valsL, h3]⟩
    | str =>
      simp only [appF] at ha
      cases v <;> simp only [reduceCtorEq] at ha
      obtain ⟨m, ws, h1, h2, h3⟩ := allF_app r _ _ vs i _ hl' ha (h _)
      exact ⟨m, _, h1, h2, by simp [valsL, h3]⟩
    | val =>
      simp only [appF] at ha
      obtain ⟨m, ws, h1, h2, h3⟩ := allF_app r _ _ vs i _ hl' ha (h _)
      exact ⟨m, _, h1, h2, by simp [valsL, h3]⟩

/-- The values of temporaries. -/
def slotV (a : Act) : List Nat → List Value
  | [] => []
  | t :: ts => a.tmps.getD t undef :: slotV a ts

theorem slotV_length (a : Act) : ∀ l, (slotV a l).length = l.length
  | [] => rfl
  | t :: ts => by simp [slotV, slotV_length a ts]

theorem fits_slots {e : Env} {a : Act} (ha : Agree e a) : ∀ l, fits (getSlots e.tm l) (slotV a l)
  | [] => trivial
  | t :: ts => ⟨fun x hx => (ha.vals t x hx).symm, fits_slots ha ts⟩

theorem lens {α β : Type} : ∀ (l : List (α × β)), (fstL l).length = (sndS l).length
  | [] => rfl
  | x :: r => by simp [fstL, sndS, lens r]

theorem memB_spec {t : Nat} : ∀ {l : List Nat}, memB t l = true → t ∈ l
  | [], h => by simp [memB] at h
  | x :: r, h => by
    simp only [memB, Bool.or_eq_true] at h
    rcases h with h | h
    · rw [Nat.eq_of_beq_eq_true h]; exact List.mem_cons_self
    · exact List.mem_cons_of_mem _ (memB_spec h)

theorem subB_spec : ∀ {s l : List Nat}, subB s l = true → ∀ t ∈ s, t ∈ l
  | [], _, _, t, ht => by cases ht
  | x :: r, l, h, t, ht => by
    simp only [subB, Bool.and_eq_true] at h
    rcases List.mem_cons.1 ht with rfl | ht
    · exact memB_spec h.1
    · exact subB_spec h.2 t ht

theorem maskL_length : ∀ (s : List Nat) (tm : List (Option FV)), (maskL s tm).length = tm.length
  | [], _ => rfl
  | t :: r, tm => by simp [maskL, maskL_length r, setE_length]

theorem maskL_get : ∀ (s : List Nat) (tm : List (Option FV)) (t : Nat) (v : FV), getE (maskL s tm) t = some v → t ∉ s ∧ getE tm t = some v
  | [], tm, t, v, h => ⟨by simp, h⟩
  | x :: r, tm, t, v, h => by
    obtain ⟨h1, h2⟩ := maskL_get r _ t v h
    by_cases hx : x = t
    · subst hx
      have := getE_set_eq _ _ _ _ h2
      cases this
    · rw [getE_set_ne _ _ _ _ hx] at h2
      exact ⟨by simp [h1]; exact fun e => hx e.symm, h2⟩

theorem maskL_other : ∀ (s : List Nat) (tm : List (Option FV)) (t : Nat), t ∉ s → getE (maskL s tm) t = getE tm t
  | [], tm, t, _ => rfl
  | x :: r, tm, t, h => by
    simp only [List.mem_cons, not_or] at h
    simp only [maskL]
    rw [maskL_other r _ t h.2, getE_set_ne _ _ _ _ (fun e => h.1 e.symm)]

theorem setSlots_length : ∀ (tm : List (Option FV)) (ts : List Nat) (vs : List FV), (setSlots tm ts vs).length = tm.length
  | tm, [], vs => by cases vs <;> rfl
  | tm, t :: ts, [] => rfl
  | tm, t :: ts, v :: vs => by simp only [setSlots]; rw [setSlots_length, setE_length]

theorem setSlots_other : ∀ (tm : List (Option FV)) (ts : List Nat) (vs : List FV) (t : Nat), t ∉ ts → getE (setSlots tm ts vs) t = getE tm t
  | tm, [], vs, t, _ => by cases vs <;> rfl
  | tm, x :: ts, [], t, _ => rfl
  | tm, x :: ts, v :: vs, t, h => by
    simp only [List.mem_cons, not_or] at h
    simp only [setSlots]
    rw [setSlots_other _ ts vs t h.2, getE_set_ne _ _ _ _ (fun e => h.1 e.symm)]

theorem agree_setSlots {a : Act} {marks : List Nat} : ∀ (ts : List Nat) (vs : List FV) (tm : List (Option FV)), Agree ⟨tm, marks⟩ a → valsL vs = slotV a ts → Agree ⟨setSlots tm ts vs, marks⟩ a
  | [], vs, tm, h, _ => by cases vs <;> exact h
  | t :: ts, [], tm, h, _ => h
  | t :: ts, v :: vs, tm, h, hv => by
    simp only [valsL, slotV, List.cons.injEq] at hv
    refine agree_setSlots ts vs (setE tm t (some v)) ⟨by simp only [setE_length]; exact h.size, fun x u hu => ?_, h.defers⟩ hv.2
    by_cases hx : t = x
    · subst hx
      have := getE_set_eq _ _ _ _ hu
      cases this
      exact hv.1.symm
    · rw [getE_set_ne _ _ _ _ hx] at hu
      exact h.vals x u hu

theorem agree_mask {e e1 : Env} {a1 : Act} {s : List Nat} (ha : Agree e1 a1) (hk : Keeps s e e1) (hm : e1.marks = e.marks) : Agree ⟨maskL s e.tm, e.marks⟩ a1 := by
  refine ⟨by simp only [maskL_length]; rw [← hk.length]; exact ha.size, fun t v hv => ?_, by rw [← hm]; exact ha.defers⟩
  obtain ⟨h1, h2⟩ := maskL_get _ _ _ _ hv
  rw [← hk.same t h1] at h2
  exact ha.vals t v h2

theorem keeps_head {e : Env} {s ts : List Nat} {vs : List FV} (hs : ∀ t ∈ ts, t ∈ s) : Keeps s e ⟨setSlots (maskL s e.tm) ts vs, e.marks⟩ :=
  ⟨fun t ht => by rw [setSlots_other _ _ _ _ (fun h => ht (hs t h)), maskL_other _ _ _ ht], by simp [setSlots_length, maskL_length]⟩

section
variable {P : Program} {T : List TI} {ann : Ann}

/-- What a walk's post says of the frames. -/
def upC (c : Code) (e : Env) (Q : Post) : Exit → Act → Heap → Prop := fun x a' h' => ∃ e', Agree e' a' ∧ Keeps (asgC c) e e' ∧ (noRange c = true → e'.marks = e.marks) ∧ Q x e' h'

theorem setParams_agree {a : Act} : ∀ (ts : List Tmp) (vs : List FV) (tm : List (Option FV)) (tmps : Array Value), tm.length = tmps.size → (∀ t v, getE tm t = some v → tmps.getD t undef = v.1) →
    (setParams tm ts vs).length = ((ts.zip (valsL vs)).foldl (fun tmps (x : Tmp × Value) => tmps.setIfInBounds x.1 x.2) tmps).size ∧
    ∀ t v, getE (setParams tm ts vs) t = some v → ((ts.zip (valsL vs)).foldl (fun tmps (x : Tmp × Value) => tmps.setIfInBounds x.1 x.2) tmps).getD t undef = v.1
  | [], vs, tm, tmps, h1, h2 => by cases vs <;> exact ⟨h1, h2⟩
  | t :: ts, [], tm, tmps, h1, h2 => ⟨h1, h2⟩
  | t :: ts, v :: vs, tm, tmps, h1, h2 => by
    simp only [setParams, valsL, List.zip_cons_cons, List.foldl_cons]
    refine setParams_agree (a := a) ts vs _ _ (by rw [setE_length]; simp [h1]) fun x u hu => ?_
    by_cases hx : t = x
    · subst hx
      have hlt := getE_lt _ _ _ hu
      have := getE_set_eq _ _ _ _ hu
      cases this
      rw [setE_length, h1] at hlt
      simp [hlt]
    · rw [getE_set_ne _ _ _ _ hx] at hu
      rw [← h2 x u hu]
      simp [Array.getElem?_setIfInBounds_ne hx]

theorem valsL_length : ∀ (vs : List FV), (valsL vs).length = vs.length
  | [] => rfl
  | v :: r => by simp [valsL, valsL_length r]

theorem allV_len : ∀ (ss : List Shape) (F : List FV → Prop), allV ss (fun vs => vs.length = ss.length → F vs) → allV ss F
  | [], F, h => h rfl
  | s :: r, F, h => by
    cases s
    case sl => exact fun a l c => allV_len r _ (by have := h a l c; exact allV_imp r (fun vs hv hl => hv (by simp [hl])) this)
    all_goals exact fun a => allV_len r _ (by have := h a; exact allV_imp r (fun vs hv hl => hv (by simp [hl])) this)
where
  allV_imp : ∀ (ss : List Shape) {F G : List FV → Prop}, (∀ vs, F vs → G vs) → allV ss F → allV ss G
    | [], _, _, h, hf => h _ hf
    | s :: r, F, G, h, hf => by
      cases s
      case sl => exact fun a l c => allV_imp r (fun vs hv => h _ hv) (hf a l c)
      all_goals exact fun a => allV_imp r (fun vs hv => h _ hv) (hf a)

theorem allV_any : ∀ (ss : List Shape) (F : List FV → Prop), (∀ vs, F vs) → allV ss F
  | [], F, h => h []
  | s :: r, F, h => by
    cases s
    case sl => exact fun a l c => allV_any r _ fun vs => h _
    all_goals exact fun a => allV_any r _ fun vs => h _

end
end Go.Proofs.YtfapgccnhonoiaaGreat

/- The framework, part 23: code, typed: a walk that the conditions tell is a walk of the model. -/
namespace Go.Proofs.YtfapgccnhonoiaaGreat

section
variable {P : Program} {T : List TI} {ann : Ann}

theorem upC_norm {c : Code} {e e' : Env} {Q : Post} {x : Exit} {a' : Act} {h' : Heap} (h1 : Agree e' a') (h2 : Keeps (asgC c) e e') (h3 : noRange c = true → e'.marks = e.marks) (h4 : Q x e' h') : upC c e Q x a' h' :=
  ⟨e', h1, h2, h3, h4⟩

theorem afterR_jump {l : Nat} {rec : LoopState → Option Code → Obj} {Q : Post} {QH : Exit → Act → Heap → Prop} {e : Env} {a : Act} {h : Heap} (hQ : ∀ x h', Q x e h' → QH x a h') : ∀ (js : List Code),
    afterR l rec Q e h js → ∃ st p, st ≠ .busy ∧ h[l]? = some (rec st p) ∧ jumpH QH a (h.setIfInBounds l (rec .exhausted p)) p
  | [], hh => ⟨.ready, none, by simp, hh.1, hQ _ _ (hh.2 _ rfl)⟩
  | c :: r, hh => by
    cases c with
    | ret =>
      rcases hh with hh | hh
      · exact ⟨.done, some .ret, by simp, hh.1, hQ _ _ (hh.2 _ rfl)⟩
      · exact afterR_jump hQ r hh
    | exit id =>
      rcases hh with hh | hh
      · exact ⟨.done, some (.exit id), by simp, hh.1, hQ _ _ (hh.2 _ rfl)⟩
      · exact afterR_jump hQ r hh
    | _ => exact afterR_jump hQ r hh

theorem foldl_zip (ps : Array Tmp) (vs : List Value) (tmps : Array Value) :
    (ps.zip ⟨vs⟩).foldl (fun tmps (x : Tmp × Value) => tmps.setIfInBounds x.1 x.2) tmps = (ps.toList.zip vs).foldl (fun tmps (x : Tmp × Value) => tmps.setIfInBounds x.1 x.2) tmps := by
  rw [← Array.foldl_toList, Array.toList_zip]

theorem args_eq (fi ca : Array Value) (y : Value) : fi ++ #[y] ++ ca = ⟨fi.toList ++ y :: ca.toList⟩ := by
  apply Array.ext'
  simp

theorem dCode_sound (hT : TabOK P T) (hm : P.follows .mixedOrders = true) : ∀ (c : Code) (ro : Option Nat) (Q : Post) (e : Env) (h : Heap) (a : Act), Agree e a → dCode P T ann c ro Q e h → codeH P ro c (upC c e Q) a h := by
  intro c
  induction c with
  | skip => exact fun ro Q e h a ha hd => codeH_skip ⟨e, ha, Keeps.refl _ _, fun _ => rfl, hd⟩
  | label l => exact fun ro Q e h a ha hd => codeH_label ⟨e, ha, Keeps.refl _ _, fun _ => rfl, hd⟩
  | exit id => exact fun ro Q e h a ha hd => codeH_exit ⟨e, ha, Keeps.refl _ _, fun _ => rfl, hd⟩
  | ret => exact fun ro Q e h a ha hd => codeH_ret ⟨e, ha, Keeps.refl _ _, fun _ => rfl, hd⟩
  | goto l => exact fun ro Q e h a ha hd => hd.elim
  | refuse r => exact fun ro Q e h a ha hd => hd.elim
  | region id ops draw =>
    intro ro Q e h a ha hd
    simp only [dCode] at hd
    cases hdead : memB id ann.dead with
    | true => rw [hdead] at hd; exact hd.elim
    | false =>
    rw [hdead] at hd
    simp only at hd
    cases draw with
    | false =>
      refine codeH_region (opsH_mono' ?_ (dOps_sound hT ops.toList e a h (fun _ ho => ho) ha (Keeps.refl _ _) rfl hd))
      exact fun a' h' ⟨e', h1, h2, h3, h4⟩ => ⟨e', h1, h2, fun _ => h3, h4⟩
    | true =>
      simp only at hd
      split at hd
      · rename_i hb
        simp only [ordIs, Bool.and_eq_true] at hb
        obtain ⟨⟨h1, h2⟩, h3⟩ := hb
        refine codeH_mono ?_ (codeH_region_draw (Q := fun x a' h' => match x with | .normal => ∃ e', Agree e' a' ∧ Keeps (dstsL ops.toList) e e' ∧ e'.marks = e.marks ∧ Q .normal e' h' | _ => False)
          hm (ordOf ann id ops) (Nat.eq_of_beq_eq_true h1) h2 h3 (dDraw_sound hT (ordOf ann id ops) [] (fun _ _ _ => True) e a h ha (Keeps.refl _ _) rfl (fun _ _ => trivial) (fun _ _ _ _ _ => trivial) hd))
        intro x a' h' hx
        cases x with
        | normal => obtain ⟨e', h1, h2, h3, h4⟩ := hx; exact ⟨e', h1, h2, fun _ => h3, h4⟩
        | _ => exact hx.elim
      · exact hd.elim
  | seq x y ihx ihy =>
    intro ro Q e h a ha hd
    simp only [dCode] at hd
    refine codeH_seq ?_
    cases hc : atId ann.cuts y with
    | none =>
      simp only [hc] at hd
      refine codeH_mono (fun z a1 h1 hz => ?_) (ihx ro _ e h a ha hd)
      obtain ⟨e1, ha1, hk1, hm1, hq1⟩ := hz
      cases z with
      | normal =>
        refine codeH_mono (fun z a2 h2 hz => ?_) (ihy ro _ e1 h1 a1 ha1 hq1)
        obtain ⟨e2, ha2, hk2, hm2, hq2⟩ := hz
        exact ⟨e2, ha2, hk1.trans hk2, fun hn => by simp only [noRange, Bool.and_eq_true] at hn; rw [hm2 hn.2, hm1 hn.1], hq2⟩
      | _ => exact ⟨e1, ha1, hk1.mono (by simp [asgC]; exact fun t ht => .inl ht), fun hn => by simp only [noRange, Bool.and_eq_true] at hn; exact hm1 hn.1, hq1⟩
    | some sl =>
      simp only [hc] at hd
      cases hb : noRange x && subB (fstL sl) (asgC x) with
      | false => simp only [hb] at hd
      | true =>
        simp only [hb] at hd
        simp only [Bool.and_eq_true] at hb
        obtain ⟨J, hd1, hd2⟩ := hd
        refine codeH_mono (fun z a1 h1 hz => ?_) (ihx ro _ e h a ha hd1)
        obtain ⟨e1, ha1, hk1, hm1, hq1⟩ := hz
        cases z with
        | normal =>
          obtain ⟨j, hj, hjh⟩ := atF_app _ _ _ _ _ (fits_slots ha1 (fstL sl)) hq1
          obtain ⟨m, vs, _, hF, hvs⟩ := allF_app _ _ _ _ _ _ (by rw [slotV_length, lens]) hj hd2
          refine codeH_mono (fun z a2 h2 hz => ?_) (ihy ro _ _ h1 a1 (agree_setSlots _ _ _ (agree_mask ha1 hk1 (hm1 hb.1)) hvs) (hF h1 hjh))
          obtain ⟨e2, ha2, hk2, hm2, hq2⟩ := hz
          refine ⟨e2, ha2, (keeps_head (subB_spec hb.2)).trans hk2, fun hn => ?_, hq2⟩
          simp only [noRange, Bool.and_eq_true] at hn
          exact hm2 hn.2
        | _ => exact ⟨e1, ha1, hk1.mono (by simp [asgC]; exact fun t ht => .inl ht), fun hn => hm1 hb.1, hq1⟩
  | cond o x y ihx ihy =>
    intro ro Q e h a ha hd
    simp only [dCode] at hd
    have upx : ∀ z a1 h1, upC x e Q z a1 h1 → upC (.cond o x y) e Q z a1 h1 := fun z a1 h1 ⟨e1, ha1, hk1, hm1, hq1⟩ =>
      ⟨e1, ha1, hk1.mono (by simp [asgC]; exact fun t ht => .inl ht), fun hn => by simp only [noRange, Bool.and_eq_true] at hn; exact hm1 hn.1, hq1⟩
    have upy : ∀ z a1 h1, upC y e Q z a1 h1 → upC (.cond o x y) e Q z a1 h1 := fun z a1 h1 ⟨e1, ha1, hk1, hm1, hq1⟩ =>
      ⟨e1, ha1, hk1.mono (by simp [asgC]; exact fun t ht => .inr ht), fun hn => by simp only [noRange, Bool.and_eq_true] at hn; exact hm1 hn.2, hq1⟩
    cases hv : evE e o with
    | none => simp only [hv] at hd
    | some v =>
      simp only [hv] at hd
      obtain ⟨v, fl⟩ := v
      have hev := ha.ev o _ hv
      cases v with
      | bool t =>
        simp only at hd hev
        cases fl with
        | true =>
          cases t with
          | true => exact codeH_cond hev (fun _ => codeH_mono upx (ihx ro _ e h a ha hd)) (fun ht => by cases ht)
          | false => exact codeH_cond hev (fun ht => by cases ht) (fun _ => codeH_mono upy (ihy ro _ e h a ha hd))
        | false => exact codeH_cond hev (fun ht => codeH_mono upx (ihx ro _ e h a ha (hd.1 ht))) (fun ht => codeH_mono upy (ihy ro _ e h a ha (hd.2 ht)))
      | _ => exact hd.elim
  | block id x ih =>
    intro ro Q e h a ha hd
    simp only [dCode] at hd
    refine codeH_block (codeH_mono (fun z a1 h1 hz => ?_) (ih ro _ e h a ha hd))
    obtain ⟨e1, ha1, hk1, hm1, hq1⟩ := hz
    cases z with
    | exit i =>
      simp only [blockE] at hq1
      simp only [outBlock]
      split at hq1
      · rename_i hi
        rw [if_pos (Nat.eq_of_beq_eq_true hi)]
        exact ⟨e1, ha1, hk1, hm1, hq1⟩
      · rename_i hi
        rw [if_neg (fun he => by subst he; rw [Nat.beq_refl] at hi; cases hi)]
        exact ⟨e1, ha1, hk1, hm1, hq1⟩
    | _ => exact ⟨e1, ha1, hk1, hm1, hq1⟩
  | loop x ih =>
    intro ro Q e h a ha hd
    simp only [dCode] at hd
    cases hc : atId ann.loops x with
    | none => simp only [hc] at hd
    | some sl =>
      simp only [hc] at hd
      cases hb : noRange x && subB (fstL sl) (asgC x) with
      | false => simp only [hb] at hd
      | true =>
        simp only [hb] at hd
        simp only [Bool.and_eq_true] at hb
        obtain ⟨I, M, hd1, hd2⟩ := hd
        refine codeH_loop (fun a' h' => Agree ⟨maskL (asgC x) e.tm, e.marks⟩ a' ∧ ∃ i, appF (sndS sl) I (slotV a' (fstL sl)) = some i ∧ i h')
          (fun a' h' => ((appF (sndS sl) M (slotV a' (fstL sl))).map fun m => m h').getD 0) ?_ ?_
        · exact ⟨agree_mask ha (Keeps.refl _ _) rfl, atF_app _ _ _ _ _ (fits_slots ha (fstL sl)) hd1⟩
        · rintro a1 h1 ⟨hg, i, hi, hih⟩
          obtain ⟨m, vs, hmm, hF, hvs⟩ := allF_app _ _ _ _ _ _ (by rw [slotV_length, lens]) hi hd2
          refine codeH_mono (fun z a2 h2 hz => ?_) (ih ro _ _ h1 a1 (agree_setSlots _ _ _ hg hvs) (hF h1 hih))
          obtain ⟨e2, ha2, hk2, hm2, hq2⟩ := hz
          have hk : Keeps (asgC x) e e2 := (keeps_head (subB_spec hb.2)).trans' hk2
          cases z with
          | normal =>
            refine ⟨⟨agree_mask ha2 hk (hm2 hb.1), atF_app _ _ _ _ _ (fits_slots ha2 (fstL sl)) hq2.1⟩, ?_⟩
            obtain ⟨m', hm', hlt⟩ := atF_app _ _ _ _ _ (fits_slots ha2 (fstL sl)) hq2.2
            simp only [hmm, hm', Option.map_some, Option.getD_some]
            exact hlt
          | _ => exact ⟨e2, ha2, hk, fun _ => hm2 hb.1, hq2⟩
  | scope x ih =>
    intro ro Q e h a ha hd
    simp only [dCode] at hd
    refine codeH_scope (codeH_mono (fun z a1 h1 hz => ?_) (ih ro _ e h a ha hd))
    obtain ⟨e1, ha1, hk1, hm1, hq1⟩ := hz
    cases z with
    | goto l => exact hq1.elim
    | _ => exact ⟨e1, ha1, hk1, hm1, hq1⟩
  | rangeFunc g ps assign body iha ihb =>
    intro ro Q e h a ha hd
    simp only [dCode] at hd
    cases ro with
    | some l => exact hd.elim
    | none =>
      simp only at hd
      cases hv : evE e g with
      | none => simp only [hv] at hd
      | some v =>
        simp only [hv] at hd
        obtain ⟨v, fl⟩ := v
        have hev := ha.ev g _ hv
        simp only at hd hev
        split at hd
        · rename_i f fi ca
          cases hs : atId ann.ranges body with
          | none => simp only [hs] at hd
          | some ss =>
            simp only [hs] at hd
            cases hb : Nat.beq ss.length ps.size with
            | false => simp only [hb] at hd
            | true =>
              simp only [hb] at hd
              obtain ⟨hen, hd⟩ := hd
              have hlen := Nat.eq_of_beq_eq_true hb
              refine codeH_rangeFunc hev hen fun fn => ?_
              rw [args_eq]
              refine (hd (h.size + 1) h.size (fun st p => loopObj fn a.tmps ps assign body h.size st p) _ rfl rfl (fun st p c e f hx => by simp [loopObj] at hx) rfl ?_).mono fun v h2 hx => ?_
              · refine allV_len _ _ (allV_any _ _ fun vs hvl hh R hr hx => ?_)
                refine yield_of_code hr (by simp [valsL_length, hvl, hlen]) ?_
                rw [foldl_zip]
                have hag : Agree ⟨setParams e.tm ps.toList vs, []⟩ { tmps := (ps.toList.zip (valsL vs)).foldl (fun tmps (x : Tmp × Value) => tmps.setIfInBounds x.1 x.2) a.tmps, defers := [] } := by
                  obtain ⟨k1, k2⟩ := setParams_agree (a := a) ps.toList vs e.tm a.tmps ha.size ha.vals
                  exact ⟨k1, k2, rfl⟩
                refine codeH_mono (fun z a1 h1 hz => ?_) (iha _ _ _ _ _ hag hx)
                obtain ⟨e1, ha1, hk1, hm1, hq1⟩ := hz
                cases z with
                | normal =>
                  refine ⟨hq1.1, codeH_mono (fun z a2 h2 hz => ?_) (ihb _ _ _ _ _ ha1 (hq1.2 _ rfl))⟩
                  obtain ⟨e2, ha2, hk2, hm2, hq2⟩ := hz
                  cases z with
                  | normal => exact ⟨hq2.1, hq2.2 _ rfl⟩
                  | ret => exact ⟨hq2.1, hq2.2 _ rfl⟩
                  | exit id => exact ⟨hq2.1, hq2.2 _ rfl⟩
                  | _ => exact hq2.elim
                | _ => exact hq1.elim
              · exact afterR_jump (e := ⟨e.tm, h.size :: e.marks⟩) (a := { a with defers := { target := .collected h.size, args := #[] } :: a.defers }) (fun x h' hq => ⟨⟨e.tm, h.size :: e.marks⟩, ⟨ha.size, ha.vals, by simp [ha.defers]⟩, ⟨fun _ _ => rfl, rfl⟩, fun hn => by simp [noRange] at hn, hq⟩) _ hx
        · exact hd.elim
where
  opsH_mono' {ops : Array Oper} {Q Q' : Act → Heap → Prop} (hq : ∀ a h, Q a h → Q' a h) {l : List Oper} {a : Act} {h : Heap} (hh : opsH P ops Q l a h) : opsH P ops Q' l a h := by
    induction l generalizing a h with
    | nil => exact hq _ _ hh
    | cons o r ih =>
      simp only [opsH] at hh ⊢
      split
      · rename_i hw; rw [if_pos hw] at hh; exact operH_mono (fun v h' hx => ih hx) hh
      · rename_i hw; rw [if_neg hw] at hh; exact ih hh

end
end Go.Proofs.YtfapgccnhonoiaaGreat

/- The framework, part 24: a call of a function, from the conditions of its code. -/
namespace Go.Proofs.YtfapgccnhonoiaaGreat

section
variable {P : Program} {T : List TI} {ann : Ann}

/-! ### Terms that read and no more -/

def semQ {α : Type} (P : Program) : Sem α → Heap → α → Prop
  | .pure a, _, v => a = v
  | .load _ a k, h, v => ∃ u, cellAt h a = some u ∧ semQ P (k u) h v
  | .program k, h, v => semQ P (k P) h v
  | .mark _ k, h, v => semQ P k h v
  | _, _, _ => False

theorem semQ_run {α : Type} (s : Sem α) : ∀ {w : World} {v : α}, semQ P s w.heap v → s.run P w = .ok v w := by
  induction s with
  | pure a => intro w v h; have : a = v := h; subst this; rfl
  | load m a k ih =>
    intro w v ⟨u, hu, h⟩
    have : w.cell? a = some u := hu
    simp only [Sem.run, this]; exact ih u h
  | program k ih => intro w v h; simp only [Sem.run]; exact ih P h
  | mark m k ih => intro w v h; simp only [Sem.run]; exact ih h
  | _ => intro w v h; exact h.elim

theorem semQ_bind {α β : Type} (s : Sem α) {f : α → Sem β} : ∀ {h : Heap} {u : α} {v : β}, semQ P s h u → semQ P (f u) h v → semQ P (s >>= f) h v := by
  induction s with
  | pure a => intro h u v h1 h2; have : a = u := h1; subst this; exact h2
  | load m a k ih => intro h u v ⟨x, hx, h1⟩ h2; exact ⟨x, hx, ih x h1 h2⟩
  | program k ih => intro h u v h1 h2; exact ih P h1 h2
  | mark m k ih => intro h u v h1 h2; exact ih h1 h2
  | _ => intro h u v h1 h2; exact h1.elim

theorem semQ_isAgg {t : TypeId} {d : TypeDesc} {h : Heap} (ht : P.underlying t = some d) : semQ P (isAgg t) h (isAggT d) := by
  unfold isAgg underlying
  refine semQ_bind _ (u := d) (semQ_bind _ (u := P) rfl (by rw [ht]; rfl)) ?_
  cases d <;> rfl

theorem semQ_sizeOf {t : TypeId} {i : TypeInfo} {h : Heap} (ht : P.info? t = some i) : semQ P (sizeOf t) h i.size := by
  unfold sizeOf typeInfo
  exact semQ_bind _ (u := i) (semQ_bind _ (u := P) rfl (by rw [ht]; rfl)) rfl

theorem semQ_loadCellsFrom (a : Addr) (h : Heap) : ∀ (l : List Value) (i : Nat) (acc : Array Value), (∀ j v, l[j]? = some v → cellAt h (a.add (i + j)) = some v) →
    semQ P (loadCellsFrom a i l.length acc) h (acc ++ l.toArray)
  | [], i, acc, _ => by
    show acc = _
    simp
  | v :: l, i, acc, hl => by
    simp only [List.length_cons, loadCellsFrom]
    refine semQ_bind _ (u := v) ⟨v, hl 0 v rfl, rfl⟩ ?_
    have := semQ_loadCellsFrom a h l (i + 1) (acc.push v) (fun j u hj => by have := hl (j + 1) u hj; rwa [show i + (j + 1) = i + 1 + j by omega] at this)
    simpa using this

theorem semQ_loadVar (hT : TabOK P T) {t : TypeId} {h : Heap} {a : Addr} {v : Value} (hn : (lookT T t).k ≠ .oth) (hv : valAt T t h a v) : semQ P (loadVar t a) h v := by
  have hkind := hT.kind t
  obtain ⟨i, z, hi, hsz, _, _, _, _⟩ := hT.info t hn
  have agg : ∀ (d : TypeDesc), P.underlying t = some d → isAggT d = true → (∀ cs, v = .agg cs → rowAt h a (lookT T t).size = some cs.toList) → (∃ cs, v = .agg cs) → semQ P (loadVar t a) h v := by
    intro d hd hag hrow ⟨cs, hcs⟩
    subst hcs
    obtain ⟨h1, h2⟩ := cellAt_of_row (hrow cs rfl)
    unfold loadVar
    refine semQ_bind _ (semQ_isAgg hd) ?_
    rw [hag]
    simp only [if_true]
    refine semQ_bind _ (semQ_sizeOf hi) (semQ_bind _ (u := cs) ?_ rfl)
    rw [hsz, ← h1]
    have := semQ_loadCellsFrom (P := P) a h cs.toList 0 #[] (fun j v hv => by rw [Nat.zero_add]; exact h2 j v hv)
    simpa [loadCells] using this
  have one : ∀ (d : TypeDesc), P.underlying t = some d → isAggT d = false → cellAt h a = some v → semQ P (loadVar t a) h v := by
    intro d hd hag hc
    unfold loadVar
    refine semQ_bind _ (semQ_isAgg hd) ?_
    rw [hag]
    exact ⟨v, hc, rfl⟩
  unfold valAt at hv
  cases hk' : (lookT T t).k <;> rw [hk'] at hkind hv
  case st fs =>
    obtain ⟨F, hF, _⟩ := hkind
    cases v with
    | agg cs => exact agg _ hF rfl (fun cs' h => by cases h; exact hv) ⟨cs, rfl⟩
    | _ => exact hv.elim
  case arr n e =>
    cases v with
    | agg cs => exact agg _ hkind rfl (fun cs' h => by cases h; exact hv) ⟨cs, rfl⟩
    | _ => exact hv.elim
  case oth => exact absurd hk' hn
  case fn => obtain ⟨x, y, z', hF⟩ := hkind; exact one _ hF rfl hv
  case tup ts => obtain ⟨x, hF, _⟩ := hkind; exact one _ hF rfl hv
  all_goals exact one _ hkind rfl hv

/-! ### What a function hands back -/

/-- Its results. -/
def dResL (T : List TI) : List ResultVar → List (Option FV) → Heap → (List Value → Prop) → Prop
  | [], _, _, K => K []
  | .tmp t :: r, tm, h, K => onE (getE tm t) fun v => dResL T r tm h fun l => K (v.1 :: l)
  | .cell a t :: r, tm, h, K => onE (getE tm a) fun v => match v.1 with
    | .pointer p => onSome p fun a => (lookT T t).k ≠ .oth ∧ exV T 2 t fun u => valAt T t h a u ∧ dResL T r tm h fun l => K (u :: l)
    | _ => False

def packL : List Value → Value
  | [v] => v
  | l => .tuple ⟨l⟩

/-- Its marks, then its results. -/
def dLeave (T : List TI) (rs : List ResultVar) (R : Value → Heap → Prop) (tm : List (Option FV)) : List Nat → Heap → Prop
  | [], h => dResL T rs tm h fun l => R (packL l) h
  | D :: r, h => h[D]? = some (.deferred (some [])) ∧ toH (h.setIfInBounds D (.deferred none)) fun h' => dLeave T rs R tm r h'

def dEnd (T : List TI) (rs : List ResultVar) (R : Value → Heap → Prop) : Post
  | .normal, e, h => dLeave T rs R e.tm e.marks h
  | .ret, e, h => dLeave T rs R e.tm e.marks h
  | _, _, _ => False

def undefs : Nat → List (Option FV)
  | 0 => []
  | n + 1 => some (undef, true) :: undefs n

/-- The frame on entry. -/
def startE (n : Nat) (args : List FV) : Env := ⟨startL args ++ undefs (n - args.length), []⟩
where
  startL : List FV → List (Option FV)
    | [] => []
    | v :: r => some v :: startL r

theorem exV_some {F : Value → Prop} : ∀ (n : Nat) (t : TypeId), exV T n t F → ∃ v, F v
  | 0, _, h => h
  | n + 1, t, h => by
    simp only [exV] at h
    have lst : ∀ (ts : List TypeId) {G : List Value → Prop}, exL (exV T n) ts G → ∃ l, G l := by
      intro ts
      induction ts with
      | nil => exact fun h => ⟨_, h⟩
      | cons t r ih =>
        intro G h
        obtain ⟨v, hv⟩ := exV_some n t h
        obtain ⟨l, hl⟩ := ih hv
        exact ⟨_, hl⟩
    split at h
    · obtain ⟨_, h⟩ := h; exact ⟨_, h⟩
    · obtain ⟨_, h⟩ := h; exact ⟨_, h⟩
    · obtain ⟨_, h⟩ := h; exact ⟨_, h⟩
    · obtain ⟨_, h⟩ := h; exact ⟨_, h⟩
    · obtain ⟨_, _, _, h⟩ := h; exact ⟨_, h⟩
    · obtain ⟨_, h⟩ := h; exact ⟨_, h⟩
    · split at h
      · obtain ⟨_, h⟩ := lst _ h; exact ⟨_, h⟩
      · obtain ⟨_, h⟩ := h; exact ⟨_, h⟩
    · obtain ⟨_, h⟩ := h; exact ⟨_, h⟩
    · obtain ⟨_, h⟩ := lst _ h; exact ⟨_, h⟩
    · exact h

/-- One result. -/
def resOne (a : Act) : ResultVar → Sem Value
  | .tmp t => pure (a.tmps.getD t undef)
  | .cell c t => do loadVar t (← asAddr (a.tmps.getD c undef))

theorem dResL_sound (hT : TabOK P T) {e : Env} {a : Act} (ha : Agree e a) {h : Heap} : ∀ (rs : List ResultVar) (K : List Value → Prop), dResL T rs e.tm h K →
    ∃ l, K l ∧ ∀ (acc : Array Value), semQ P (rs.foldlM (fun (bs : Array Value) x => do
      let b ← resOne a x
      pure (bs.push b)) acc) h (acc ++ l.toArray)
  | [], K, hd => ⟨[], hd, fun acc => by show acc = _; simp⟩
  | .tmp t :: r, K, hd => by
    simp only [dResL] at hd
    cases hv : getE e.tm t with
    | none => simp only [hv, onE] at hd
    | some v =>
      simp only [hv, onE] at hd
      obtain ⟨l, hl, hq⟩ := dResL_sound hT ha r _ hd
      refine ⟨v.1 :: l, hl, fun acc => ?_⟩
      simp only [List.foldlM_cons]
      refine semQ_bind _ (u := acc.push v.1) (semQ_bind _ (u := v.1) (ha.vals t v hv) rfl) ?_
      have := hq (acc.push v.1)
      simpa using this
  | .cell c t :: r, K, hd => by
    simp only [dResL] at hd
    cases hv : getE e.tm c with
    | none => simp only [hv, onE] at hd
    | some v =>
      simp only [hv, onE] at hd
      obtain ⟨v, fl⟩ := v
      cases v with
      | pointer p =>
        cases p with
        | none => exact hd.elim
        | some ad =>
          simp only [onSome] at hd
          obtain ⟨hn, hd⟩ := hd
          obtain ⟨u, hu, hd⟩ := exV_some _ _ hd
          obtain ⟨l, hl, hq⟩ := dResL_sound hT ha r _ hd
          refine ⟨u :: l, hl, fun acc => ?_⟩
          simp only [List.foldlM_cons]
          refine semQ_bind _ (u := acc.push u) (semQ_bind _ (u := u) (semQ_bind _ (u := ad) ?_ (semQ_loadVar hT hn hu)) rfl) ?_
          · rw [ha.vals c _ hv]; rfl
          · have := hq (acc.push u)
            simpa using this
      | _ => exact hd.elim

theorem results_eq (fn : Func) (a : Act) : results fn a.tmps = (do
    let vs ← fn.results.mapM (resOne a)
    pure (if h : vs.size = 1 then vs[0] else .tuple vs)) := by
  unfold results
  congr 1

theorem pack_eq (l : List Value) : (if h : l.toArray.size = 1 then l.toArray[0] else Value.tuple l.toArray) = packL l := by
  cases l with
  | nil => rfl
  | cons v r =>
    cases r with
    | nil => rfl
    | cons w s => rfl

theorem dRes_res (hT : TabOK P T) {fn : Func} {e : Env} {a : Act} (ha : Agree e a) {h : Heap} {K : List Value → Prop} (hd : dResL T fn.results.toList e.tm h K) :
    ∃ l, K l ∧ resH P fn a.tmps h (packL l) := by
  obtain ⟨l, hl, hq⟩ := dResL_sound hT ha _ _ hd
  refine ⟨l, hl, fun w hw => ?_⟩
  subst hw
  refine semQ_run _ ?_
  rw [results_eq, Array.mapM_eq_foldlM, ← Array.foldlM_toList]
  have := hq #[]
  simp only [Array.empty_append] at this
  exact semQ_bind _ this (pack_eq l)

theorem dLeave_sound (hT : TabOK P T) {fn : Func} {R : Value → Heap → Prop} {e : Env} {a : Act} (ha : Agree e a) : ∀ (ms : List Nat) (h : Heap), dLeave T fn.results.toList R e.tm ms h →
    leaveH P fn a.tmps R (ms.map fun r => { target := .collected r, args := #[] }) h
  | [], h, hd => by
    obtain ⟨l, hl, hr⟩ := dRes_res hT ha hd
    exact ⟨_, hr, hl⟩
  | D :: r, h, hd => ⟨D, rfl, hd.1, dLeave_sound hT ha r _ (hd.2 _ rfl)⟩

theorem getE_start : ∀ (args : List FV) (n t : Nat) (v : FV), getE (startE.startL args ++ undefs n) t = some v → (valsL args).toArray.getD t undef = v.1 ∨ (args.length ≤ t ∧ v = (undef, true))
  | [], n, t, v, h => by
    refine .inr ⟨by simp, ?_⟩
    have : ∀ (n t : Nat) (v : FV), getE (undefs n) t = some v → v = (undef, true) := by
      intro n
      induction n with
      | zero => intro t v h; simp [undefs, getE] at h
      | succ n ih =>
        intro t v h
        cases t with
        | zero => simp only [undefs, getE, Option.some.injEq] at h; exact h.symm
        | succ t => exact ih t v h
    exact this n t v h
  | x :: r, n, 0, v, h => by
    simp only [startE.startL, List.cons_append, getE, Option.some.injEq] at h
    subst h
    exact .inl rfl
  | x :: r, n, t + 1, v, h => by
    simp only [startE.startL, List.cons_append, getE] at h
    rcases getE_start r n t v h with h | h
    · left
      simp only [valsL]
      simpa using h
    · exact .inr ⟨by simp; exact h.1, h.2⟩

theorem startL_len : ∀ (args : List FV), (startE.startL args).length = args.length
  | [] => rfl
  | x :: r => by simp [startE.startL, startL_len r]
theorem undefs_len : ∀ n, (undefs n).length = n
  | 0 => rfl
  | n + 1 => by simp [undefs, undefs_len n]

theorem startE_agree (n : Nat) (args : List FV) : Agree (startE n args) { tmps := (⟨valsL args⟩ : Array Value) ++ Array.replicate (n - (⟨valsL args⟩ : Array Value).size) undef, defers := [] } := by
  have hl : (⟨valsL args⟩ : Array Value).size = args.length := by simp [valsL_length]
  refine ⟨?_, fun t v hv => ?_, rfl⟩
  · simp [startE, startL_len, undefs_len, valsL_length]
  · simp only [startE] at hv
    have hlt := getE_lt _ _ _ hv
    simp only [List.length_append, startL_len, undefs_len] at hlt
    rcases getE_start _ _ _ _ hv with h | ⟨h1, h2⟩
    · rcases Nat.lt_or_ge t args.length with ht | ht
      · rw [← h]
        simp only [Array.getD_eq_getD_getElem?]
        rw [Array.getElem?_append_left (by rw [hl]; exact ht)]
      · have e1 : (valsL args).toArray.getD t undef = undef := by
          simp [valsL_length, ht]
        rw [← h, e1]
        simp only [Array.getD_eq_getD_getElem?]
        rw [Array.getElem?_append_right (by rw [hl]; exact ht)]
        simp only [Array.getElem?_replicate]
        split <;> rfl
    · subst h2
      simp only [Array.getD_eq_getD_getElem?]
      rw [Array.getElem?_append_right (by rw [hl]; exact h1)]
      simp only [Array.getElem?_replicate]
      split <;> rfl

def bodyC (f : Func) : Code :=
  match f.body with
  | some c => c
  | none => .skip

/-- A call of a function, from the conditions of its code. -/
theorem callH_of_dCode (hT : TabOK P T) (hm : P.follows .mixedOrders = true) {f : FuncId} {fn : Func} {c : Code} {n : Nat} {rs : List ResultVar} (args : List FV) {h : Heap} {R : Value → Heap → Prop}
    (hf : P.funcs[f]? = some fn) (hb : fn.body = some c) (hn : fn.ntmps = n) (hr : fn.results.toList = rs) (hd : dCode P T ann c none (dEnd T rs R) (startE n args) h) : CallH P f ⟨valsL args⟩ h R := by
  subst hn
  subst hr
  refine callH_of_code hf hb (codeH_mono (fun x a h' hx => ?_) (dCode_sound hT hm c none _ _ h _ (startE_agree _ args) hd))
  obtain ⟨e', ha, _, _, hq⟩ := hx
  cases x with
  | normal => show leaveH P fn a.tmps R a.defers h'; rw [ha.defers]; exact dLeave_sound hT ha _ _ hq
  | ret => show leaveH P fn a.tmps R a.defers h'; rw [ha.defers]; exact dLeave_sound hT ha _ _ hq
  | _ => exact hq.elim

end
end Go.Proofs.YtfapgccnhonoiaaGreat

/- The framework, part 25: how a types' table is shown to tell the truth, row by row. -/
namespace Go.Proofs.YtfapgccnhonoiaaGreat

structure RowOK (P : Program) (T : List TI) (t : TypeId) : Prop where
  kind : tkOK P t (lookT T t).k
  info : (lookT T t).k ≠ .oth → ∃ i z, P.info? t = some i ∧ i.size = (lookT T t).size ∧ i.bytes = (lookT T t).bytes ∧ i.zero = some z ∧ z.cells.toList = (lookT T t).zero ∧ zeroV T t = z
  closed : closedK T (lookT T t).k = true
  eqst : ∀ fs, (lookT T t).k = .st fs → eqOK P t
  zlen : (lookT T t).k ≠ .oth → (lookT T t).zero.length = (lookT T t).size

theorem rowOth {P : Program} {T : List TI} {t : TypeId} (h : (lookT T t).k = .oth) : RowOK P T t :=
  ⟨by rw [h]; trivial, fun hn => absurd h hn, by rw [h]; rfl, fun fs hf => (by rw [h] at hf; cases hf), fun hn => absurd h hn⟩

theorem row_of {P : Program} {T : List TI} {t : TypeId} (i : TI) (ti : TypeInfo) (hl : lookT T t = i) (kind : tkOK P t i.k) (hi : P.info? t = some ti) (hs : ti.size = i.size) (hb : ti.bytes = i.bytes)
    (hz : ti.zero = some (zeroV T t)) (hc : (zeroV T t).cells.toList = i.zero) (closed : closedK T i.k = true) (zlen : i.zero.length = i.size) (eqst : ∀ fs, i.k = .st fs → eqOK P t) : RowOK P T t :=
  ⟨by rw [hl]; exact kind, fun _ => ⟨ti, zeroV T t, hi, by rw [hl]; exact hs, by rw [hl]; exact hb, hz, by rw [hl]; exact hc, rfl⟩, by rw [hl]; exact closed, by rw [hl]; exact eqst, fun _ => by rw [hl]; exact zlen⟩

def RowsOK (P : Program) (T : List TI) : Nat → List TI → Prop
  | _, [] => True
  | n, _ :: r => RowOK P T n ∧ RowsOK P T (n + 1) r

theorem lookT_ge : ∀ (T : List TI) (t : Nat), T.length ≤ t → lookT T t = ⟨.oth, 0, 0, []⟩
  | [], _, _ => rfl
  | _ :: r, 0, h => by simp at h
  | _ :: r, t + 1, h => lookT_ge r t (by simpa using h)

theorem rowsOK_at {P : Program} {T : List TI} : ∀ (l : List TI) (n t : Nat), RowsOK P T n l → t < l.length → RowOK P T (n + t)
  | [], n, t, _, h => by simp at h
  | x :: r, n, 0, h, _ => h.1
  | x :: r, n, t + 1, h, hl => by
    have := rowsOK_at r (n + 1) t h.2 (by simpa using hl)
    rwa [show n + (t + 1) = n + 1 + t by omega]

theorem tabOK_of_rows {P : Program} {T : List TI} (h : RowsOK P T 0 T) : TabOK P T := by
  have all : ∀ t, RowOK P T t := fun t => by
    rcases Nat.lt_or_ge t T.length with hl | hl
    · have := rowsOK_at T 0 t h hl
      rwa [Nat.zero_add] at this
    · exact rowOth (by rw [lookT_ge T t hl])
  exact ⟨fun t => (all t).kind, fun t => (all t).info, fun t => (all t).closed, fun t => (all t).eqst, fun t => (all t).zlen⟩

end Go.Proofs.YtfapgccnhonoiaaGreat

/- The framework, part 26: facts about heaps: blocks, what writes leave alone, maps with whole numbers for keys. -/
namespace Go.Proofs.YtfapgccnhonoiaaGreat

theorem addr_add (b o n : Nat) : Addr.add ⟨b, o, none⟩ n = ⟨b, o + n, none⟩ := Addr.add_eq ⟨b, o, none⟩ rfl n

def setO (k : Nat) (v : Value) : Option Obj → Option Obj
  | some (.cells c e f) => some (.cells (c.setIfInBounds k v) e f)
  | o => o

theorem get_upd (h : Heap) (b k c : Nat) (v : Value) : (upd h ⟨b, k, none⟩ v)[c]? = if c = b then setO k v h[b]? else h[c]? := by
  unfold upd
  rw [Array.getElem?_modify]
  by_cases hc : b = c
  · subst hc
    simp only [if_true]
    cases hb : h[b]? with
    | none => rfl
    | some o => cases o <;> rfl
  · rw [if_neg hc, if_neg (fun e => hc e.symm)]

theorem setO_cells (k : Nat) (v : Value) (l : List Value) (e : TypeId) (f : Nat × Nat) : setO k v (some (.cells ⟨l⟩ e f)) = some (.cells ⟨l.set k v⟩ e f) := by
  simp [setO]

theorem size_upd (h : Heap) (a : Addr) (v : Value) : (upd h a v).size = h.size := by simp [upd]

theorem cellAt_get (h : Heap) (b k : Nat) : cellAt h ⟨b, k, none⟩ = match h[b]? with | some (.cells c _ _) => c[k]? | _ => none := by
  unfold cellAt
  simp only [Option.isSome_none, Bool.false_eq_true, if_false]
  cases h[b]? with
  | none => rfl
  | some o => cases o <;> rfl

/-- A block of cells. -/
def Blk (h : Heap) (b : Nat) (l : List Value) : Prop := ∃ e, h[b]? = some (.cells ⟨l⟩ e (0, 0))

theorem Blk.cell {h : Heap} {b : Nat} {l : List Value} (hb : Blk h b l) {k : Nat} {v : Value} (hk : l[k]? = some v) : cellAt h ⟨b, k, none⟩ = some v := by
  obtain ⟨e, hb⟩ := hb
  rw [cellAt_get, hb]
  simpa using hk

theorem Blk.ok {h : Heap} {b : Nat} {l : List Value} (hb : Blk h b l) {k : Nat} (hk : k < l.length) : okAt h ⟨b, k, none⟩ := by
  obtain ⟨e, hb⟩ := hb
  exact okAt_of_block (a := ⟨b, k, none⟩) hb rfl (by simpa using hk) (by simp)

theorem Blk.upd {h : Heap} {b : Nat} {l : List Value} (hb : Blk h b l) (k : Nat) (v : Value) : Blk (upd h ⟨b, k, none⟩ v) b (l.set k v) := by
  obtain ⟨e, hb⟩ := hb
  exact ⟨e, by rw [get_upd, if_pos rfl, hb, setO_cells]⟩

theorem Blk.lt {h : Heap} {b : Nat} {l : List Value} (hb : Blk h b l) : b < h.size := by
  obtain ⟨e, hb⟩ := hb
  exact (Array.getElem?_eq_some_iff.1 hb).1

theorem Blk.row {h : Heap} {b : Nat} {l : List Value} (hb : Blk h b l) {k n : Nat} (hk : k + n ≤ l.length) : rowAt h ⟨b, k, none⟩ n = some ((l.drop k).take n) := by
  obtain ⟨e, hb⟩ := hb
  unfold rowAt
  simp only [hb]
  rw [if_pos ⟨rfl, by simpa using hk⟩]

theorem Blk.okRow {h : Heap} {b : Nat} {l : List Value} (hb : Blk h b l) {k n : Nat} (hk : k + n ≤ l.length) : okRow h ⟨b, k, none⟩ n := by
  obtain ⟨e, hb⟩ := hb
  exact ⟨_, e, 0, 0, hb, rfl, by simpa using hk, .inl (Nat.zero_le _)⟩

/-- A list with a row laid into it. -/
def layRow (l : List Value) : Nat → List Value → List Value
  | _, [] => l
  | k, v :: r => layRow (l.set k v) (k + 1) r

theorem updRow_get (b : Nat) : ∀ (vs : List Value) (h : Heap) (k i c : Nat), (updRow h ⟨b, k, none⟩ i vs)[c]? = if c = b then (match h[b]? with | some (.cells x e f) => some (.cells ⟨layRow x.toList (k + i) vs⟩ e f) | o => o) else h[c]?
  | [], h, k, i, c => by
    simp only [updRow]
    split
    · rename_i hc
      subst hc
      cases h[c]? with
      | none => rfl
      | some o => cases o <;> simp [layRow]
    · rfl
  | v :: r, h, k, i, c => by
    simp only [updRow]
    rw [show (Addr.add ⟨b, k, none⟩ i) = ⟨b, k + i, none⟩ from Addr.add_eq ⟨b, k, none⟩ rfl i]
    rw [updRow_get b r _ k (i + 1) c]
    split
    · rw [get_upd, if_pos rfl]
      cases h[b]? with
      | none => rfl
      | some o => cases o <;> simp [setO, layRow, Nat.add_assoc]
    · rename_i hc
      rw [get_upd, if_neg hc]

theorem updRow_size (a : Addr) : ∀ (vs : List Value) (h : Heap) (i : Nat), (updRow h a i vs).size = h.size
  | [], _, _ => rfl
  | v :: r, h, i => by simp only [updRow]; rw [updRow_size a r, size_upd]

theorem layRow_eq : ∀ (vs l : List Value) (k : Nat), k + vs.length ≤ l.length → layRow l k vs = l.take k ++ vs ++ l.drop (k + vs.length)
  | [], l, k, h => by simp [layRow]
  | v :: r, l, k, h => by
    simp only [List.length_cons] at h
    simp only [layRow]
    rw [layRow_eq r _ (k + 1) (by simp; omega)]
    have h1 : (l.set k v).take (k + 1) = l.take k ++ [v] := by
      rw [List.take_add_one, List.take_set_of_le (Nat.le_refl k)]
      simp [show k < l.length by omega]
    have h2 : (l.set k v).drop (k + 1 + r.length) = l.drop (k + 1 + r.length) := by
      rw [List.drop_set_of_lt (by omega)]
    rw [h1, h2]
    simp only [List.append_assoc, List.cons_append, List.nil_append, List.length_cons]
    rw [show k + 1 + r.length = k + (r.length + 1) by omega]

theorem Blk.updRow {h : Heap} {b : Nat} {l : List Value} (hb : Blk h b l) {k : Nat} {vs : List Value} (hk : k + vs.length ≤ l.length) : Blk (updRow h ⟨b, k, none⟩ 0 vs) b (l.take k ++ vs ++ l.drop (k + vs.length)) := by
  obtain ⟨e, hb⟩ := hb
  refine ⟨e, ?_⟩
  rw [updRow_get, if_pos rfl, hb]
  simp only [Nat.add_zero]
  rw [layRow_eq vs l k hk]

theorem Blk.new (h : Heap) (l : List Value) (e : TypeId) : Blk (h.push (.cells ⟨l⟩ e (0, 0))) h.size l := ⟨e, by simp⟩

/-! ### What is left alone -/

/-- All blocks but these are as they were. -/
structure Keep (h h' : Heap) (F : List Nat) : Prop where
  size : h.size ≤ h'.size
  same : ∀ b, b < h.size → b ∉ F → h'[b]? = h[b]?

theorem Keep.refl (h : Heap) (F : List Nat) : Keep h h F := ⟨Nat.le_refl _, fun _ _ _ => rfl⟩
theorem Keep.trans {h h' h'' : Heap} {F F' : List Nat} (k : Keep h h' F) (k' : Keep h' h'' F') (hF : ∀ b ∈ F', b ∈ F ∨ h.size ≤ b) : Keep h h'' F :=
  ⟨Nat.le_trans k.size k'.size, fun b hb hn => by
    rw [k'.same b (Nat.lt_of_lt_of_le hb k.size) (fun hx => (hF b hx).elim hn (fun h => absurd hb (by omega))), k.same b hb hn]⟩
theorem Keep.trans' {h h' h'' : Heap} {F : List Nat} (k : Keep h h' F) (k' : Keep h' h'' F) : Keep h h'' F := k.trans k' fun _ hb => .inl hb
theorem Keep.mono {h h' : Heap} {F F' : List Nat} (k : Keep h h' F) (hF : ∀ b ∈ F, b ∈ F' ∨ h.size ≤ b) : Keep h h' F' :=
  ⟨k.size, fun b hb hn => k.same b hb fun hx => (hF b hx).elim hn (fun h => absurd hb (by omega))⟩
theorem Keep.upd (h : Heap) (b k : Nat) (v : Value) (F : List Nat) (hb : b ∈ F ∨ h.size ≤ b) : Keep h (upd h ⟨b, k, none⟩ v) F :=
  ⟨by rw [size_upd]; exact Nat.le_refl _, fun c hc hn => by rw [get_upd, if_neg (fun e => by subst e; exact hb.elim hn (fun h => absurd hc (by omega)))]⟩
theorem Keep.updRow (h : Heap) (b k : Nat) (vs : List Value) (F : List Nat) (hb : b ∈ F ∨ h.size ≤ b) : Keep h (updRow h ⟨b, k, none⟩ 0 vs) F :=
  ⟨by rw [updRow_size]; exact Nat.le_refl _, fun c hc hn => by rw [updRow_get, if_neg (fun e => by subst e; exact hb.elim hn (fun h => absurd hc (by omega)))]⟩
theorem Keep.push (h : Heap) (o : Obj) (F : List Nat) : Keep h (h.push o) F :=
  ⟨by simp, fun c hc _ => by rw [Array.getElem?_push, if_neg (by omega)]⟩
theorem Keep.set (h : Heap) (b : Nat) (o : Obj) (F : List Nat) (hb : b ∈ F ∨ h.size ≤ b) : Keep h (h.setIfInBounds b o) F :=
  ⟨by simp, fun c hc hn => by rw [Array.getElem?_setIfInBounds_ne (fun e => by subst e; exact hb.elim hn (fun h => absurd hc (by omega)))]⟩

theorem Blk.keep {h h' : Heap} {F : List Nat} {b : Nat} {l : List Value} (hb : Blk h b l) (k : Keep h h' F) (hn : b ∉ F) : Blk h' b l := by
  have := hb.lt
  obtain ⟨e, hb⟩ := hb
  exact ⟨e, by rw [k.same b this hn, hb]⟩

/-! ### Maps whose keys are whole numbers -/

abbrev AL := List (Int × Value)

def aget (k : Int) : AL → Option Value
  | [] => none
  | x :: r => if k = x.1 then some x.2 else aget k r
def ahas (k : Int) : AL → Bool
  | [] => false
  | x :: r => if k = x.1 then true else ahas k r
def aset (k : Int) (v : Value) : AL → AL
  | [] => []
  | x :: r => if k = x.1 then (k, v) :: r else x :: aset k v r
def aput (k : Int) (v : Value) (l : AL) : AL := if ahas k l then aset k v l else l ++ [(k, v)]
def adel (k : Int) : AL → AL
  | [] => []
  | x :: r => if k = x.1 then r else x :: adel k r

def entsOf : List MapEntry → AL → Prop
  | [], [] => True
  | e :: r, x :: s => e.key = .int .i64 x.1 ∧ e.val = x.2 ∧ entsOf r s
  | _, _ => False

/-- The entries of a map. -/
structure EntsI (es : Array MapEntry) (clk : Nat) (l : AL) : Prop where
  ents : entsOf es.toList l
  old : ∀ e ∈ es.toList, e.born < clk
  apart : (es.toList.map (·.born)).Nodup

def MapI (h : Heap) (b : Nat) (l : AL) : Prop := ∃ es clk, h[b]? = some (.map es clk) ∧ EntsI es clk l

theorem MapI.lt {h : Heap} {b : Nat} {l : AL} (hb : MapI h b l) : b < h.size := by
  obtain ⟨es, clk, hb, _⟩ := hb
  exact (Array.getElem?_eq_some_iff.1 hb).1
theorem MapI.keep {h h' : Heap} {F : List Nat} {b : Nat} {l : AL} (hb : MapI h b l) (k : Keep h h' F) (hn : b ∉ F) : MapI h' b l := by
  have := hb.lt
  obtain ⟨es, clk, hb, hr⟩ := hb
  exact ⟨es, clk, by rw [k.same b this hn, hb], hr⟩

theorem entsOf_length : ∀ (es : List MapEntry) (l : AL), entsOf es l → es.length = l.length
  | [], [], _ => rfl
  | [], _ :: _, h => h.elim
  | _ :: _, [], h => h.elim
  | _ :: r, _ :: s, h => by simp [entsOf_length r s h.2.2]

theorem EntsI.size {es : Array MapEntry} {clk : Nat} {l : AL} (h : EntsI es clk l) : es.size = l.length := by
  have := entsOf_length _ _ h.ents
  simpa using this

theorem keyEq_int (k k' : Int) : keyEq (.int .i64 k) (.int .i64 k') = some (k == k') := rfl

theorem EntsI.keysOK {es : Array MapEntry} {clk : Nat} {l : AL} (h : EntsI es clk l) (k : Int) : keysOK (.int .i64 k) es := by
  intro e he
  have : ∀ (es : List MapEntry) (l : AL), entsOf es l → ∀ e ∈ es, (keyEq (.int .i64 k) e.key).isSome = true := by
    intro es
    induction es with
    | nil => intro l _ e he; cases he
    | cons a r ih =>
      intro l hl e he
      cases l with
      | nil => exact hl.elim
      | cons x s =>
        rcases List.mem_cons.1 he with rfl | he
        · rw [hl.1, keyEq_int]; rfl
        · exact ih s hl.2.2 e he
  exact this _ _ h.ents e he

theorem mfindL_ent (k : Int) : ∀ (es : List MapEntry) (l : AL) (i : Nat), entsOf es l →
    match mfindL (.int .i64 k) es i with
    | some (j, v) => aget k l = some v ∧ ahas k l = true ∧ ∃ m e, j = i + m ∧ es[m]? = some e ∧ entsOf (es.eraseIdx m) (adel k l) ∧ ∀ w, entsOf (es.modify m fun e => { e with key := .int .i64 k, val := w }) (aset k w l)
    | none => aget k l = none ∧ ahas k l = false
  | [], [], i, _ => ⟨rfl, rfl⟩
  | [], _ :: _, _, h => h.elim
  | _ :: _, [], _, h => h.elim
  | e :: r, x :: s, i, h => by
    obtain ⟨h1, h2, h3⟩ := h
    simp only [mfindL, h1, keyEq_int]
    by_cases hk : k = x.1
    · have : (k == x.1) = true := by simp [hk]
      simp only [this, if_true]
      refine ⟨by simp [aget, hk, h2], by simp [ahas, hk], 0, e, rfl, rfl, by simpa [adel, hk] using h3, fun w => ?_⟩
      simp only [aset, hk, if_true, List.modify_zero_cons]
      exact ⟨rfl, rfl, h3⟩
    · have : (k == x.1) = false := by simp [hk]
      simp only [this, Option.some.injEq, Bool.false_eq_true, if_false]
      have ih := mfindL_ent k r s (i + 1) h3
      split at ih
      · rename_i j v hj
        obtain ⟨i1, i2, m, e', hm, he, i3, i4⟩ := ih
        refine ⟨by simp [aget, hk, i1], by simp [ahas, hk, i2], m + 1, e', by omega, by simpa using he, ?_, fun w => ?_⟩
        · simp only [adel, hk, if_false, List.eraseIdx_cons_succ]
          exact ⟨h1, h2, i3⟩
        · simp only [aset, hk, if_false, List.modify_succ_cons]
          exact ⟨h1, h2, i4 w⟩
      · exact ⟨by simp [aget, hk, ih.1], by simp [ahas, hk, ih.2]⟩

theorem EntsI.get {es : Array MapEntry} {clk : Nat} {l : AL} (h : EntsI es clk l) (k : Int) : mget (.int .i64 k) es = aget k l := by
  have := mfindL_ent k es.toList l 0 h.ents
  unfold mget mfind
  split at this
  · rename_i hj; rw [hj, this.1]; rfl
  · rename_i hj; rw [hj, this.1]; rfl

theorem entsOf_snoc : ∀ (es : List MapEntry) (l : AL) (e : MapEntry) (x : Int × Value), entsOf es l → e.key = .int .i64 x.1 → e.val = x.2 → entsOf (es ++ [e]) (l ++ [x])
  | [], [], e, x, _, h1, h2 => ⟨h1, h2, trivial⟩
  | [], _ :: _, _, _, h, _, _ => h.elim
  | _ :: _, [], _, _, h, _, _ => h.elim
  | _ :: r, _ :: s, e, x, h, h1, h2 => ⟨h.1, h.2.1, entsOf_snoc r s e x h.2.2 h1 h2⟩

theorem nodup_modify (k : Value) (w : Value) : ∀ (es : List MapEntry) (m : Nat), (es.modify m fun e => { e with key := k, val := w }).map (·.born) = es.map (·.born)
  | [], m => by cases m <;> rfl
  | e :: r, 0 => by simp [List.modify_zero_cons]
  | e :: r, m + 1 => by simp [List.modify_succ_cons, nodup_modify k w r m]

theorem mem_modify_born (k : Value) (w : Value) (es : List MapEntry) (m : Nat) (e : MapEntry) (he : e ∈ es.modify m fun e => { e with key := k, val := w }) : ∃ e' ∈ es, e'.born = e.born := by
  have h1 : e.born ∈ (es.modify m fun e => { e with key := k, val := w }).map (·.born) := List.mem_map_of_mem he
  rw [nodup_modify] at h1
  obtain ⟨e', h2, h3⟩ := List.mem_map.1 h1
  exact ⟨e', h2, h3⟩

theorem EntsI.put {es : Array MapEntry} {clk : Nat} {l : AL} (h : EntsI es clk l) (k : Int) (v : Value) : ∃ es' clk', mput es clk (.int .i64 k) v = .map es' clk' ∧ EntsI es' clk' (aput k v l) := by
  have hf := mfindL_ent k es.toList l 0 h.ents
  unfold mput mfind
  split at hf
  · rename_i j u hj
    obtain ⟨h1, h2, m, e, hm, he, h3, h4⟩ := hf
    rw [hj]
    have hjm : j = m := by omega
    subst hjm
    refine ⟨_, _, rfl, ?_, ?_, ?_⟩
    · simp only [Array.toList_modify, aput, h2, if_true]; exact h4 v
    · intro e' he'
      simp only [Array.toList_modify] at he'
      obtain ⟨e2, h5, h6⟩ := mem_modify_born _ _ _ _ _ he'
      rw [← h6]; exact h.old e2 h5
    · simp only [Array.toList_modify]
      rw [nodup_modify]; exact h.apart
  · rename_i hj
    rw [hj]
    refine ⟨_, _, rfl, ?_, ?_, ?_⟩
    · simp only [Array.toList_push, aput, hf.2, Bool.false_eq_true, if_false]
      exact entsOf_snoc _ _ _ _ h.ents rfl rfl
    · intro e' he'
      simp only [Array.toList_push, List.mem_append, List.mem_singleton] at he'
      rcases he' with he' | rfl
      · have := h.old e' he'; omega
      · exact Nat.lt_succ_self _
    · simp only [Array.toList_push, List.map_append, List.map_cons, List.map_nil]
      refine List.nodup_append.2 ⟨h.apart, by simp, fun a ha b hb => ?_⟩
      simp only [List.mem_singleton] at hb
      obtain ⟨e, he, hea⟩ := List.mem_map.1 ha
      have := h.old e he
      omega

theorem EntsI.del {es : Array MapEntry} {clk : Nat} {l : AL} (h : EntsI es clk l) (k : Int) : ∃ es', (match mfind (.int .i64 k) es with
    | some (n, _) => Obj.map (es.eraseIdxIfInBounds n) clk
    | none => .map es clk) = .map es' clk ∧ EntsI es' clk (adel k l) := by
  have hf := mfindL_ent k es.toList l 0 h.ents
  unfold mfind
  split at hf
  · rename_i j u hj
    obtain ⟨h1, h2, m, e, hm, he, h3, h4⟩ := hf
    have hjm : j = m := by omega
    subst hjm
    have hlt : j < es.size := by
      have := (List.getElem?_eq_some_iff.1 he).1
      simpa using this
    have e1 : (es.eraseIdxIfInBounds j).toList = es.toList.eraseIdx j := by
      unfold Array.eraseIdxIfInBounds
      rw [dif_pos hlt]
      simp
    refine ⟨_, rfl, ?_, ?_, ?_⟩
    · rw [e1]; exact h3
    · intro e' he'
      rw [e1] at he'
      exact h.old e' (List.mem_of_mem_eraseIdx he')
    · rw [e1]
      exact h.apart.sublist ((List.eraseIdx_sublist _ _).map _)
  · refine ⟨_, rfl, ?_, h.old, h.apart⟩
    have : ∀ (l : AL), ahas k l = false → adel k l = l := by
      intro l
      induction l with
      | nil => intro _; rfl
      | cons x r ih =>
        intro hh
        simp only [ahas] at hh
        split at hh
        · cases hh
        · rename_i hk
          simp only [adel, hk, if_false, ih hh]
    rw [this l hf.2]
    exact h.ents

theorem EntsI.nil (clk : Nat) : EntsI #[] clk [] := ⟨trivial, fun _ h => by simp at h, by simp⟩

end Go.Proofs.YtfapgccnhonoiaaGreat

/- The framework, part 27: a range over a map that is not changed meanwhile. -/
namespace Go.Proofs.YtfapgccnhonoiaaGreat

/-- A range over a map, ds gone through. -/
structure IterR (h : Heap) (it mb : Nat) (es : Array MapEntry) (clk : Nat) (told : Array Nat) (hi : Nat) (ds : List MapEntry) : Prop where
  iter : h[it]? = some (.mapIter (some mb) clk told hi)
  told : told.toList = ds.map (·.born)
  map : h[mb]? = some (.map es clk)
  sub : ∀ x ∈ ds, x ∈ es.toList
  nodup : (ds.map (·.born)).Nodup
  hi : hi = clk

theorem IterR.start {h : Heap} {mb : Nat} {es : Array MapEntry} {clk : Nat} (hm : h[mb]? = some (.map es clk)) : IterR (h.push (.mapIter (some mb) clk ⟨[]⟩ clk)) h.size mb es clk ⟨[]⟩ clk [] := by
  have hlt := (Array.getElem?_eq_some_iff.1 hm).1
  refine ⟨by simp, rfl, ?_, by simp, by simp, rfl⟩
  rw [Array.getElem?_push, if_neg (by omega), hm]

theorem IterR.keep {h h' : Heap} {F : List Nat} {it mb : Nat} {es : Array MapEntry} {clk hi : Nat} {told : Array Nat} {ds : List MapEntry} (r : IterR h it mb es clk told hi ds) (k : Keep h h' F) (h1 : it ∉ F) (h2 : mb ∉ F) :
    IterR h' it mb es clk told hi ds :=
  ⟨by rw [k.same _ (Array.getElem?_eq_some_iff.1 r.iter).1 h1, r.iter], r.told, by rw [k.same _ (Array.getElem?_eq_some_iff.1 r.map).1 h2, r.map], r.sub, r.nodup, r.hi⟩

theorem IterR.step {h : Heap} {it mb : Nat} {es : Array MapEntry} {clk hi : Nat} {told : Array Nat} {ds : List MapEntry} (r : IterR h it mb es clk told hi ds) (hne : it ≠ mb) {x : MapEntry} (hx : x ∈ es.toList) (hn : told.contains x.born = false) :
    IterR (h.setIfInBounds it (.mapIter (some mb) clk (told.push x.born) clk)) it mb es clk (told.push x.born) clk (ds ++ [x]) := by
  have hlt := (Array.getElem?_eq_some_iff.1 r.iter).1
  refine ⟨by rw [Array.getElem?_setIfInBounds_self_of_lt hlt], by simp [r.told], by rw [Array.getElem?_setIfInBounds_ne hne, r.map], fun y hy => ?_, ?_, rfl⟩
  · rcases List.mem_append.1 hy with h | h
    · exact r.sub y h
    · simp only [List.mem_singleton] at h; rw [h]; exact hx
  · simp only [List.map_append, List.map_cons, List.map_nil]
    refine List.nodup_append.2 ⟨r.nodup, by simp, fun a ha b hb => ?_⟩
    simp only [List.mem_singleton] at hb
    rw [hb]
    intro e
    rw [← r.told, e] at ha
    have : told.contains x.born = true := by
      rw [Array.contains_iff_mem]
      exact Array.mem_toList_iff.1 ha
    rw [hn] at this
    cases this

theorem EntsI.uniq {es : Array MapEntry} {clk : Nat} {l : AL} (e : EntsI es clk l) {x y : MapEntry} (hx : x ∈ es.toList) (hy : y ∈ es.toList) (hb : x.born = y.born) : x = y := by
  have : ∀ (l : List MapEntry), (l.map (·.born)).Nodup → ∀ x ∈ l, ∀ y ∈ l, x.born = y.born → x = y := by
    intro l
    induction l with
    | nil => intro _ x hx; cases hx
    | cons a r ih =>
      intro hn x hx y hy hxy
      simp only [List.map_cons, List.nodup_cons] at hn
      rcases List.mem_cons.1 hx with hx | hx <;> rcases List.mem_cons.1 hy with hy | hy
      · rw [hx, hy]
      · exact absurd (List.mem_map.2 ⟨y, hy, by rw [← hxy, hx]⟩) hn.1
      · exact absurd (List.mem_map.2 ⟨x, hx, by rw [hxy, hy]⟩) hn.1
      · exact ih hn.2 x hx y hy hxy
  exact this _ e.apart x hx y hy hb

/-- The entry of a step is found again. -/
theorem EntsI.found {es : Array MapEntry} {clk : Nat} {l : AL} (e : EntsI es clk l) {x : MapEntry} (hx : x ∈ es.toList) : es.find? (fun y => y.born == x.born) = some x := by
  cases hf : es.find? (fun y => y.born == x.born) with
  | none =>
    have := Array.find?_eq_none.1 hf x (Array.mem_toList_iff.1 hx)
    simp at this
  | some y =>
    have h1 := Array.find?_some hf
    have h2 := Array.mem_of_find?_eq_some hf
    rw [e.uniq (Array.mem_toList_iff.2 h2) hx (by simpa using h1)]

/-- At the end all have been gone through. -/
theorem IterR.all {h : Heap} {it mb : Nat} {es : Array MapEntry} {clk hi : Nat} {told : Array Nat} {ds : List MapEntry} {l : AL} (r : IterR h it mb es clk told hi ds) (e : EntsI es clk l)
    (hf : ∀ x, x ∈ es.toList → told.contains x.born = false → clk ≤ x.born) : ∀ x ∈ es.toList, x ∈ ds := by
  intro x hx
  cases hc : told.contains x.born with
  | false => have := hf x hx hc; have := e.old x hx; omega
  | true =>
    rw [Array.contains_iff_mem, ← Array.mem_toList_iff, r.told] at hc
    obtain ⟨y, hy, hxy⟩ := List.mem_map.1 hc
    rw [← e.uniq (r.sub y hy) hx hxy]
    exact hy

theorem nodup_le : ∀ (l m : List Nat), l.Nodup → (∀ x ∈ l, x ∈ m) → l.length ≤ m.length
  | [], m, _, _ => by simp
  | x :: r, m, hn, hs => by
    simp only [List.nodup_cons] at hn
    have hx := hs x (by simp)
    have := nodup_le r (m.erase x) hn.2 fun y hy => (List.mem_erase_of_ne (fun (e : y = x) => hn.1 (e ▸ hy))).2 (hs y (by simp [hy]))
    rw [List.length_erase_of_mem hx] at this
    have : 0 < m.length := List.length_pos_of_mem hx
    simp only [List.length_cons]
    omega

theorem IterR.few {h : Heap} {it mb : Nat} {es : Array MapEntry} {clk hi : Nat} {told : Array Nat} {ds : List MapEntry} (r : IterR h it mb es clk told hi ds) : ds.length ≤ es.size := by
  have := nodup_le (ds.map (·.born)) (es.toList.map (·.born)) r.nodup fun b hb => by
    obtain ⟨x, hx, rfl⟩ := List.mem_map.1 hb
    exact List.mem_map.2 ⟨x, r.sub x hx, rfl⟩
  simpa using this

theorem IterR.some {h : Heap} {it mb : Nat} {es : Array MapEntry} {clk hi : Nat} {told : Array Nat} {ds : List MapEntry} {l : AL} (r : IterR h it mb es clk told hi ds) (e : EntsI es clk l) :
    told.isEmpty = true ∨ es.isEmpty = true ∨ ∃ x, x ∈ es.toList ∧ x.born < hi := by
  by_cases he : es.size = 0
  · exact .inr (.inl (by simp [Array.isEmpty, he]))
  · have : 0 < es.size := by omega
    refine .inr (.inr ⟨es[0], by simp, ?_⟩)
    rw [r.hi]
    exact e.old _ (by simp)

theorem entsOf_mem : ∀ (es : List MapEntry) (l : AL), entsOf es l → ∀ x ∈ es, ∃ k, x.key = .int .i64 k ∧ (k, x.val) ∈ l
  | [], [], _, x, hx => by cases hx
  | [], _ :: _, h, _, _ => h.elim
  | _ :: _, [], h, _, _ => h.elim
  | e :: r, y :: s, h, x, hx => by
    rcases List.mem_cons.1 hx with rfl | hx
    · exact ⟨y.1, h.1, by rw [h.2.1]; exact List.mem_cons_self⟩
    · obtain ⟨k, h1, h2⟩ := entsOf_mem r s h.2.2 x hx
      exact ⟨k, h1, List.mem_cons_of_mem _ h2⟩

theorem entsOf_mem' : ∀ (es : List MapEntry) (l : AL), entsOf es l → ∀ y ∈ l, ∃ x ∈ es, x.key = .int .i64 y.1 ∧ x.val = y.2
  | [], [], _, x, hx => by cases hx
  | [], _ :: _, h, _, _ => h.elim
  | _ :: _, [], h, _, _ => h.elim
  | e :: r, z :: s, h, y, hy => by
    rcases List.mem_cons.1 hy with rfl | hy
    · exact ⟨e, List.mem_cons_self, h.1, h.2.1⟩
    · obtain ⟨x, hx, h1, h2⟩ := entsOf_mem' r s h.2.2 y hy
      exact ⟨x, List.mem_cons_of_mem _ hx, h1, h2⟩

end Go.Proofs.YtfapgccnhonoiaaGreat

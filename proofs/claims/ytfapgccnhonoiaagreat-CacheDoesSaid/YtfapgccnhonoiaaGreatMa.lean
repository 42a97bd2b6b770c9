/- A framework of verification conditions for the model's programs: weakest preconditions over heaps, and their soundness; no condition. First half. -/
import Derived.CallsIn
import Derived.RangeFuncRecord
import Derived.RangeFuncCalls
import Derived.RangeFuncLeaves
import Derived.Orders
import Derived.KernelRfl
import Derived.Laws.Sem

/- The framework, part 1: weakest preconditions over heaps alone: of the model's terms (Sem), of operations, of code; calls. Nothing here speaks of one program. -/
namespace Go.Proofs.YtfapgccnhonoiaaGreat

abbrev Heap := Array Obj

def cellAt (h : Heap) (a : Addr) : Option Value :=
  match h[a.block]? with
  | some (.cells c _ _) => if a.spot.isSome then none else c[a.off]?
  | _ => none

def frozenAt (h : Heap) (a : Addr) : Bool :=
  match h[a.block]? with
  | some (.cells _ _ (lo, hi)) => lo ≤ a.off && a.off < hi
  | _ => false

def shapeAt (h : Heap) (r : Nat) : Option (TypeId × Nat) :=
  match h[r]? with
  | some (.cells c elem _) => some (elem, c.size)
  | _ => none

def upd (h : Heap) (a : Addr) (v : Value) : Heap :=
  h.modify a.block fun
      | .cells c elem frozen => .cells (if a.spot.isSome then c else c.setIfInBounds a.off v) elem frozen
      | o => o

def freezeAt (h : Heap) (a : Addr) (n : Nat) : Heap :=
  if n = 0 then h else
  h.modify a.block fun
      | .cells c elem (lo, hi) => .cells c elem (if lo == hi then (a.off, a.off + n) else (min lo a.off, max hi (a.off + n)))
      | o => o

def isCell : Value → Bool
  | .agg _ => false
  | .tuple _ => false
  | _ => true

/-- The weakest precondition of a term of the model, over heaps: whatever the tape answers. No way out by a halt. -/
def semH {α : Type} (P : Program) : Sem α → (α → Heap → Prop) → Heap → Prop
  | .pure a, K, h => K a h
  | .load _ a k, K, h => ∃ v, cellAt h a = some v ∧ semH P (k v) K h
  | .store _ a v k, K, h => isCell v = true ∧ (∃ u, cellAt h a = some u) ∧ frozenAt h a = false ∧ semH P k K (upd h a v)
  | .new o k, K, h => semH P (k h.size) K (h.push o)
  | .shape r k, K, h => semH P (k (shapeAt h r)) K h
  | .freeze a n k, K, h => semH P k K (freezeAt h a n)
  | .frozen a k, K, h => semH P (k (frozenAt h a)) K h
  | .getObj r k, K, h => ∃ o, h[r]? = some o ∧ (∀ c e f, o ≠ .cells c e f) ∧ semH P (k o) K h
  | .setObj r o k, K, h => (∃ o', h[r]? = some o' ∧ ∀ c e f, o' ≠ .cells c e f) ∧ semH P k K (h.setIfInBounds r o)
  | .choose q k, K, h => if q.forced then semH P (k 0) K h else ∀ t, semH P (k (q.cut t)) K h
  | .sys _ _, _, _ => False
  | .program k, K, h => semH P (k P) K h
  | .mark _ k, K, h => semH P k K h
  | .halt _, _, _ => False

/-- The streams and the tape are as they were. -/
structure Sm (w w' : World) : Prop where
  os : w'.os = w.os
  tape : w'.tape = w.tape
  output : w'.output = w.output

theorem Sm.refl (w : World) : Sm w w := ⟨rfl, rfl, rfl⟩
theorem Sm.trans {a b c : World} (h : Sm a b) (k : Sm b c) : Sm a c := ⟨k.os.trans h.os, k.tape.trans h.tape, k.output.trans h.output⟩

theorem semH_run {α : Type} {P : Program} (s : Sem α) : ∀ (K : α → Heap → Prop) (w : World), semH P s K w.heap →
    ∃ a w', s.run P w = .ok a w' ∧ Sm w w' ∧ K a w'.heap := by
  induction s with
  | pure a => exact fun K w h => ⟨a, w, rfl, Sm.refl w, h⟩
  | load m a k ih =>
    intro K w h
    obtain ⟨v, hv, h⟩ := h
    obtain ⟨r, w', hr, hs, hk⟩ := ih v K w h
    refine ⟨r, w', ?_, hs, hk⟩
    have : w.cell? a = some v := hv
    simp only [Sem.run, this]; exact hr
  | store m a v k ih =>
    intro K w h
    obtain ⟨hc, ⟨u, hu⟩, hf, h⟩ := h
    obtain ⟨r, w', hr, hs, hk⟩ := ih K (w.setCell a v) h
    refine ⟨r, w', ?_, ⟨hs.os, hs.tape, hs.output⟩, hk⟩
    have h1 : w.cell? a = some u := hu
    have h2 : w.frozen? a = false := hf
    cases v <;> first | (simp only [isCell] at hc; cases hc; done) | (simp only [Sem.run, h1, h2, Bool.false_eq_true, if_false]; exact hr)
  | new o k ih =>
    intro K w h
    obtain ⟨r, w', hr, hs, hk⟩ := ih w.heap.size K { w with heap := w.heap.push o } h
    exact ⟨r, w', by simp only [Sem.run]; exact hr, ⟨hs.os, hs.tape, hs.output⟩, hk⟩
  | shape b k ih =>
    intro K w h
    obtain ⟨r, w', hr, hs, hk⟩ := ih _ K w h
    exact ⟨r, w', by simp only [Sem.run]; exact hr, hs, hk⟩
  | freeze a n k ih =>
    intro K w h
    obtain ⟨r, w', hr, hs, hk⟩ := ih K (w.freeze a n) (by
      have e : (w.freeze a n).heap = freezeAt w.heap a n := by unfold World.freeze freezeAt; split <;> rfl
      rw [e]; exact h)
    refine ⟨r, w', by simp only [Sem.run]; exact hr, ?_, hk⟩
    have e : Sm w (w.freeze a n) := by unfold World.freeze; split <;> exact ⟨rfl, rfl, rfl⟩
    exact e.trans hs
  | frozen a k ih =>
    intro K w h
    obtain ⟨r, w', hr, hs, hk⟩ := ih _ K w h
    exact ⟨r, w', by simp only [Sem.run]; exact hr, hs, hk⟩
  | getObj b k ih =>
    intro K w h
    obtain ⟨o, ho, hn, h⟩ := h
    obtain ⟨r, w', hr, hs, hk⟩ := ih o K w h
    refine ⟨r, w', ?_, hs, hk⟩
    cases o <;> first | (exact absurd rfl (hn _ _ _)) | (simp only [Sem.run, ho]; exact hr)
  | setObj b o k ih =>
    intro K w h
    obtain ⟨⟨o', ho, hn⟩, h⟩ := h
    obtain ⟨r, w', hr, hs, hk⟩ := ih K { w with heap := w.heap.setIfInBounds b o } h
    refine ⟨r, w', ?_, ⟨hs.os, hs.tape, hs.output⟩, hk⟩
    cases o' <;> first | (exact absurd rfl (hn _ _ _)) | (simp only [Sem.run, ho]; exact hr)
  | choose q k ih =>
    intro K w h
    simp only [semH] at h
    by_cases hq : q.forced = true
    · rw [if_pos hq] at h
      obtain ⟨r, w', hr, hs, hk⟩ := ih 0 K w h
      exact ⟨r, w', by simp only [Sem.run, hq, if_true]; exact hr, hs, hk⟩
    · rw [if_neg hq] at h
      obtain ⟨r, w', hr, hs, hk⟩ := ih _ K { w with drawn := w.drawn + 1 } (h (w.tape w.drawn q))
      exact ⟨r, w', by simp only [Sem.run, hq, if_false, Bool.false_eq_true]; exact hr, ⟨hs.os, hs.tape, hs.output⟩, hk⟩
  | sys c k ih => intro K w h; exact h.elim
  | program k ih =>
    intro K w h
    obtain ⟨r, w', hr, hs, hk⟩ := ih P K w h
    exact ⟨r, w', by simp only [Sem.run]; exact hr, hs, hk⟩
  | mark m k ih =>
    intro K w h
    obtain ⟨r, w', hr, hs, hk⟩ := ih K w h
    exact ⟨r, w', by simp only [Sem.run]; exact hr, hs, hk⟩
  | halt x => intro K w h; exact h.elim

theorem semH_mono {α : Type} {P : Program} (s : Sem α) : ∀ {K K' : α → Heap → Prop} {h : Heap}, (∀ a h, K a h → K' a h) → semH P s K h → semH P s K' h := by
  induction s with
  | pure a => exact fun hk h => hk _ _ h
  | load m a k ih => exact fun hk ⟨v, hv, h⟩ => ⟨v, hv, ih v hk h⟩
  | store m a v k ih => exact fun hk ⟨a, b, c, h⟩ => ⟨a, b, c, ih hk h⟩
  | new o k ih => exact fun hk h => ih _ hk h
  | shape b k ih => exact fun hk h => ih _ hk h
  | freeze a n k ih => exact fun hk h => ih hk h
  | frozen a k ih => exact fun hk h => ih _ hk h
  | getObj b k ih => exact fun hk ⟨o, h1, h2, h⟩ => ⟨o, h1, h2, ih o hk h⟩
  | setObj b o k ih => exact fun hk ⟨h1, h⟩ => ⟨h1, ih hk h⟩
  | choose q k ih =>
    intro K K' h hk hh
    simp only [semH] at hh ⊢
    split
    · rename_i hq; rw [if_pos hq] at hh; exact ih 0 hk hh
    · rename_i hq; rw [if_neg hq] at hh; exact fun t => ih _ hk (hh t)
  | sys c k ih => exact fun _ h => h.elim
  | program k ih => exact fun hk h => ih P hk h
  | mark m k ih => exact fun hk h => ih hk h
  | halt x => exact fun _ h => h.elim

theorem semH_bind {α β : Type} {P : Program} (s : Sem α) (f : α → Sem β) : ∀ (K : β → Heap → Prop) (h : Heap),
    semH P (s.bind f) K h ↔ semH P s (fun a h' => semH P (f a) K h') h := by
  induction s with
  | pure a => exact fun K h => Iff.rfl
  | load m a k ih => exact fun K h => exists_congr fun v => and_congr_right fun _ => ih v K h
  | store m a v k ih => exact fun K h => and_congr_right fun _ => and_congr_right fun _ => and_congr_right fun _ => ih K _
  | new o k ih => exact fun K h => ih _ K _
  | shape b k ih => exact fun K h => ih _ K _
  | freeze a n k ih => exact fun K h => ih K _
  | frozen a k ih => exact fun K h => ih _ K _
  | getObj b k ih => exact fun K h => exists_congr fun v => and_congr_right fun _ => and_congr_right fun _ => ih v K h
  | setObj b o k ih => exact fun K h => and_congr_right fun _ => ih K _
  | choose q k ih =>
    intro K h
    simp only [Sem.bind, semH]
    split
    · exact ih 0 K h
    · exact forall_congr' fun t => ih _ K h
  | sys c k ih => exact fun K h => Iff.rfl
  | program k ih => exact fun K h => ih P K h
  | mark m k ih => exact fun K h => ih K h
  | halt x => exact fun K h => Iff.rfl

theorem semH_bind' {α β : Type} {P : Program} (s : Sem α) (f : α → Sem β) (K : β → Heap → Prop) (h : Heap) :
    semH P (s >>= f) K h ↔ semH P s (fun a h' => semH P (f a) K h') h := semH_bind s f K h

theorem semH_pure {α : Type} {P : Program} (a : α) (K : α → Heap → Prop) (h : Heap) : semH P (pure a : Sem α) K h ↔ K a h := Iff.rfl

/-! ### Calls -/

/-- A round's frame or none: the fence that lets all in. -/
def fw (ro : Option Nat) : Fence := { Fence.wide with round := ro }

/-- A call of function f at these arguments, in whatever world that has this heap, returns, and what it hands back and the heap that it leaves meet R. -/
def CallH (P : Program) (f : FuncId) (args : Array Value) (h : Heap) (R : Value → Heap → Prop) : Prop :=
  ∀ w : World, w.heap = h → CallsIn (fw none) 0 P f args w fun e w' => ∃ v, e = .returned v ∧ Sm w w' ∧ R v w'.heap

theorem CallH.mono {P : Program} {f : FuncId} {args : Array Value} {h : Heap} {R R' : Value → Heap → Prop} (hc : CallH P f args h R)
    (hr : ∀ v h', R v h' → R' v h') : CallH P f args h R' :=
  fun w hw => (hc w hw).mono fun _ _ ⟨v, he, hs, hR⟩ => ⟨v, he, hs, hr _ _ hR⟩

/-- A round of a range-over-func loop, likewise. -/
def RoundH (P : Program) (l : Nat) (f : FuncId) (tmps : Array Value) (assign body : Code) (h : Heap) (R : Value → Heap → Prop) : Prop :=
  ∀ w : World, w.heap = h → RoundIn (fw none) 0 P l f tmps assign body w fun e w' => ∃ v, e = .returned v ∧ Sm w w' ∧ R v w'.heap

theorem RoundH.mono {P : Program} {l : Nat} {f : FuncId} {tmps : Array Value} {assign body : Code} {h : Heap} {R R' : Value → Heap → Prop} (hc : RoundH P l f tmps assign body h R)
    (hr : ∀ v h', R v h' → R' v h') : RoundH P l f tmps assign body h R' :=
  fun w hw => (hc w hw).mono fun _ _ ⟨v, he, hs, hR⟩ => ⟨v, he, hs, hr _ _ hR⟩

/-- What an operation's term is asked for. -/
def nextH (P : Program) (K : Value → Heap → Prop) : Next → Heap → Prop
  | .value v, h => K v h
  | .skip, h => K undef h
  | .enter f args, h => CallH P f args h K
  | .round l f tmps assign body, h => RoundH P l f tmps assign body h K
  | _, _ => False

theorem nextH_mono {P : Program} {K K' : Value → Heap → Prop} (hk : ∀ v h, K v h → K' v h) (n : Next) (h : Heap) (hn : nextH P K n h) : nextH P K' n h := by
  cases n <;> first | exact hk _ _ hn | exact CallH.mono hn hk | exact RoundH.mono hn hk | exact hn.elim

/-- One operation, its operands' values by ρ. -/
def operH (P : Program) (ρ : Operand → Value) (o : Oper) (K : Value → Heap → Prop) (h : Heap) : Prop :=
  (∀ c, o.op ≠ .defer c) ∧ semH P (execOp ρ o) (nextH P K) h

theorem operH_mono {P : Program} {ρ : Operand → Value} {o : Oper} {K K' : Value → Heap → Prop} {h : Heap} (hk : ∀ v h, K v h → K' v h) (hh : operH P ρ o K h) : operH P ρ o K' h :=
  ⟨hh.1, semH_mono _ (fun n h hn => nextH_mono hk n h hn) hh.2⟩

/-- The world's way out of a heap's. -/
def lift (w : World) (Q : Exit → Act → Heap → Prop) (e : Exit) (a : Act) (w' : World) : Prop := Sm w w' ∧ Q e a w'.heap

theorem oper_wpIn {P : Program} {ro : Option Nat} {o : Oper} {a : Act} {w w0 : World} {K : Act → World → Prop} {Q : Exit → Act → World → Prop} {K' : Value → Heap → Prop}
    (h0 : Sm w0 w) (h : operH P a.eval o K' w.heap) (hk : ∀ v w', Sm w0 w' → K' v w'.heap → K (a.put o.dst v) w') : o.wpIn (fw ro) 0 P a w K Q := by
  refine ⟨fun _ _ => trivial, ?_⟩
  rw [Oper.semAt_eq _ _ _ h.1]
  obtain ⟨n, w', hr, hs, hn⟩ := semH_run _ _ w h.2
  rw [hr]
  have hs0 := h0.trans hs
  cases n with
  | value v => exact hk v w' hs0 hn
  | skip => exact hk _ w' hs0 hn
  | enter f args =>
    refine ⟨fun hd => by simp [fw, Fence.wide] at hd, ?_⟩
    refine CallsIn.mono (F := fw ro) (n := 0) (h := hn w' rfl) fun e w'' hx => ?_
    obtain ⟨v, rfl, hs', hR⟩ := hx
    exact hk v w'' (hs0.trans hs') hR
  | round l f tmps assign body =>
    refine ⟨fun hd => by simp [fw, Fence.wide] at hd, ?_⟩
    refine RoundIn.mono (F := fw ro) (n := 0) (h := hn w' rfl) fun e w'' hx => ?_
    obtain ⟨v, rfl, hs', hR⟩ := hx
    exact hk v w'' (hs0.trans hs') hR
  | _ => exact hn.elim

/-! ### Code -/

/-- Code, over heaps. -/
def codeH (P : Program) (ro : Option Nat) (c : Code) (Q : Exit → Act → Heap → Prop) (a : Act) (h : Heap) : Prop :=
  ∀ w : World, w.heap = h → c.wpIn (fw ro) 0 P (lift w Q) a w

section
variable {P : Program} {ro : Option Nat} {Q Q' : Exit → Act → Heap → Prop} {a : Act} {h : Heap}

theorem codeH_mono {c : Code} (hq : ∀ e a h, Q e a h → Q' e a h) (hc : codeH P ro c Q a h) : codeH P ro c Q' a h :=
  fun w hw => wpIn_mono (hc w hw) fun _ _ _ ⟨h1, h2⟩ => ⟨h1, hq _ _ _ h2⟩

theorem codeH_skip (hq : Q .normal a h) : codeH P ro .skip Q a h := fun w hw => wpIn_skip ⟨Sm.refl w, hw ▸ hq⟩
theorem codeH_label {l : Nat} (hq : Q .normal a h) : codeH P ro (.label l) Q a h := fun w hw => wpIn_label ⟨Sm.refl w, hw ▸ hq⟩
theorem codeH_exit {id : Nat} (hq : Q (.exit id) a h) : codeH P ro (.exit id) Q a h := fun w hw => wpIn_exit ⟨Sm.refl w, hw ▸ hq⟩
theorem codeH_goto {l : Nat} (hq : Q (.goto l) a h) : codeH P ro (.goto l) Q a h := fun w hw => wpIn_goto ⟨Sm.refl w, hw ▸ hq⟩
theorem codeH_ret (hq : Q .ret a h) : codeH P ro .ret Q a h := fun w hw => wpIn_ret ⟨Sm.refl w, hw ▸ hq⟩

/-- After the normal end: on with K. -/
def andThen (K : Act → Heap → Prop) (Q : Exit → Act → Heap → Prop) : Exit → Act → Heap → Prop
  | .normal, a, h => K a h
  | e, a, h => Q e a h

theorem codeH_seq {x y : Code} (hc : codeH P ro x (andThen (codeH P ro y Q) Q) a h) : codeH P ro (.seq x y) Q a h := by
  intro w hw
  refine wpIn_seq (wpIn_mono (hc w hw) fun e a' w' hx => ?_)
  obtain ⟨h1, h2⟩ := hx
  cases e with
  | normal => exact wpIn_mono (h2 w' rfl) fun _ _ _ ⟨k1, k2⟩ => ⟨h1.trans k1, k2⟩
  | _ => exact ⟨h1, h2⟩

theorem codeH_cond {c : Operand} {x y : Code} {t : Bool} (hc : a.eval c = .bool t) (h1 : t = true → codeH P ro x Q a h) (h2 : t = false → codeH P ro y Q a h) :
    codeH P ro (.cond c x y) Q a h :=
  fun w hw => wpIn_cond_split hc (fun ht => h1 ht w hw) (fun ht => h2 ht w hw)

/-- Out of a block. -/
def outBlock (id : Nat) (Q : Exit → Act → Heap → Prop) : Exit → Act → Heap → Prop
  | .exit id', a, h => if id' = id then Q .normal a h else Q (.exit id') a h
  | e, a, h => Q e a h

theorem codeH_block {id : Nat} {c : Code} (hc : codeH P ro c (outBlock id Q) a h) : codeH P ro (.block id c) Q a h := by
  intro w hw
  refine wpIn_block (wpIn_mono (hc w hw) fun e a' w' hx => ?_)
  obtain ⟨h1, h2⟩ := hx
  cases e with
  | exit id' =>
    simp only [outBlock] at h2
    simp only [Exit.inBlock]
    split
    · rename_i hi; rw [if_pos hi] at h2; exact ⟨h1, h2⟩
    · rename_i hi; rw [if_neg hi] at h2; exact ⟨h1, h2⟩
  | _ => exact ⟨h1, h2⟩

theorem codeH_loop {c : Code} (I : Act → Heap → Prop) (μ : Act → Heap → Nat) (h₀ : I a h)
    (round : ∀ a h, I a h → codeH P ro c (andThen (fun a' h' => I a' h' ∧ μ a' h' < μ a h) Q) a h) : codeH P ro (.loop c) Q a h := by
  intro w hw
  refine wpIn_loop (fun a' w' => Sm w w' ∧ I a' w'.heap) (fun a' w' => μ a' w'.heap) ⟨Sm.refl w, hw ▸ h₀⟩ ?_
  rintro a1 w1 ⟨hs, hI⟩
  refine wpIn_mono (round a1 w1.heap hI w1 rfl) fun e a' w' hx => ?_
  obtain ⟨h1, h2⟩ := hx
  cases e with
  | normal => exact ⟨⟨hs.trans h1, h2.1⟩, h2.2⟩
  | _ => exact ⟨hs.trans h1, h2⟩

/-! ### Regions -/

/-- The operations of a region in the text's order. -/
def opsH (P : Program) (ops : Array Oper) (Q : Act → Heap → Prop) : List Oper → Act → Heap → Prop
  | [], a, h => Q a h
  | o :: rest, a, h =>
    if Region.wanted o (yielded ops a.tmps) = true then operH P a.eval o (fun v h' => opsH P ops Q rest (a.put o.dst v) h') h
    else opsH P ops Q rest (a.put o.dst undef) h

theorem opsH_wpOpsIn {ops : Array Oper} {Qw : Exit → Act → World → Prop} {QH : Act → Heap → Prop} {w0 : World} (hQ : ∀ a w, Sm w0 w → QH a w.heap → Qw .normal a w) : ∀ (l : List Oper) (k : Nat) (_ : ∀ j, l[j]? = ops[k + j]?) (a : Act) (w : World), Sm w0 w →
    opsH P ops QH l a w.heap → wpOpsIn (fw ro) 0 P ops Qw (List.range' k l.length) a w
  | [], k, _, a, w, hs, hh => by simpa [wpOpsIn] using hQ a w hs hh
  | o :: l, k, hl, a, w, hs, hh => by
    have h0 : ops[k]? = some o := by simpa using (hl 0).symm
    have hl' : ∀ j, l[j]? = ops[k + 1 + j]? := fun j => by have := hl (j + 1); simpa [Nat.add_assoc, Nat.add_comm 1 j] using this
    simp only [List.length_cons, List.range'_succ, wpOpsIn, h0]
    simp only [opsH] at hh
    split
    · rename_i hw
      rw [if_pos hw] at hh
      exact oper_wpIn hs hh fun v w' hs' hK => opsH_wpOpsIn hQ l (k + 1) hl' _ w' hs' hK
    · rename_i hw
      rw [if_neg hw] at hh
      exact ⟨fun _ _ => trivial, opsH_wpOpsIn hQ l (k + 1) hl' _ w hs hh⟩

theorem codeH_region {id : Nat} {ops : Array Oper} (hc : opsH P ops (Q .normal) ops.toList a h) : codeH P ro (.region id ops false) Q a h := by
  intro w hw
  refine wpIn_region ?_
  have := opsH_wpOpsIn (P := P) (ro := ro) (ops := ops) (Qw := lift w Q) (QH := Q .normal) (w0 := w) (fun _ _ h1 h2 => ⟨h1, h2⟩) ops.toList 0 (by simp) a w (Sm.refl w) (hw ▸ hc)
  simpa [List.range_eq_range'] using this

end
end Go.Proofs.YtfapgccnhonoiaaGreat

/- The framework, part 2: a region that draws its order: one walk of one order serves every order. -/
namespace Go.Proofs.YtfapgccnhonoiaaGreat

section
variable {P : Program} {ops : Array Oper} {Q : Act → Heap → Prop}

/-- Operation number i comes up. -/
def stepH (P : Program) (ops : Array Oper) (i : Nat) (K : Act → Heap → Prop) (a : Act) (h : Heap) : Prop :=
  match ops[i]? with
  | none => K a h
  | some o => if Region.wanted o (yielded ops a.tmps) = true then operH P a.eval o (fun v h' => K (a.put o.dst v) h') h else K (a.put o.dst undef) h

theorem stepH_mono {i : Nat} {K K' : Act → Heap → Prop} {a : Act} {h : Heap} (hk : ∀ a h, K a h → K' a h) (hh : stepH P ops i K a h) : stepH P ops i K' a h := by
  unfold stepH at *
  split
  · rename_i ho; simp only [ho] at hh; exact hk _ _ hh
  · rename_i o ho
    simp only [ho] at hh
    split
    · rename_i hw; rw [if_pos hw] at hh; exact operH_mono (fun v h' => hk _ _) hh
    · rename_i hw; rw [if_neg hw] at hh; exact hk _ _ hh

/-- Whatever order is picked from here on; 'st': what is asked, beside, of the heap behind each operation. -/
def anyH (P : Program) (ops : Array Oper) (Q : Act → Heap → Prop) : Nat → (Nat → Heap → Heap → Prop) → Array Bool → Act → Heap → Prop
  | 0, _, listed, a, h => Region.ready .any ops listed = [] ∧ Q a h
  | fuel + 1, st, listed, a, h =>
    (Region.ready .any ops listed = [] → Q a h) ∧
    ∀ i ∈ Region.ready .any ops listed, stepH P ops i (fun a' h' => st i h h' ∧ anyH P ops Q fuel st (listed.setIfInBounds i true) a' h') a h

theorem anyH_weak {fuel : Nat} {st st' : Nat → Heap → Heap → Prop} (hst : ∀ j h h', st j h h' → st' j h h') {listed : Array Bool} {a : Act} {h : Heap}
    (hx : anyH P ops Q fuel st listed a h) : anyH P ops Q fuel st' listed a h := by
  induction fuel generalizing listed a h with
  | zero => exact hx
  | succ f ih => exact ⟨hx.1, fun k hk => stepH_mono (fun a' h' hy => ⟨hst _ _ _ hy.1, ih hy.2⟩) (hx.2 k hk)⟩

theorem anyH_sound {ro : Option Nat} {Qw : Exit → Act → World → Prop} {w0 : World} (hQ : ∀ a w, Sm w0 w → Q a w.heap → Qw .normal a w) :
    ∀ (fuel t : Nat) (st : Nat → Heap → Heap → Prop) (listed : Array Bool) (a : Act) (w : World), Sm w0 w → anyH P ops Q fuel st listed a w.heap →
      wpOpsIn (fw ro) 0 P ops Qw (Region.linearise.go .any ops fuel t listed []) a w := by
  intro fuel
  induction fuel with
  | zero => intro t st listed a w hs hh; simpa [Region.linearise.go, wpOpsIn] using hQ a w hs hh.2
  | succ fuel ih =>
    intro t st listed a w hs hh
    obtain ⟨h₀, h₁⟩ := hh
    simp only [Region.linearise.go]
    change wpOpsIn (fw ro) 0 P ops Qw (match (Region.ready .any ops listed)[t % (Region.ready .any ops listed).length]? with
      | some i => Region.linearise.go .any ops fuel (t / (Region.ready .any ops listed).length) (listed.setIfInBounds i true) [i]
      | none => [].reverse) a w
    cases hi : (Region.ready .any ops listed)[t % (Region.ready .any ops listed).length]? with
    | none =>
      have hnil : Region.ready .any ops listed = [] := by
        cases hr : Region.ready .any ops listed with
        | nil => rfl
        | cons x xs =>
          rw [hr] at hi
          have hlt : t % (x :: xs).length < (x :: xs).length := Nat.mod_lt _ (by simp)
          simp at hi
          simp at hlt
          omega
      simpa [wpOpsIn] using hQ a w hs (h₀ hnil)
    | some i =>
      simp only []
      rw [linearise_go_acc, List.reverse_singleton, List.singleton_append]
      have h2 := h₁ i (List.mem_of_getElem? hi)
      unfold stepH at h2
      cases ho : ops[i]? with
      | none =>
        simp only [ho] at h2
        simp only [wpOpsIn, ho]
        exact ih _ _ _ _ _ hs h2.2
      | some o =>
        simp only [ho] at h2
        simp only [wpOpsIn, ho]
        split
        · rename_i hw
          rw [if_pos hw] at h2
          exact oper_wpIn hs h2 fun v w' hs' hK => ih _ _ _ _ w' hs' hK.2
        · rename_i hw
          rw [if_neg hw] at h2
          exact ⟨fun _ _ => trivial, ih _ _ _ _ w hs h2.2⟩

/-- The operation leaves v in its temporary, and the heap as it is. -/
def yieldsH (P : Program) (ops : Array Oper) (o : Oper) (v : Value) (a : Act) (h : Heap) : Prop :=
  (Region.wanted o (yielded ops a.tmps) = true ∧ operH P a.eval o (fun u h' => u = v ∧ h' = h) h) ∨
  (Region.wanted o (yielded ops a.tmps) = false ∧ v = undef)

theorem yieldsH.stepH {i : Nat} {o : Oper} {v : Value} {a : Act} {h : Heap} (hi : ops[i]? = some o) (hy : yieldsH P ops o v a h) {K : Act → Heap → Prop} (hk : K (a.put o.dst v) h) : stepH P ops i K a h := by
  unfold Go.Proofs.YtfapgccnhonoiaaGreat.stepH
  simp only [hi]
  rcases hy with ⟨hw, hv⟩ | ⟨hw, rfl⟩
  · rw [if_pos hw]; exact operH_mono (fun u h' ⟨e1, e2⟩ => by subst e1; subst e2; exact hk) hv
  · rw [if_neg (by rw [hw]; simp)]; exact hk

theorem yieldsH.of_same {o : Oper} {v : Value} {a a' : Act} {h : Heap} (hy : yieldsH P ops o v a h) (he : execOp a'.eval o = execOp a.eval o)
    (hw : Region.wanted o (yielded ops a'.tmps) = Region.wanted o (yielded ops a.tmps)) : yieldsH P ops o v a' h := by
  unfold yieldsH operH at *
  rw [he, hw]
  exact hy

/-- One operation 'oj', apart from 'oi': whether 'oi''s value is already in its temporary makes no difference to it, and it makes none to 'oi'. -/
theorem stepH_put {j : Nat} {oi oj : Oper} {v : Value} (hj : ops[j]? = some oj) (hap : oi.apart ops oj = true)
    (hsi : ∀ cs b, oi.op ≠ .select cs b) (hsj : ∀ cs b, oj.op ≠ .select cs b) {K : Act → Heap → Prop} {a : Act} {h : Heap}
    (hh : stepH P ops j K (a.put oi.dst v) h) :
    stepH P ops j (fun a' h' => (∀ h'', yieldsH P ops oi v a h'' → yieldsH P ops oi v a' h'') ∧ K (a'.put oi.dst v) h') a h := by
  obtain ⟨h1, h2, h3⟩ := Oper.apart_spec hap
  have keep : ∀ u h'', yieldsH P ops oi v a h'' → yieldsH P ops oi v (a.put oj.dst u) h'' := fun u h'' hy =>
    hy.of_same (execOp_put oi hsi a oj.dst u h3) (wanted_put oi a oj.dst u h3)
  unfold stepH at *
  simp only [hj] at *
  rw [wanted_put oj a oi.dst v h1] at hh
  split
  · rename_i hw
    rw [if_pos hw] at hh
    unfold operH at *
    rw [execOp_put oj hsj a oi.dst v h1] at hh
    exact ⟨hh.1, semH_mono _ (fun n h' hn => nextH_mono (fun u h'' hK => ⟨keep u, by rw [← Act.put_comm a v u h2]; exact hK⟩) n h' hn) hh.2⟩
  · rename_i hw
    rw [if_neg hw] at hh
    exact ⟨keep _, by rw [← Act.put_comm a v undef h2]; exact hh⟩

/-- Does j wait for i, on whatever road? -/
def reachB (ops : Array Oper) (i : Nat) : Nat → Nat → Bool
  | 0, _ => false
  | fuel + 1, j => match ops[j]? with
    | some o => o.after.any fun e => Region.binds .any e && (e.on == i || reachB ops i fuel e.on)
    | none => false

def closedB (ops : Array Oper) (listed : Array Bool) : Prop :=
  ∀ j oj, ops[j]? = some oj → listed.getD j false = true → ∀ e ∈ oj.after, Region.binds .any e = true → listed.getD e.on false = true

theorem reachB_listed {i : Nat} {listed : Array Bool} (hcl : closedB ops listed) : ∀ (fuel j : Nat) (oj : Oper), ops[j]? = some oj →
    (∀ e ∈ oj.after, Region.binds .any e = true → listed.getD e.on false = true) → reachB ops i fuel j = true → listed.getD i false = true
  | 0, _, _, _, _, h => by simp [reachB] at h
  | fuel + 1, j, oj, hj, hall, h => by
    simp only [reachB, hj] at h
    obtain ⟨e, he, hb⟩ := Array.any_eq_true'.1 h
    simp only [Bool.and_eq_true, Bool.or_eq_true, beq_iff_eq] at hb
    rcases hb.2 with hon | hr
    · exact hon ▸ hall e he hb.1
    · have hl := hall e he hb.1
      cases ho : ops[e.on]? with
      | none =>
        cases fuel with
        | zero => simp [reachB] at hr
        | succ f => simp [reachB, ho] at hr
      | some o' => exact reachB_listed hcl fuel e.on o' ho (hcl e.on o' ho hl) hr

theorem closedB.set {i : Nat} {listed : Array Bool} (hcl : closedB ops listed) (hi : i ∈ Region.ready .any ops listed) : closedB ops (listed.setIfInBounds i true) := by
  obtain ⟨_, oi, hoi, hall⟩ := mem_ready.1 hi
  intro j oj hj hl e he hb
  by_cases hij : i = j
  · subst hij
    have : oj = oi := Option.some.inj (hj.symm.trans hoi)
    subst this
    exact getD_set_true (hall e he hb)
  · rw [getD_set_ne false hij] at hl
    exact getD_set_true (hcl j oj hj hl e he hb)

theorem unlisted_both {listed : Array Bool} {i : Nat} (h : listed.getD i true = false) : listed.getD i false = false := by
  rcases Nat.lt_or_ge i listed.size with h' | h'
  · simp [h'] at h ⊢; exact h
  · simp [Array.getElem?_eq_none h'] at h

/-- An operation that may come up now and leaves the heap alone may be taken first, if its value stays the same behind whatever may come ahead of it. -/
theorem anyH_first {i : Nat} {oi : Oper} {v : Value} (hi : ops[i]? = some oi) (hsel : ∀ (j : Nat) (o : Oper) cs b, ops[j]? = some o → o.op ≠ .select cs b) {a0 : Act} {rf : Nat} :
    ∀ (fuel : Nat) (st : Nat → Heap → Heap → Prop) (listed : Array Bool) (a : Act) (h : Heap), closedB ops listed →
      (∀ j h, st j h h) →
      (∀ j oj, ops[j]? = some oj → j ≠ i → listed.getD j true = false → (∀ e ∈ oj.after, Region.binds .any e = true → e.on ≠ i) → oi.apart ops oj = true) →
      i ∈ Region.ready .any ops listed → (∀ h', yieldsH P ops oi v a0 h' → yieldsH P ops oi v a h') → yieldsH P ops oi v a0 h →
      anyH P ops Q fuel (fun j h h' => st j h h' ∧ (reachB ops i rf j = false → yieldsH P ops oi v a0 h → yieldsH P ops oi v a0 h')) (listed.setIfInBounds i true) (a.put oi.dst v) h →
      anyH P ops Q (fuel + 1) st listed a h := by
  intro fuel
  induction fuel with
  | zero =>
    intro st listed a h hcl hrefl _ hr hsame hy H
    refine ⟨fun h => (by rw [h] at hr; cases hr), fun j hj => ?_⟩
    by_cases hji : j = i
    · subst hji; exact (hsame _ hy).stepH hi ⟨hrefl _ _, anyH_weak (fun _ _ _ hx => hx.1) H⟩
    · have := ready_mono hj hji
      rw [H.1] at this
      cases this
  | succ fuel ih =>
    intro st listed a h hcl hrefl hfree hr hsame hy H
    refine ⟨fun h => (by rw [h] at hr; cases hr), fun j hj => ?_⟩
    by_cases hji : j = i
    · subst hji
      exact (hsame _ hy).stepH hi ⟨hrefl _ _, anyH_weak (fun _ _ _ hx => hx.1) H⟩
    · have h1 := H.2 j (ready_mono hj hji)
      obtain ⟨hjun, oj, hoj, hall⟩ := mem_ready.1 hj
      have hiun := (mem_ready.1 hr).1
      have hnot : ∀ e ∈ oj.after, Region.binds .any e = true → e.on ≠ i := fun e he hb heq => by
        have h1 := hall e he hb
        rw [heq, unlisted_both hiun] at h1
        cases h1
      have hnr : reachB ops i rf j = false := by
        cases hb : reachB ops i rf j with
        | false => rfl
        | true =>
          have := reachB_listed hcl rf j oj hoj hall hb
          rw [unlisted_both hiun] at this
          cases this
      have h2 := stepH_put hoj (hfree j oj hoj hji hjun hnot) (fun cs b => hsel i oi cs b hi) (fun cs b => hsel j oj cs b hoj) h1
      have hfree' : ∀ k ok, ops[k]? = some ok → k ≠ i → (listed.setIfInBounds j true).getD k true = false →
          (∀ e ∈ ok.after, Region.binds .any e = true → e.on ≠ i) → oi.apart ops ok = true := fun k ok hk hki hun hno => by
        refine hfree k ok hk hki ?_ hno
        by_cases hjk : j = k
        · subst hjk; exact hjun
        · rw [getD_set_ne true hjk] at hun; exact hun
      refine stepH_mono (fun a' h' hx => ?_) h2
      obtain ⟨hkeep, ⟨hst1, hst2⟩, hrest⟩ := hx
      refine ⟨hst1, ih st (listed.setIfInBounds j true) a' h' (hcl.set hj) hrefl hfree' (ready_mono hr (Ne.symm hji)) (fun h'' hh => hkeep h'' (hsame h'' hh)) (hst2 hnr hy) ?_⟩
      rw [Array.setIfInBounds_comm _ _ hji]
      exact hrest

/-! ### One order -/

/-- An order in which what leaves the heap alone comes as early as it may (true); whatever else comes when nothing else may (false). -/
def ordB (ops : Array Oper) : List (Nat × Bool) → Array Bool → Bool
  | [], listed => (Region.ready .any ops listed).isEmpty
  | (i, true) :: r, listed => (Region.ready .any ops listed).contains i && Region.free .any ops listed i && ordB ops r (listed.setIfInBounds i true)
  | (i, false) :: r, listed => Region.ready .any ops listed == [i] && ordB ops r (listed.setIfInBounds i true)

/-- The walk of that order; 'st': what must stay as it is read. -/
def drawH (P : Program) (ops : Array Oper) (Q : Act → Heap → Prop) : List (Nat × Bool) → (Nat → Heap → Heap → Prop) → Act → Heap → Prop
  | [], _, a, h => Q a h
  | (i, true) :: r, st, a, h => match ops[i]? with
    | none => False
    | some o => ∃ v, yieldsH P ops o v a h ∧ drawH P ops Q r (fun j h h' => st j h h' ∧ (reachB ops i ops.size j = false → yieldsH P ops o v a h → yieldsH P ops o v a h')) (a.put o.dst v) h
  | (i, false) :: r, st, a, h => stepH P ops i (fun a' h' => st i h h' ∧ drawH P ops Q r st a' h') a h

theorem anyH_of_draw (hsel : Region.noSelect ops = true) : ∀ (l : List (Nat × Bool)) (st : Nat → Heap → Heap → Prop) (listed : Array Bool) (a : Act) (h : Heap),
    (∀ j h, st j h h) → closedB ops listed → ordB ops l listed = true → drawH P ops Q l st a h → anyH P ops Q l.length st listed a h
  | [], _, _, _, _, _, _, hB, hh => ⟨by simpa [ordB] using hB, hh⟩
  | (i, true) :: r, st, listed, a, h, hrefl, hcl, hB, hh => by
    simp only [ordB, Bool.and_eq_true] at hB
    obtain ⟨⟨hr, hf⟩, hB'⟩ := hB
    have hr' : i ∈ Region.ready .any ops listed := by simpa using hr
    simp only [drawH] at hh
    cases ho : ops[i]? with
    | none => simp only [ho] at hh
    | some o =>
      simp only [ho] at hh
      obtain ⟨v, hy, hh⟩ := hh
      exact anyH_first (rf := ops.size) ho (Region.noSelect_spec hsel) r.length st listed a h hcl hrefl (Region.free_spec ho hf) hr' (fun _ hx => hx) hy
        (anyH_of_draw hsel r _ _ _ _ (fun j h => ⟨hrefl j h, fun _ hx => hx⟩) (hcl.set hr') hB' hh)
  | (i, false) :: r, st, listed, a, h, hrefl, hcl, hB, hh => by
    simp only [ordB, Bool.and_eq_true, beq_iff_eq] at hB
    refine ⟨fun h0 => by rw [h0] at hB; exact absurd hB.1 (by simp), fun j hj => ?_⟩
    rw [hB.1] at hj
    have hji : j = i := by simpa using hj
    subst hji
    have hr' : j ∈ Region.ready .any ops listed := by rw [hB.1]; simp
    exact stepH_mono (fun a' h' hx => ⟨hx.1, anyH_of_draw hsel r st _ _ _ hrefl (hcl.set hr') hB.2 hx.2⟩) hh

theorem codeH_region_draw {ro : Option Nat} {id : Nat} {Q : Exit → Act → Heap → Prop} {a : Act} {h : Heap} (hm : P.follows .mixedOrders = true) (l : List (Nat × Bool)) (hl : l.length = ops.size)
    (hsel : Region.noSelect ops = true) (hB : ordB ops l (Array.replicate ops.size false) = true) (hd : drawH P ops (Q .normal) l (fun _ _ _ => True) a h) :
    codeH P ro (.region id ops true) Q a h := by
  intro w hw
  refine wpIn_region_draw fun t => ?_
  simp only [Region.schedule, hm, Bool.true_or, if_true]
  have hcl : closedB ops (Array.replicate ops.size false) := fun j oj _ hl => by
    rcases Nat.lt_or_ge j ops.size with h | h
    · simp [h] at hl
    · simp [h] at hl
  have := anyH_of_draw hsel l (fun _ _ _ => True) _ a h (fun _ _ => trivial) hcl hB hd
  rw [hl] at this
  have hs := anyH_sound (P := P) (ro := ro) (Qw := lift w Q) (Q := Q .normal) (w0 := w) (fun _ _ h1 h2 => ⟨h1, h2⟩) ops.size t (fun _ _ _ => True) (Array.replicate ops.size false) a { w with drawn := w.drawn + 1 } ⟨rfl, rfl, rfl⟩ (by
    show anyH P ops (Q .normal) ops.size _ _ a w.heap
    rw [hw]; exact this)
  exact hs

end
end Go.Proofs.YtfapgccnhonoiaaGreat

/- The framework, part 3: entering a function, leaving it; calls of function values; a range over a function. -/
namespace Go.Proofs.YtfapgccnhonoiaaGreat

section
variable {P : Program}

/-- What a function hands back when it leaves with these temporaries. -/
def resH (P : Program) (fn : Func) (tmps : Array Value) (h : Heap) (v : Value) : Prop := ∀ w : World, w.heap = h → (results fn tmps).run P w = .ok v w

/-- Leaving: the marks of its ranges over functions, then the results. -/
def leaveH (P : Program) (fn : Func) (tmps : Array Value) (R : Value → Heap → Prop) : List Deferred → Heap → Prop
  | [], h => ∃ v, resH P fn tmps h v ∧ R v h
  | d :: ds, h => ∃ r, d.target = .collected r ∧ h[r]? = some (.deferred (some [])) ∧ leaveH P fn tmps R ds (h.setIfInBounds r (.deferred none))

def bodyH (P : Program) (fn : Func) (R : Value → Heap → Prop) : Exit → Act → Heap → Prop
  | .normal, a, h => leaveH P fn a.tmps R a.defers h
  | .ret, a, h => leaveH P fn a.tmps R a.defers h
  | _, _, _ => False

theorem leaves_of_leaveH {fn : Func} {tmps : Array Value} {R : Value → Heap → Prop} {w0 : World} : ∀ (ds : List Deferred) (w : World), Sm w0 w → leaveH P fn tmps R ds w.heap →
    LeavesInM (fw none) 0 P fn tmps (fun e w' => ∃ v, e = .returned v ∧ Sm w0 w' ∧ R v w'.heap) ds .returning w
  | [], w, hs, ⟨v, hr, hR⟩ => ⟨v, hr w rfl, v, rfl, hs, hR⟩
  | d :: ds, w, hs, ⟨r, ht, hd, hl⟩ => by
    refine ⟨by simp, .inl ⟨r, _, ht, run_takeDeferred hd, ?_⟩⟩
    exact leaves_of_leaveH ds (w.putObj r (.deferred none)) ⟨hs.os, hs.tape, hs.output⟩ hl

theorem callH_of_code {f : FuncId} {fn : Func} {c : Code} {args : Array Value} {h : Heap} {R : Value → Heap → Prop}
    (hf : P.funcs[f]? = some fn) (hb : fn.body = some c)
    (hc : codeH P none c (bodyH P fn R) { tmps := args ++ Array.replicate (fn.ntmps - args.size) undef, defers := [] } h) : CallH P f args h R := by
  intro w hw
  refine callsIn_of_wp_marks hf hb trivial ?_ rfl
  refine wpIn_mono (hc w hw) fun e a' w' hx => ?_
  obtain ⟨h1, h2⟩ := hx
  cases e with
  | normal => exact leaves_of_leaveH _ w' h1 h2
  | ret => exact leaves_of_leaveH _ w' h1 h2
  | _ => exact h2.elim

/-! ### Function values -/

/-- A call of a function value. -/
def CallV (P : Program) (v : Value) (args : Array Value) (h : Heap) (R : Value → Heap → Prop) : Prop :=
  semH P (do let d ← Deferred.ofValue v args; invoke d.target d.args) (nextH P R) h

theorem CallV.mono {v : Value} {args : Array Value} {h : Heap} {R R' : Value → Heap → Prop} (hc : CallV P v args h R) (hr : ∀ v h', R v h' → R' v h') : CallV P v args h R' :=
  semH_mono _ (fun n h' hn => nextH_mono hr n h' hn) hc

/-- A Go function that is entered when it is called. -/
def entersB (P : Program) (f : FuncId) : Bool :=
  match P.funcs[f]? with
  | some fn => fn.body.isSome && fn.name != "runtime.NumGoroutine"
  | none => false

theorem callFunc_enter {f : FuncId} (he : entersB P f = true) (args : Array Value) (K : Next → Heap → Prop) (h : Heap) : K (.enter f args) h → semH P (callFunc f args) K h := by
  intro hk
  unfold entersB at he
  cases hf : P.funcs[f]? with
  | none => simp [hf] at he
  | some fn =>
    simp only [hf, Bool.and_eq_true, bne_iff_ne, ne_eq] at he
    obtain ⟨h1, h2⟩ := he
    unfold callFunc
    refine (semH_bind' _ _ _ _).2 ?_
    show semH P (match P.funcs[f]? with | none => _ | some fn => _) K h
    rw [hf]
    have e1 : (fn.name == "runtime.NumGoroutine") = false := by simpa using h2
    have e2 : fn.body.isNone = false := by cases hb : fn.body <;> simp_all
    simp only [e1, e2, Bool.false_eq_true, if_false]
    exact hk

theorem run_callFunc_enter {f : FuncId} (he : entersB P f = true) (args : Array Value) (w : World) : (callFunc f args).run P w = .ok (.enter f args) w := by
  unfold entersB at he
  cases hf : P.funcs[f]? with
  | none => simp [hf] at he
  | some fn =>
    simp only [hf, Bool.and_eq_true, bne_iff_ne, ne_eq] at he
    obtain ⟨h1, h2⟩ := he
    have e2 : fn.body ≠ none := by cases hb : fn.body <;> simp_all
    simp [callFunc, program, Sem.run_bind, Sem.run, Result.andThen, hf, h2, e2]

theorem callV_func {f : FuncId} {first cap args : Array Value} {h : Heap} {R : Value → Heap → Prop} (he : entersB P f = true) (hc : CallH P f (first ++ args ++ cap) h R) :
    CallV P (.func (.func f) first cap) args h R := by
  show semH P (invoke (.fn (.func f) cap) (first ++ args)) (nextH P R) h
  exact callFunc_enter he _ _ _ hc

/-! ### Rounds -/

def roundPostH (l : Nat) (R : Value → Heap → Prop) : Exit → Act → Heap → Prop
  | .normal, _, h => ∃ r : Loop, h[l]? = some (.loop r) ∧ R (.bool true) (h.setIfInBounds l (.loop { r with state := .ready, pending := none }))
  | .ret, _, h => ∃ r : Loop, h[l]? = some (.loop r) ∧ R (.bool false) (h.setIfInBounds l (.loop { r with state := .done, pending := some .ret }))
  | .exit id, _, h => ∃ r : Loop, h[l]? = some (.loop r) ∧ R (.bool false) (h.setIfInBounds l (.loop { r with state := .done, pending := some (.exit id) }))
  | _, _, _ => False

theorem roundH_of_code {l : Nat} {f : FuncId} {tmps : Array Value} {assign body : Code} {h : Heap} {R : Value → Heap → Prop}
    (hc : codeH P (some l) assign (andThen (fun a1 h1 => ∃ r : Loop, h1[l]? = some (.loop r) ∧ r.state = .ready ∧
      codeH P (some l) body (roundPostH l R) a1 (h1.setIfInBounds l (.loop { r with state := .busy }))) (fun _ _ _ => False)) { tmps := tmps, defers := [] } h) :
    RoundH P l f tmps assign body h R := by
  intro w hw
  refine roundIn_of_wpIn (F := fw none) trivial ?_
  refine wpIn_mono (hc w hw) fun e a1 w1 hx => ?_
  obtain ⟨h1, h2⟩ := hx
  cases e with
  | normal =>
    obtain ⟨r, hr, hst, hb⟩ := h2
    refine ⟨w1.putObj l (.loop { r with state := .busy }), run_beginRound hr hst, ?_⟩
    refine wpIn_mono (hb (w1.putObj l (.loop { r with state := .busy })) rfl) fun e a2 w2 hy => ?_
    obtain ⟨k1, k2⟩ := hy
    have hs : Sm w w2 := ⟨k1.os.trans h1.os, k1.tape.trans h1.tape, k1.output.trans h1.output⟩
    cases e with
    | normal => obtain ⟨r', hr', hR⟩ := k2; exact ⟨_, _, run_endRound none hr', _, rfl, ⟨hs.os, hs.tape, hs.output⟩, hR⟩
    | ret => obtain ⟨r', hr', hR⟩ := k2; exact ⟨_, _, run_endRound (some .ret) hr', _, rfl, ⟨hs.os, hs.tape, hs.output⟩, hR⟩
    | exit id => obtain ⟨r', hr', hR⟩ := k2; exact ⟨_, _, run_endRound (some (.exit id)) hr', _, rfl, ⟨hs.os, hs.tape, hs.output⟩, hR⟩
    | goto t => exact k2.elim
    | panic c => exact k2.elim
    | outgrown => exact k2.elim
  | _ => exact h2.elim

theorem callV_yield {l : Nat} {r : Loop} {args : Array Value} {h : Heap} {R : Value → Heap → Prop} (hr : h[l]? = some (.loop r)) (hs : args.size = r.params.size)
    (hc : RoundH P l r.fn ((r.params.zip args).foldl (fun tmps (t, a) => tmps.setIfInBounds t a) r.tmps) r.assign r.body h R) :
    CallV P (.func (.yield l) #[] #[]) args h R := by
  show semH P (invoke (.fn (.yield l) #[]) (#[] ++ args)) (nextH P R) h
  rw [Array.empty_append]
  show semH P (Instr.yield l args) (nextH P R) h
  unfold Instr.yield Instr.getLoop
  refine (semH_bind' _ _ _ _).2 ((semH_bind' _ _ _ _).2 ⟨.loop r, hr, by simp, ?_⟩)
  show semH P (if args.size ≠ r.params.size then _ else _) (nextH P R) h
  rw [if_neg (by simp [hs])]
  exact hc

/-- The record of a range over a function, by its state and its pending jump. -/
def loopObj (fn : FuncId) (tmps : Array Value) (ps : Array Tmp) (assign body : Code) (D : Nat) (st : LoopState) (p : Option Code) : Obj :=
  .loop { state := st, pending := p, fn, tmps, params := ps, assign, body, defers := D }

/-- A jump out of a round, carried out by the loop's own function. -/
def jumpH (Q : Exit → Act → Heap → Prop) (a : Act) (h : Heap) : Option Code → Prop
  | none => Q .normal a h
  | some .ret => Q .ret a h
  | some (.exit id) => Q (.exit id) a h
  | _ => False

theorem codeH_jump {Q : Exit → Act → Heap → Prop} {ro : Option Nat} {a : Act} {h : Heap} {c : Code} (hj : jumpH Q a h (some c)) : codeH P ro c Q a h := by
  cases c <;> first | exact codeH_ret hj | exact codeH_exit hj | exact hj.elim

/-- The round that a call of yield is, from the walk of the assignments and of the body. -/
theorem yield_of_code {l : Nat} {fn : FuncId} {tmps : Array Value} {ps : Array Tmp} {assign body : Code} {D : Nat} {args : Array Value} {h : Heap} {R : Value → Heap → Prop}
    (hr : h[l]? = some (loopObj fn tmps ps assign body D .ready none)) (hs : args.size = ps.size)
    (hc : codeH P (some l) assign (andThen (fun a1 h1 => h1[l]? = some (loopObj fn tmps ps assign body D .ready none) ∧
      codeH P (some l) body (fun e _ h2 => h2[l]? = some (loopObj fn tmps ps assign body D .busy none) ∧
        match e with
        | .normal => R (.bool true) (h2.setIfInBounds l (loopObj fn tmps ps assign body D .ready none))
        | .ret => R (.bool false) (h2.setIfInBounds l (loopObj fn tmps ps assign body D .done (some .ret)))
        | .exit id => R (.bool false) (h2.setIfInBounds l (loopObj fn tmps ps assign body D .done (some (.exit id))))
        | _ => False) a1 (h1.setIfInBounds l (loopObj fn tmps ps assign body D .busy none))) (fun _ _ _ => False))
      { tmps := (ps.zip args).foldl (fun tmps (t, a) => tmps.setIfInBounds t a) tmps, defers := [] } h) :
    CallV P (.func (.yield l) #[] #[]) args h R := by
  refine callV_yield hr hs (roundH_of_code (codeH_mono (fun e a1 h1 hx => ?_) hc))
  cases e with
  | normal =>
    obtain ⟨hl, hb⟩ := hx
    refine ⟨_, hl, rfl, codeH_mono (fun e a2 h2 hy => ?_) hb⟩
    obtain ⟨k1, k2⟩ := hy
    cases e with
    | normal => exact ⟨_, k1, k2⟩
    | ret => exact ⟨_, k1, k2⟩
    | exit id => exact ⟨_, k1, k2⟩
    | _ => exact k2.elim
  | _ => exact hx.elim

theorem codeH_rangeFunc {g : Operand} {ps : Array Tmp} {assign body : Code} {Q : Exit → Act → Heap → Prop} {a : Act} {h : Heap} {f : FuncId} {first cap : Array Value}
    (hg : a.eval g = .func (.func f) first cap) (he : entersB P f = true)
    (hc : ∀ fn, CallH P f (first ++ #[.func (.yield (h.size + 1)) #[] #[]] ++ cap) ((h.push (.deferred (some []))).push (loopObj fn a.tmps ps assign body h.size .ready none)) fun _ h2 =>
      ∃ st p, st ≠ .busy ∧ h2[h.size + 1]? = some (loopObj fn a.tmps ps assign body h.size st p) ∧
        jumpH Q { a with defers := { target := .collected h.size, args := #[] } :: a.defers } (h2.setIfInBounds (h.size + 1) (loopObj fn a.tmps ps assign body h.size .exhausted p)) p) :
    codeH P none (.rangeFunc g ps assign body) Q a h := by
  intro w hw
  subst hw
  refine wpIn_rangeFunc fun fn _ => ⟨w.heap.size + 1, [{ target := .collected w.heap.size, args := #[] }], _, { target := .fn (.func f) cap, args := first ++ #[.func (.yield (w.heap.size + 1)) #[] #[]] }, ?w1, f,
    first ++ #[.func (.yield (w.heap.size + 1)) #[] #[]] ++ cap, ?w2, run_enterLoop_outer fn a.tmps ps assign body, ?res, fun _ _ => trivial, ?inv, fun hd => by simp [fw, Fence.wide] at hd, ?_⟩
  case res =>
    have e : resolve a.eval (rangeCall g (w.heap.size + 1)) 0 = pure { target := .fn (.func f) cap, args := first ++ #[.func (.yield (w.heap.size + 1)) #[] #[]] } := by
      show Deferred.ofValue (a.eval g) (Array.map a.eval #[Operand.const (.func (.yield (w.heap.size + 1)) #[] #[])]) = _
      rw [hg]
      simp only [List.map_toArray, List.map_cons, List.map_nil]
      rfl
    rw [e]
    rfl
  case inv => exact run_callFunc_enter he _ _
  · refine (hc fn _ rfl).mono fun e w3 hx => ?_
    obtain ⟨v, rfl, hs, st, p, hst, hl, hj⟩ := hx
    refine ⟨p, _, run_endLoop hl (by simpa using hst), ?_⟩
    have hs' : Sm w (w3.putObj (w.heap.size + 1) (loopObj fn a.tmps ps assign body w.heap.size .exhausted p)) := ⟨hs.os, hs.tape, hs.output⟩
    cases p with
    | none => exact ⟨hs', hj⟩
    | some c => exact wpIn_mono (codeH_jump (P := P) hj _ rfl) fun _ _ _ ⟨k1, k2⟩ => ⟨hs'.trans k1, k2⟩

end
end Go.Proofs.YtfapgccnhonoiaaGreat

/- The framework, part 4: the types' table; the model's small terms over heaps; typed existence. -/
namespace Go.Proofs.YtfapgccnhonoiaaGreat

/-- What is known of a type. -/
inductive TK where
  | int (k : IntKind)
  | bool
  | str
  | ptr (e : TypeId)
  | sl (e : TypeId)
  | map (k e : TypeId)
  | st (fs : List (Nat × TypeId))
  | arr (n : Nat) (e : TypeId)
  | fn
  | tup (ts : List TypeId)
  | oth

structure TI where
  k : TK
  size : Nat
  bytes : Nat
  zero : List Value

def lookT : List TI → Nat → TI
  | [], _ => ⟨.oth, 0, 0, []⟩
  | i :: _, 0 => i
  | _ :: r, n + 1 => lookT r n

def tkOK (P : Program) (t : TypeId) : TK → Prop
  | .int k => P.underlying t = some (.int k)
  | .bool => P.underlying t = some .bool
  | .str => P.underlying t = some .string
  | .ptr e => P.underlying t = some (.pointer e)
  | .sl e => P.underlying t = some (.slice e)
  | .map k e => P.underlying t = some (.map k e)
  | .st fs => ∃ F, P.underlying t = some (.struct F) ∧ F.toList.map (fun f => (f.offset, f.type)) = fs
  | .arr n e => P.underlying t = some (.array n e)
  | .fn => ∃ a b c, P.underlying t = some (.func a b c)
  | .tup ts => ∃ a, P.underlying t = some (.tuple a) ∧ a.toList = ts
  | .oth => True

def zeroV (T : List TI) (t : TypeId) : Value :=
  match (lookT T t).k with
  | .st _ => .agg ⟨(lookT T t).zero⟩
  | .arr _ _ => .agg ⟨(lookT T t).zero⟩
  | _ => (lookT T t).zero.headD undef

def isOth : TK → Bool
  | .oth => true
  | _ => false

/-- What a type is made of is in the table, too. -/
def closedK (T : List TI) : TK → Bool
  | .sl e => !isOth (lookT T e).k
  | .arr _ e => !isOth (lookT T e).k
  | .map k e => !isOth (lookT T k).k && !isOth (lookT T e).k
  | .st fs => fs.all fun f => !isOth (lookT T f.2).k
  | _ => true

/-- A struct type whose values are held against each other field by field. -/
def eqOK (P : Program) (t : TypeId) : Prop :=
  P.stoodInHeld t = false ∧ P.eqGuardType P.depth t = false ∧ ∀ F, P.underlying t = some (.struct F) → ∀ f ∈ F.toList, f.name ≠ "_"

/-- The table tells the truth. -/
structure TabOK (P : Program) (T : List TI) : Prop where
  kind : ∀ t, tkOK P t (lookT T t).k
  info : ∀ t, (lookT T t).k ≠ .oth → ∃ i z, P.info? t = some i ∧ i.size = (lookT T t).size ∧ i.bytes = (lookT T t).bytes ∧ i.zero = some z ∧ z.cells.toList = (lookT T t).zero ∧ zeroV T t = z
  closed : ∀ t, closedK T (lookT T t).k = true
  eqst : ∀ t fs, (lookT T t).k = .st fs → eqOK P t
  zlen : ∀ t, (lookT T t).k ≠ .oth → (lookT T t).zero.length = (lookT T t).size

section
variable {P : Program} {T : List TI}

/-! ### The model's small terms -/

theorem semH_program (K : Program → Heap → Prop) (h : Heap) : semH P program K h ↔ K P h := Iff.rfl

theorem semH_underlying {t : TypeId} {d : TypeDesc} (ht : P.underlying t = some d) (K : TypeDesc → Heap → Prop) (h : Heap) : semH P (underlying t) K h ↔ K d h := by
  unfold underlying
  rw [semH_bind', semH_program, ht]
  exact semH_pure _ _ _

theorem semH_typeInfo {t : TypeId} {i : TypeInfo} (ht : P.info? t = some i) (K : TypeInfo → Heap → Prop) (h : Heap) : semH P (typeInfo t) K h ↔ K i h := by
  unfold typeInfo
  rw [semH_bind', semH_program, ht]
  exact semH_pure _ _ _

theorem semH_sizeOf {t : TypeId} {i : TypeInfo} (ht : P.info? t = some i) (K : Nat → Heap → Prop) (h : Heap) : semH P (sizeOf t) K h ↔ K i.size h := by
  unfold sizeOf
  rw [semH_bind', semH_typeInfo ht]
  exact semH_pure _ _ _

theorem semH_zeroValue {t : TypeId} {i : TypeInfo} {z : Value} (ht : P.info? t = some i) (hz : i.zero = some z) (K : Value → Heap → Prop) (h : Heap) : semH P (zeroValue t) K h ↔ K z h := by
  unfold zeroValue
  rw [semH_bind', semH_typeInfo ht, hz]
  exact semH_pure _ _ _

def isAggT : TypeDesc → Bool
  | .struct _ => true
  | .array _ _ => true
  | _ => false

theorem semH_isAgg {t : TypeId} {d : TypeDesc} (ht : P.underlying t = some d) (K : Bool → Heap → Prop) (h : Heap) : semH P (isAgg t) K h ↔ K (isAggT d) h := by
  unfold isAgg
  rw [semH_bind', semH_underlying ht]
  cases d <;> exact Iff.rfl

theorem semH_load {a : Addr} {v : Value} {h : Heap} (hv : cellAt h a = some v) (K : Value → Heap → Prop) (hk : K v h) : semH P (load a) K h := ⟨v, hv, hk⟩

/-- May the cell be written? -/
def okAt (h : Heap) (a : Addr) : Prop := (∃ u, cellAt h a = some u) ∧ frozenAt h a = false

theorem semH_store {a : Addr} {v : Value} {h : Heap} (hc : isCell v = true) (ho : okAt h a) (K : Unit → Heap → Prop) (hk : K () (upd h a v)) : semH P (store a v) K h :=
  ⟨hc, ho.1, ho.2, hk⟩

theorem semH_newObj (o : Obj) (K : Nat → Heap → Prop) (h : Heap) : semH P (newObj o) K h ↔ K h.size (h.push o) := Iff.rfl

theorem semH_newRow (e : TypeId) (cs : Array Value) (K : Addr → Heap → Prop) (h : Heap) : semH P (newRow e cs) K h ↔ K ⟨h.size, 0, none⟩ (h.push (.cells cs e)) := by
  unfold newRow
  rw [semH_bind', semH_newObj]
  exact Iff.rfl

theorem semH_newVar (t : TypeId) (v : Value) (K : Addr → Heap → Prop) (h : Heap) : semH P (newVar t v) K h ↔ K ⟨h.size, 0, none⟩ (h.push (.cells v.cells t)) := semH_newRow _ _ _ _

theorem semH_getObj {r : Nat} {o : Obj} {h : Heap} (ho : h[r]? = some o) (hn : ∀ c e f, o ≠ .cells c e f) (K : Obj → Heap → Prop) (hk : K o h) : semH P (getObj r) K h := ⟨o, ho, hn, hk⟩

theorem semH_setObj {r : Nat} {o' : Obj} {h : Heap} (o : Obj) (ho : h[r]? = some o') (hn : ∀ c e f, o' ≠ .cells c e f) (K : Unit → Heap → Prop) (hk : K () (h.setIfInBounds r o)) : semH P (setObj r o) K h :=
  ⟨⟨o', ho, hn⟩, hk⟩

/-- n cells in a row from an address on. -/
def rowAt (h : Heap) (a : Addr) (n : Nat) : Option (List Value) :=
  match h[a.block]? with
  | some (.cells c _ _) => if a.spot.isNone ∧ a.off + n ≤ c.size then some ((c.toList.drop a.off).take n) else none
  | _ => none

theorem Addr.add_eq (a : Addr) (hs : a.spot = none) (n : Nat) : a.add n = ⟨a.block, a.off + n, none⟩ := by
  obtain ⟨b, o, s⟩ := a
  simp only at hs
  subst hs
  unfold Addr.add
  split
  · rename_i h0; simp [h0]
  · rfl

theorem cellAt_of_row {h : Heap} {a : Addr} {n : Nat} {l : List Value} (hr : rowAt h a n = some l) : l.length = n ∧ ∀ i v, l[i]? = some v → cellAt h (a.add i) = some v := by
  unfold rowAt at hr
  cases hb : h[a.block]? with
  | none => simp [hb] at hr
  | some o =>
    cases o <;> simp only [hb] at hr <;> try (cases hr; done)
    rename_i c e f
    split at hr
    · rename_i hcond
      obtain ⟨hs, hle⟩ := hcond
      have hs' : a.spot = none := by simpa using hs
      cases hr
      refine ⟨by simp; omega, fun i v hv => ?_⟩
      rw [Addr.add_eq a hs']
      have hi : i < n := by
        rcases Nat.lt_or_ge i n with h | h
        · exact h
        · rw [List.getElem?_eq_none (by simp; omega)] at hv; cases hv
      simp only [cellAt, hb]
      simp only [Option.isSome_none, Bool.false_eq_true, if_false]
      rw [List.getElem?_take] at hv
      simp only [hi, if_true, List.getElem?_drop] at hv
      simpa using hv
    · cases hr

theorem semH_loadCellsFrom (a : Addr) (h : Heap) : ∀ (l : List Value) (i : Nat) (acc : Array Value) (K : Array Value → Heap → Prop), (∀ j v, l[j]? = some v → cellAt h (a.add (i + j)) = some v) →
    K (acc ++ l.toArray) h → semH P (loadCellsFrom a i l.length acc) K h
  | [], i, acc, K, _, hk => by
    have hk' : K acc h := by simpa using hk
    exact hk'
  | v :: l, i, acc, K, hl, hk => by
    simp only [List.length_cons, loadCellsFrom]
    rw [semH_bind']
    refine semH_load (hl 0 v rfl) _ ?_
    refine semH_loadCellsFrom a h l (i + 1) (acc.push v) K (fun j u hj => by have := hl (j + 1) u hj; rwa [show i + (j + 1) = i + 1 + j by omega] at this) ?_
    simpa using hk

theorem semH_loadCells {a : Addr} {n : Nat} {l : List Value} {h : Heap} (hr : rowAt h a n = some l) (K : Array Value → Heap → Prop) (hk : K ⟨l⟩ h) : semH P (loadCells a n) K h := by
  obtain ⟨h1, h2⟩ := cellAt_of_row hr
  unfold loadCells
  subst h1
  exact semH_loadCellsFrom a h l 0 #[] K (fun j v hv => by rw [Nat.zero_add]; exact h2 j v hv) (by simpa using hk)

/-- A row of cells written one by one. -/
def updRow (h : Heap) (a : Addr) : Nat → List Value → Heap
  | _, [] => h
  | i, v :: r => updRow (upd h (a.add i) v) a (i + 1) r

/-- May a row of cells be written? -/
def okRow (h : Heap) (a : Addr) (n : Nat) : Prop :=
  ∃ c e lo hi, h[a.block]? = some (.cells c e (lo, hi)) ∧ a.spot = none ∧ a.off + n ≤ c.size ∧ (hi ≤ a.off ∨ a.off + n ≤ lo ∨ hi ≤ lo)

theorem upd_block {h : Heap} {a : Addr} {c : Array Value} {e : TypeId} {f : Nat × Nat} (v : Value) (hb : h[a.block]? = some (.cells c e f)) (hs : a.spot = none) :
    (upd h a v)[a.block]? = some (.cells (c.setIfInBounds a.off v) e f) := by
  unfold upd
  rw [Array.getElem?_modify]
  simp [hb, hs]

theorem upd_other {h : Heap} {a : Addr} {v : Value} {b : Nat} (hne : b ≠ a.block) : (upd h a v)[b]? = h[b]? := by
  unfold upd
  rw [Array.getElem?_modify, if_neg (fun e => hne e.symm)]

theorem upd_size {h : Heap} {a : Addr} {v : Value} : (upd h a v).size = h.size := by simp [upd]

theorem okAt_of_block {h : Heap} {a : Addr} {c : Array Value} {e : TypeId} {lo hi : Nat} (hb : h[a.block]? = some (.cells c e (lo, hi))) (hs : a.spot = none) (hlt : a.off < c.size)
    (hf : hi ≤ a.off ∨ a.off < lo ∨ hi ≤ lo) : okAt h a := by
  refine ⟨⟨c[a.off], ?_⟩, ?_⟩
  · simp [cellAt, hb, hs, hlt]
  · simp only [frozenAt, hb, Bool.and_eq_false_iff, decide_eq_false_iff_not]
    omega

theorem semH_storeCells (a : Addr) : ∀ (l : List Value) (i : Nat) (h : Heap) (K : Unit → Heap → Prop), (∀ v ∈ l, isCell v = true) →
    (∃ c e lo hi, h[a.block]? = some (.cells c e (lo, hi)) ∧ a.spot = none ∧ a.off + i + l.length ≤ c.size ∧ (hi ≤ a.off + i ∨ a.off + i + l.length ≤ lo ∨ hi ≤ lo)) →
    K () (updRow h a i l) → semH P (storeCells a l i) K h
  | [], i, h, K, _, _, hk => hk
  | v :: l, i, h, K, hc, ⟨c, e, lo, hi, hb, hs, hle, hf⟩, hk => by
    simp only [storeCells]
    rw [semH_bind']
    simp only [List.length_cons] at hle hf
    have hadd : a.add i = ⟨a.block, a.off + i, none⟩ := Addr.add_eq a hs i
    refine semH_store (hc v (by simp)) ?_ _ ?_
    · rw [hadd]; exact okAt_of_block (a := ⟨a.block, a.off + i, none⟩) hb rfl (by show a.off + i < c.size; omega) (by show hi ≤ a.off + i ∨ a.off + i < lo ∨ hi ≤ lo; omega)
    · refine semH_storeCells a l (i + 1) _ K (fun u hu => hc u (by simp [hu])) ⟨c.setIfInBounds (a.off + i) v, e, lo, hi, ?_, hs, by simp; omega, by omega⟩ hk
      rw [hadd]
      exact upd_block (a := ⟨a.block, a.off + i, none⟩) v hb rfl

theorem semH_storeRow {a : Addr} {l : List Value} {h : Heap} (hc : ∀ v ∈ l, isCell v = true) (ho : okRow h a l.length) (K : Unit → Heap → Prop) (hk : K () (updRow h a 0 l)) : semH P (storeCells a l) K h := by
  obtain ⟨c, e, lo, hi, hb, hs, hle, hf⟩ := ho
  exact semH_storeCells a l 0 h K hc ⟨c, e, lo, hi, hb, hs, by omega, by omega⟩ hk

/-- One cell, as a row. -/
theorem okRow_one {h : Heap} {a : Addr} (ho : okRow h a 1) : okAt h a := by
  obtain ⟨c, e, lo, hi, hb, hs, hle, hf⟩ := ho
  exact okAt_of_block hb hs (by omega) (by omega)

end
end Go.Proofs.YtfapgccnhonoiaaGreat

/- The framework, part 5: operations, typed: definitions. -/
namespace Go.Proofs.YtfapgccnhonoiaaGreat

/-- Values that are known, each with a mark: is it written out (of a bool: is it a literal)? -/
abbrev FV := Value × Bool

def onE (x : Option FV) (K : FV → Prop) : Prop :=
  match x with
  | some v => K v
  | none => False

def onSome {α : Type} (p : Option α) (K : α → Prop) : Prop :=
  match p with
  | some a => K a
  | none => False

def onL (ev : Operand → Option FV) : List Operand → (List Value → Prop) → Prop
  | [], K => K []
  | x :: r, K => onE (ev x) fun v => onL ev r fun vs => K (v.1 :: vs)

def exL (G : TypeId → (Value → Prop) → Prop) : List TypeId → (List Value → Prop) → Prop
  | [], F => F []
  | t :: ts, F => G t fun v => exL G ts fun vs => F (v :: vs)

def simpleK : TK → Bool
  | .st _ => false
  | .arr _ _ => false
  | .tup _ => false
  | .oth => false
  | _ => true

def flatB (T : List TI) : List (Nat × TypeId) → Bool
  | [] => true
  | f :: r => simpleK (lookT T f.2).k && flatB T r

def sndL : List (Nat × TypeId) → List TypeId
  | [] => []
  | f :: r => f.2 :: sndL r

/-- There is a value of this type for which F. -/
def exV (T : List TI) : Nat → TypeId → (Value → Prop) → Prop
  | 0, _, F => ∃ v, F v
  | n + 1, t, F => match (lookT T t).k with
    | .int k => ∃ i : Int, F (.int k i)
    | .bool => ∃ b : Bool, F (.bool b)
    | .str => ∃ s : ByteArray, F (.string s)
    | .ptr _ => ∃ p : Option Addr, F (.pointer p)
    | .sl _ => ∃ (a : Option Addr) (l c : Nat), F (.slice a l c)
    | .map _ _ => ∃ r : Option Nat, F (.map r)
    | .st fs => if flatB T fs = true then exL (exV T n) (sndL fs) fun vs => F (.agg ⟨vs⟩) else ∃ cs : List Value, F (.agg ⟨cs⟩)
    | .arr _ _ => ∃ cs : List Value, F (.agg ⟨cs⟩)
    | .tup ts => exL (exV T n) ts fun vs => F (.tuple ⟨vs⟩)
    | _ => ∃ v, F v

/-- The variable at this address holds this value. -/
def valAt (T : List TI) (t : TypeId) (h : Heap) (a : Addr) (v : Value) : Prop :=
  match (lookT T t).k with
  | .st _ => match v with
    | .agg cs => rowAt h a (lookT T t).size = some cs.toList
    | _ => False
  | .arr _ _ => match v with
    | .agg cs => rowAt h a (lookT T t).size = some cs.toList
    | _ => False
  | _ => cellAt h a = some v

/-- On with a new heap, behind a name. -/
def toH (new : Heap) (K : Heap → Prop) : Prop := ∀ h', h' = new → K h'

/-- A new block. -/
def newH (h : Heap) (o : Obj) (K : Nat → Heap → Prop) : Prop := ∀ b h', b = h.size → h' = h.push o → K b h'

def fld (a : Addr) (n : Nat) : Addr :=
  match n with
  | 0 => a
  | n + 1 => a.add (n + 1)

def nthL {α : Type} : List α → Nat → Option α
  | [], _ => none
  | x :: _, 0 => some x
  | _ :: r, n + 1 => nthL r n

def setL {α : Type} : List α → Nat → α → List α
  | [], _, _ => []
  | _ :: r, 0, v => v :: r
  | x :: r, n + 1, v => x :: setL r n v

def cellsL : Value → List Value
  | .agg cs => cs.toList
  | v => [v]

def kEq : IntKind → IntKind → Bool
  | .i8, .i8 => true
  | .i16, .i16 => true
  | .i32, .i32 => true
  | .i64, .i64 => true
  | .u8, .u8 => true
  | .u16, .u16 => true
  | .u32, .u32 => true
  | .u64, .u64 => true
  | _, _ => false

def bitsI (op : BinOp) (k : IntKind) (x y : Int) : Int :=
  let a := BitVec.ofInt k.bits x
  let b := BitVec.ofInt k.bits y
  match op with
  | .and => k.wrap (a &&& b).toNat
  | .or => k.wrap (a ||| b).toNat
  | .xor => k.wrap (a ^^^ b).toNat
  | _ => k.wrap (a &&& ~~~b).toNat

/-- Integers. -/
def dInt (op : BinOp) (k : IntKind) (a b : Int) (K : FV → Prop) : Prop :=
  match op with
  | .add => K (.int k (k.wrap (a + b)), false)
  | .sub => K (.int k (k.wrap (a - b)), false)
  | .mul => K (.int k (k.wrap (a * b)), false)
  | .quo => b ≠ 0 ∧ K (.int k (k.wrap (a.tdiv b)), false)
  | .rem => b ≠ 0 ∧ K (.int k (a.tmod b), false)
  | .and => K (.int k (bitsI .and k a b), false)
  | .or => K (.int k (bitsI .or k a b), false)
  | .xor => K (.int k (bitsI .xor k a b), false)
  | .andNot => K (.int k (bitsI .andNot k a b), false)
  | .shl => 0 ≤ b ∧ K (.int k (k.wrap (a * 2 ^ (min b.toNat k.bits))), false)
  | .shr => 0 ≤ b ∧ K (.int k (a.fdiv (2 ^ (min b.toNat k.bits))), false)
  | .eql => K (.bool (a == b), false)
  | .neq => K (.bool (a != b), false)
  | .lss => K (.bool (decide (a < b)), false)
  | .leq => K (.bool (decide (a ≤ b)), false)
  | .gtr => K (.bool (decide (a > b)), false)
  | .geq => K (.bool (decide (a ≥ b)), false)

/-- Is it the one that is nil? (against a nil that is written out) -/
def dNil {α : Type} (p q : Option α) (K : Bool → Prop) : Prop :=
  match q with
  | none => K p.isNone
  | some _ => match p with
    | none => K false
    | some _ => False

/-- Equality of the cells of two structs of integers and bools. -/
def eqCells : List Value → List Value → Option Bool
  | [], [] => some true
  | .int k a :: r, .int k' b :: s => if kEq k k' then (eqCells r s).map fun t => a == b && t else none
  | .bool a :: r, .bool b :: s => (eqCells r s).map fun t => a == b && t
  | _, _ => none

def allSimple (T : List TI) : List (Nat × TypeId) → List Value → Bool
  | [], [] => true
  | f :: fs, .int k _ :: vs => (match (lookT T f.2).k with | .int k' => kEq k k' | _ => false) && allSimple T fs vs
  | f :: fs, .bool _ :: vs => (match (lookT T f.2).k with | .bool => true | _ => false) && allSimple T fs vs
  | _, _ => false

/-- The offsets of a struct's fields rise by one. -/
def risesB : Nat → List (Nat × TypeId) → Bool
  | _, [] => true
  | n, f :: r => Nat.beq f.1 n && risesB (n + 1) r

/-- == on values that are no integers. -/
def dEq (T : List TI) (t : TypeId) (v w : Value) (K : Bool → Prop) : Prop :=
  match v, w with
  | .bool a, .bool b => match (lookT T t).k with
    | .bool => K (a == b)
    | _ => False
  | .string a, .string b => match (lookT T t).k with
    | .str => K (a == b)
    | _ => False
  | .pointer p, .pointer q => match (lookT T t).k with
    | .ptr _ => dNil p q K
    | _ => False
  | .slice p _ _, .slice q _ _ => match (lookT T t).k with
    | .sl _ => dNil p q K
    | _ => False
  | .map p, .map q => match (lookT T t).k with
    | .map _ _ => dNil p q K
    | _ => False
  | .func _ _ _, .nilFunc => match (lookT T t).k with
    | .fn => K false
    | _ => False
  | .nilFunc, .nilFunc => match (lookT T t).k with
    | .fn => K true
    | _ => False
  | .agg xs, .agg ys => match (lookT T t).k with
    | .st fs => allSimple T fs xs.toList = true ∧ allSimple T fs ys.toList = true ∧ risesB 0 fs = true ∧ ∃ b, eqCells xs.toList ys.toList = some b ∧ K b
    | _ => False
  | _, _ => False

def dBinO (T : List TI) (op : BinOp) (t : TypeId) (v w : Value) (K : FV → Prop) : Prop :=
  match op with
  | .eql => dEq T t v w fun b => K (.bool b, false)
  | .neq => dEq T t v w fun b => K (.bool (!b), false)
  | _ => False

def dBin (T : List TI) (op : BinOp) (t : TypeId) (v w : Value) (K : FV → Prop) : Prop :=
  match v, w with
  | .int k a, .int k' b => match op with
    | .shl => dInt .shl k a b K
    | .shr => dInt .shr k a b K
    | op => match kEq k k' with
      | true => dInt op k a b K
      | false => False
  | v, w => dBinO T op t v w K

def dUn (op : UnOp) (v : Value) (K : FV → Prop) : Prop :=
  match v with
  | .bool b => match op with
    | .not => K (.bool (!b), false)
    | _ => False
  | .int k n => match op with
    | .neg => K (.int k (k.wrap (0 - n)), false)
    | .xor => K (.int k (bitsI .xor k (if k.signed then -1 else k.max) n), false)
    | _ => False
  | _ => False

def dConv (T : List TI) (d : TypeId) (v : Value) (K : FV → Prop) : Prop :=
  match v with
  | .int _ n => match (lookT T d).k with
    | .int k => K (.int k (k.wrap n), false)
    | _ => False
  | _ => False

/-- All parts, in their order, one behind the other. -/
def catL : List (List Value) → List Value
  | [] => []
  | [c] => c
  | c :: r => c ++ catL r

/-- A row of m elements of zero cells z. -/
def zrow (z : List Value) : Nat → List Value
  | 0 => []
  | n + 1 => z ++ zrow z n

def partsL (ev : Operand → Option FV) : List (Nat × Operand) → (List (Nat × Value) → Prop) → Prop
  | [], K => K []
  | x :: r, K => onE (ev x.2) fun v => partsL ev r fun vs => K ((x.1, v.1) :: vs)

/-- The parts are the fields from i on, all of them, in order. -/
def coversB : Nat → Nat → List (Nat × Value) → Bool
  | i, n, [] => Nat.beq i n
  | i, n, x :: r => Nat.beq x.1 i && coversB (i + 1) n r

def sizesOK (T : List TI) : List TypeId → List (Nat × Value) → Prop
  | t :: ts, x :: r => (cellsL x.2).length = (lookT T t).size ∧ sizesOK T ts r
  | _, _ => True

def contigB (T : List TI) : Nat → List (Nat × TypeId) → Bool
  | _, [] => true
  | n, f :: r => Nat.beq f.1 n && contigB T (n + (lookT T f.2).size) r

def sumT (T : List TI) : List (Nat × TypeId) → Nat
  | [] => 0
  | f :: r => (lookT T f.2).size + sumT T r

def cellsOfParts : List (Nat × Value) → List (List Value)
  | [] => []
  | x :: r => cellsL x.2 :: cellsOfParts r

/-- Single cells laid into zero cells. -/
def layOnes (T : List TI) (fs : List (Nat × TypeId)) : List Value → List (Nat × Value) → Option (List Value)
  | z, [] => some z
  | z, x :: r => match nthL fs x.1 with
    | some f => match Nat.beq (lookT T f.2).size 1 && Nat.ble (f.1 + 1) z.length with
      | true => match isCell x.2 with
        | true => layOnes T fs (setL z f.1 x.2) r
        | false => none
      | false => none
    | none => none

def dBuild (T : List TI) (t : TypeId) (ps : List (Nat × Value)) (K : FV → Prop) : Prop :=
  match (lookT T t).k with
  | .st fs => match flatB T fs with
    | true => match layOnes T fs (lookT T t).zero ps with
      | some cs => K (.agg ⟨cs⟩, false)
      | none => False
    | false => match coversB 0 fs.length ps && contigB T 0 fs && Nat.beq (sumT T fs) (lookT T t).zero.length with
      | true => sizesOK T (sndL fs) ps ∧ K (.agg ⟨catL (cellsOfParts ps)⟩, false)
      | false => match ps with
        | [] => K (.agg ⟨(lookT T t).zero⟩, false)
        | _ => False
  | .arr _ _ => match ps with
    | [] => K (.agg ⟨(lookT T t).zero⟩, false)
    | _ => False
  | _ => False

/-- A composite literal of a slice: elements in order, or none. -/
def dBuildSlice (T : List TI) (t : TypeId) (len : Nat) (ps : List (Nat × Value)) (h : Heap) (K : FV → Heap → Prop) : Prop :=
  match (lookT T t).k with
  | .sl e => match coversB 0 len ps && Nat.ble (len * (lookT T e).size) 16777216 with
    | true => elemsOK T e ps ∧ newH h (.cells ⟨catL (cellsOfParts ps)⟩ e) fun b h' => K (.slice (some ⟨b, 0, none⟩) len len, false) h'
    | false => False
  | _ => False
where
  elemsOK (T : List TI) (e : TypeId) : List (Nat × Value) → Prop
    | [] => True
    | x :: r => (cellsL x.2).length = (lookT T e).size ∧ elemsOK T e r

def sliceAddr (a : Option Addr) (m l size : Nat) : Option Addr := if m = l then a else a.map (·.add (l * size))

/-- x[lo:hi] -/
def dSlice (T : List TI) (t : TypeId) (x : Value) (lo hi : Option Int) (K : FV → Prop) : Prop :=
  match x with
  | .slice a len cap => match (lookT T t).k with
    | .sl e => match hi with
      | some i => (0 ≤ i ∧ i ≤ cap) ∧ (match lo with
        | some j => (0 ≤ j ∧ j ≤ i.toNat) ∧ K (.slice (sliceAddr a cap j.toNat (lookT T e).size) (i.toNat - j.toNat) (cap - j.toNat), false)
        | none => K (.slice a i.toNat cap, false))
      | none => match lo with
        | some j => (0 ≤ j ∧ j ≤ len) ∧ K (.slice (sliceAddr a cap j.toNat (lookT T e).size) (len - j.toNat) (cap - j.toNat), false)
        | none => K (.slice a len cap, false)
    | _ => False
  | .pointer p => match (lookT T t).k with
    | .arr n e => onSome p fun a => match hi with
      | some i => (0 ≤ i ∧ i ≤ n) ∧ (match lo with
        | some j => (0 ≤ j ∧ j ≤ i.toNat) ∧ K (.slice (sliceAddr (some a) n j.toNat (lookT T e).size) (i.toNat - j.toNat) (n - j.toNat), false)
        | none => K (.slice (some a) i.toNat n, false))
      | none => match lo with
        | some j => (0 ≤ j ∧ j ≤ n) ∧ K (.slice (sliceAddr (some a) n j.toNat (lookT T e).size) (n - j.toNat) (n - j.toNat), false)
        | none => K (.slice (some a) n n, false)
    | _ => False
  | .string s => match (lookT T t).k with
    | .str => match hi with
      | some i => (0 ≤ i ∧ i ≤ s.size) ∧ (match lo with
        | some j => (0 ≤ j ∧ j ≤ i.toNat) ∧ K (.string (s.extract j.toNat i.toNat), false)
        | none => K (.string (s.extract 0 i.toNat), false))
      | none => match lo with
        | some j => (0 ≤ j ∧ j ≤ s.size) ∧ K (.string (s.extract j.toNat s.size), false)
        | none => K (.string (s.extract 0 s.size), false)
    | _ => False
  | _ => False

/-- &x[i] -/
def dIndexAddr (T : List TI) (t : TypeId) (x : Value) (i : Int) (K : FV → Prop) : Prop :=
  match x with
  | .slice a len _ => match (lookT T t).k with
    | .sl e => onSome a fun b => (0 ≤ i ∧ i < len) ∧ K (.pointer (some (b.add (i.toNat * (lookT T e).size))), false)
    | _ => False
  | .pointer p => match (lookT T t).k with
    | .arr n e => onSome p fun b => (0 ≤ i ∧ i < n) ∧ K (.pointer (some (b.add (i.toNat * (lookT T e).size))), false)
    | _ => False
  | _ => False

/-- x[i] of an array's value or a string. -/
def dIndex (T : List TI) (t : TypeId) (x : Value) (i : Int) (K : FV → Prop) : Prop :=
  match x with
  | .agg cs => match (lookT T t).k with
    | .arr n e => match simpleK (lookT T e).k with
      | true => (0 ≤ i ∧ i < n) ∧ Nat.beq (lookT T e).size 1 = true ∧ exV T 2 e fun v => cs.toList[i.toNat]? = some v ∧ K (v, false)
      | false => False
    | _ => False
  | .string s => match (lookT T t).k with
    | .str => (0 ≤ i ∧ i < s.size) ∧ ∃ b : UInt8, s[i.toNat]? = some b ∧ K (.int .u8 b.toNat, false)
    | _ => False
  | _ => False

/-- A field of a struct's value. -/
def dField (T : List TI) (t : TypeId) (x : Value) (f : Nat) (K : FV → Prop) : Prop :=
  match x with
  | .agg cs => match (lookT T t).k with
    | .st fs => match nthL fs f with
      | some g => match simpleK (lookT T g.2).k with
        | true => match nthL cs.toList g.1 with
          | some v => K (v, false)
          | none => False
        | false => match (lookT T g.2).k with
          | .arr _ _ => K (.agg ⟨(cs.toList.drop g.1).take (lookT T g.2).size⟩, false)
          | .st _ => K (.agg ⟨(cs.toList.drop g.1).take (lookT T g.2).size⟩, false)
          | _ => False
      | none => False
    | _ => False
  | _ => False

/-! ### Maps -/

def keyEq : Value → Value → Option Bool
  | .int k a, .int k' b => if kEq k k' then some (a == b) else none
  | .string a, .string b => some (a == b)
  | .bool a, .bool b => some (a == b)
  | _, _ => none

/-- All keys are of this key's kind. -/
def keysOK (key : Value) (es : Array MapEntry) : Prop := ∀ e ∈ es.toList, (keyEq key e.key).isSome = true

def mfindL (key : Value) : List MapEntry → Nat → Option (Nat × Value)
  | [], _ => none
  | e :: r, i => if keyEq key e.key = some true then some (i, e.val) else mfindL key r (i + 1)

def mfind (key : Value) (es : Array MapEntry) : Option (Nat × Value) := mfindL key es.toList 0
def mget (key : Value) (es : Array MapEntry) : Option Value := (mfind key es).map (·.2)

def keyKind (T : List TI) (t : TypeId) (key : Value) : Bool :=
  match key with
  | .int k _ => match (lookT T t).k with
    | .int k' => kEq k k'
    | _ => false
  | .string _ => match (lookT T t).k with
    | .str => true
    | _ => false
  | .bool _ => match (lookT T t).k with
    | .bool => true
    | _ => false
  | _ => false

/-- What a map holds; of a nil map nothing. -/
def mapIs (h : Heap) (r : Option Nat) (es : Array MapEntry) : Prop :=
  match r with
  | none => es = #[]
  | some b => ∃ clk, h[b]? = some (.map es clk)

def mput (es : Array MapEntry) (clk : Nat) (key v : Value) : Obj :=
  match mfind key es with
  | some (i, _) => .map (es.modify i fun e => { e with key := key, val := v }) clk
  | none => .map (es.push { key := key, val := v, born := clk }) (clk + 1)

def dLookup (T : List TI) (t : TypeId) (m key : Value) (ok : Bool) (h : Heap) (K : FV → Prop) : Prop :=
  match m with
  | .map r => match (lookT T t).k with
    | .map kt e => match keyKind T kt key with
      | true => ∃ es, mapIs h r es ∧ keysOK key es ∧
          (∀ v, mget key es = some v → exV T 2 e fun u => v = u ∧ (match ok with | true => K (.tuple ⟨[u, .bool true]⟩, true) | false => K (u, false))) ∧
          (mget key es = none → (match ok with | true => K (.tuple ⟨[zeroV T e, .bool false]⟩, true) | false => K (zeroV T e, false)))
      | false => False
    | _ => False
  | _ => False

def dMapUpdate (T : List TI) (t : TypeId) (m key v : Value) (h : Heap) (K : FV → Heap → Prop) : Prop :=
  match m with
  | .map r => match (lookT T t).k with
    | .map kt _ => match keyKind T kt key with
      | true => onSome r fun b => ∃ es clk, h[b]? = some (.map es clk) ∧ keysOK key es ∧ toH (h.setIfInBounds b (mput es clk key v)) fun h' => K (undef, true) h'
      | false => False
    | _ => False
  | _ => False

def dDelete (T : List TI) (t : TypeId) (m key : Value) (h : Heap) (K : FV → Heap → Prop) : Prop :=
  match m with
  | .map r => match (lookT T t).k with
    | .map kt _ => match keyKind T kt key with
      | true => onSome r fun b => ∃ es clk, h[b]? = some (.map es clk) ∧ keysOK key es ∧
          toH (h.setIfInBounds b (match mfind key es with | some (i, _) => .map (es.eraseIdxIfInBounds i) clk | none => .map es clk)) fun h' => K (.tuple ⟨[]⟩, true) h'
      | false => False
    | _ => False
  | _ => False

def dClear (T : List TI) (t : TypeId) (m : Value) (h : Heap) (K : FV → Heap → Prop) : Prop :=
  match m with
  | .map r => match (lookT T t).k with
    | .map _ _ => match r with
      | some b => ∃ es clk, h[b]? = some (.map es clk) ∧ toH (h.setIfInBounds b (.map #[] clk)) fun h' => K (.tuple ⟨[]⟩, true) h'
      | none => K (.tuple ⟨[]⟩, true) h
    | _ => False
  | _ => False

def dLen (T : List TI) (t : TypeId) (x : Value) (h : Heap) (K : FV → Prop) : Prop :=
  match x with
  | .slice _ n _ => match (lookT T t).k with
    | .sl _ => K (.int .i64 (n : Nat), false)
    | _ => False
  | .string s => match (lookT T t).k with
    | .str => K (.int .i64 (s.size : Nat), false)
    | _ => False
  | .map r => match (lookT T t).k with
    | .map _ _ => ∃ es, mapIs h r es ∧ K (.int .i64 (es.size : Nat), false)
    | _ => False
  | .agg _ => match (lookT T t).k with
    | .arr n _ => K (.int .i64 (n : Nat), false)
    | _ => False
  | .pointer _ => match (lookT T t).k with
    | .ptr a => match (lookT T a).k with
      | .arr n _ => K (.int .i64 (n : Nat), false)
      | _ => False
    | .arr n _ => K (.int .i64 (n : Nat), false)
    | _ => False
  | _ => False

def dCap (T : List TI) (t : TypeId) (x : Value) (K : FV → Prop) : Prop :=
  match x with
  | .slice _ _ n => match (lookT T t).k with
    | .sl _ => K (.int .i64 (n : Nat), false)
    | _ => False
  | _ => False

/-! ### append, copy -/

/-- The cells of what is appended or copied: n elements of a slice, or a string's bytes. -/
def srcIs (h : Heap) (size n : Nat) (x : Value) (cs : List Value) : Prop :=
  match x with
  | .slice a _ _ => match a with
    | some b => rowAt h b (n * size) = some cs
    | none => cs = []
  | .string s => cs = (s.data.toList.take n).map fun b => .int .u8 b.toNat
  | _ => False

def srcLen : Value → Option Nat
  | .slice _ n _ => some n
  | .string s => some s.size
  | _ => none

/-- append(s, x...): into what room there is, or into a new row of whatever capacity. -/
def dAppend (T : List TI) (t : TypeId) (s x : Value) (h : Heap) (K : FV → Heap → Prop) : Prop :=
  match s with
  | .slice base len cap => match (lookT T t).k with
    | .sl e => onSome (srcLen x) fun n => ∃ news, srcIs h (lookT T e).size n x news ∧ (∀ v ∈ news, isCell v = true) ∧ news.length = n * (lookT T e).size ∧
        (len + n ≤ cap → match base with
          | some a => okRow h (a.add (len * (lookT T e).size)) news.length ∧ toH (updRow h (a.add (len * (lookT T e).size)) 0 news) fun h' => K (.slice base (len + n) cap, false) h'
          | none => K (.slice base (len + n) cap, false) h) ∧
        (cap < len + n → (len + n) * (lookT T e).bytes ≤ 70368744177664 ∧ 0 < (lookT T e).bytes ∧
          ∃ olds, srcIs h (lookT T e).size len s olds ∧
          ∀ nc, len + n ≤ nc → newH h (.cells ⟨olds ++ news ++ zrow (lookT T e).zero (nc - (len + n))⟩ e) fun b h' => K (.slice (some ⟨b, 0, none⟩) (len + n) nc, false) h')
    | _ => False
  | _ => False

def dCopy (T : List TI) (t : TypeId) (d x : Value) (h : Heap) (K : FV → Heap → Prop) : Prop :=
  match d with
  | .slice base len _ => match (lookT T t).k with
    | .sl e => onSome (srcLen x) fun n => ∃ news, srcIs h (lookT T e).size (min n len) x news ∧ (∀ v ∈ news, isCell v = true) ∧
        (match base with
          | some a => okRow h a news.length ∧ toH (updRow h a 0 news) fun h' => K (.int .i64 (min n len : Nat), false) h'
          | none => K (.int .i64 (min n len : Nat), false) h)
    | _ => False
  | _ => False

def dMakeSlice (T : List TI) (t : TypeId) (l c : Value) (h : Heap) (K : FV → Heap → Prop) : Prop :=
  match l, c with
  | .int _ l, .int _ c => match (lookT T t).k with
    | .sl e => (0 ≤ l ∧ l ≤ c ∧ ((lookT T e).bytes : Int) * c ≤ 281474976710656 ∧ c ≤ 281474976710656) ∧
        newH h (.cells ⟨zrow (lookT T e).zero c.toNat⟩ e) fun b h' => K (.slice (some ⟨b, 0, none⟩) l.toNat c.toNat, false) h'
    | _ => False
  | _, _ => False

/-! ### Ranging over a map or a string -/

def dRange (T : List TI) (t : TypeId) (x : Value) (h : Heap) (K : FV → Heap → Prop) : Prop :=
  match x with
  | .map r => match (lookT T t).k with
    | .map _ _ => match r with
      | some m => ∃ es clk, h[m]? = some (.map es clk) ∧ newH h (.mapIter (some m) clk #[] clk) fun b h' => K (.pointer (some ⟨b, 0, none⟩), false) h'
      | none => newH h (.mapIter none 0 #[] 0) fun b h' => K (.pointer (some ⟨b, 0, none⟩), false) h'
    | _ => False
  | .string s => match (lookT T t).k with
    | .str => newH h (.stringIter s 0) fun b h' => K (.pointer (some ⟨b, 0, none⟩), false) h'
    | _ => False
  | _ => False

/-- The entries that a step of a range over a map may tell. -/
def mayNext (es : Array MapEntry) (since : Nat) (seen : Array Nat) (e : MapEntry) : Prop := e ∈ es.toList ∧ seen.contains e.born = false
/-- No entry of those that were there at the start is left. -/
def mayEnd (es : Array MapEntry) (since : Nat) (seen : Array Nat) : Prop := ∀ e ∈ es.toList, seen.contains e.born = false → since ≤ e.born

def dNext (T : List TI) (t : TypeId) (it : Value) (isString : Bool) (h : Heap) (K : FV → Heap → Prop) : Prop :=
  match it with
  | .pointer p => onSome p fun a => a.off = 0 ∧ (match isString with
    | false => (h[a.block]? = some (.mapIter none 0 #[] 0) ∧ K (.tuple ⟨[.bool false]⟩, true) h) ∨
        ∃ m since seen last es clk, h[a.block]? = some (.mapIter (some m) since seen last) ∧ h[m]? = some (.map es clk) ∧
        (seen.isEmpty = true ∨ es.isEmpty = true ∨ ∃ e ∈ es.toList, e.born < last) ∧
        (∀ e, mayNext es since seen e → toH (h.setIfInBounds a.block (.mapIter (some m) since (seen.push e.born) clk)) fun h' =>
          match (lookT T t).k with
          | .tup [_, kt, vt] => exV T 2 kt fun k => e.key = k ∧ exV T 2 vt fun v => e.val = v ∧ K (.tuple ⟨[.bool true, k, v]⟩, true) h'
          | _ => K (.tuple ⟨[.bool true, e.key, e.val]⟩, true) h') ∧
        (mayEnd es since seen → K (.tuple ⟨[.bool false]⟩, true) h)
    | true => ∃ s pos, h[a.block]? = some (.stringIter s pos) ∧
        (pos < s.size → toH (h.setIfInBounds a.block (.stringIter s (pos + (Utf8.decode s pos).2))) fun h' => K (.tuple ⟨[.bool true, .int .i64 (pos : Nat), .int .i32 (Utf8.decode s pos).1]⟩, true) h') ∧
        (s.size ≤ pos → K (.tuple ⟨[.bool false]⟩, true) h))
  | _ => False

def dEntry (T : List TI) (t : TypeId) (it : Value) (h : Heap) (K : FV → Prop) : Prop :=
  match it with
  | .pointer p => onSome p fun a => a.off = 0 ∧ ∃ m since seen last es stamp e, h[a.block]? = some (.mapIter (some m) since seen last) ∧ seen.back? = some stamp ∧ h[m]? = some (.map es last) ∧
      es.find? (fun e => e.born == stamp) = some e ∧
      (match (lookT T t).k with
        | .tup [kt, vt] => exV T 2 kt fun k => e.key = k ∧ exV T 2 vt fun v => e.val = v ∧ K (.tuple ⟨[k, v]⟩, false)
        | _ => K (.tuple ⟨[e.key, e.val]⟩, false))
  | _ => False

def minI (l : List Value) (K : FV → Prop) : Prop :=
  match l with
  | [.int k a, .int k' b] => match kEq k k' with
    | true => K (.int k (if b < a then b else a), false)
    | false => False
  | _ => False

def maxI (l : List Value) (K : FV → Prop) : Prop :=
  match l with
  | [.int k a, .int k' b] => match kEq k k' with
    | true => K (.int k (if a < b then b else a), false)
    | false => False
  | _ => False

/-- The built-in functions. -/
def dBuiltin (T : List TI) (b : Builtin) (ts : List TypeId) (vs : List Value) (h : Heap) (K : FV → Heap → Prop) : Prop :=
  match ts with
  | [] => False
  | t :: r => match b with
    | .len => match vs with
      | [x] => dLen T t x h fun r => K r h
      | _ => False
    | .cap => match vs with
      | [x] => dCap T t x fun r => K r h
      | _ => False
    | .append => match vs with
      | [s, x] => match r with
        | [t2] => match (lookT T t2).k with
          | .sl _ => dAppend T t s x h K
          | .str => dAppend T t s x h K
          | _ => False
        | _ => False
      | _ => False
    | .copy => match vs with
      | [s, x] => dCopy T t s x h K
      | _ => False
    | .delete => match vs with
      | [m, k] => dDelete T t m k h K
      | _ => False
    | .clear => match vs with
      | [m] => dClear T t m h K
      | _ => False
    | .min => minI vs fun r => K r h
    | .max => maxI vs fun r => K r h
    | _ => False

/-- A call's answer, typed. -/
def ansH (T : List TI) (t : TypeId) (K : FV → Heap → Prop) (r : Value) (h : Heap) : Prop := exV T 3 t fun v => r = v ∧ K (v, false) h

/-- One operation. -/
def dOp (P : Program) (T : List TI) (o : Oper) (ev : Operand → Option FV) (K : FV → Heap → Prop) (h : Heap) : Prop :=
  match o.op with
  | .move x => onE (ev x) fun v => K v h
  | .assign x => onE (ev x) fun v => K v h
  | .pick c a b => onE (ev c) fun vc => onE (ev a) fun va => onE (ev b) fun vb =>
    match vc.1 with
    | .bool t => match vc.2 with
      | true => match t with
        | true => K va h
        | false => K vb h
      | false => (t = true → K va h) ∧ (t = false → K vb h)
    | _ => False
  | .alloc e => match (lookT T e).k with
    | .oth => False
    | _ => newH h (.cells ⟨(lookT T e).zero⟩ e) fun b h' => K (.pointer (some ⟨b, 0, none⟩), false) h'
  | .box e x => onE (ev x) fun v => newH h (.cells ⟨cellsL v.1⟩ e) fun b h' => K (.pointer (some ⟨b, 0, none⟩), false) h'
  | .build t ps => partsL ev ps.toList fun l => dBuild T t l fun v => K v h
  | .buildSlice t n ps => partsL ev ps.toList fun l => dBuildSlice T t n l h K
  | .load t x => onE (ev x) fun v => match v.1 with
    | .pointer p => onSome p fun a => match (lookT T t).k with
      | .oth => False
      | _ => exV T 2 t fun u => valAt T t h a u ∧ K (u, false) h
    | _ => False
  | .store t x y => onE (ev x) fun v => match v.1 with
    | .pointer p => onSome p fun a => onE (ev y) fun u => match u.1 with
      | .agg cs => cs.toList.length = (lookT T t).size ∧ (∀ c ∈ cs.toList, isCell c = true) ∧ okRow h a (lookT T t).size ∧ (lookT T t).k ≠ .oth ∧ toH (updRow h a 0 cs.toList) fun h' => K (undef, true) h'
      | w => match simpleK (lookT T t).k && Nat.beq (lookT T t).size 1 with
        | true => isCell w = true ∧ okAt h a ∧ toH (upd h a w) fun h' => K (undef, true) h'
        | false => False
    | _ => False
  | .nilCheck x => onE (ev x) fun v => match v.1 with
    | .pointer p => onSome p fun a => K (.pointer (some a), false) h
    | .func (.func f) fi ca => K (.func (.func f) fi ca, false) h
    | _ => False
  | .binOp op t x y _ => onE (ev x) fun v => onE (ev y) fun w => dBin T op t v.1 w.1 fun r => K r h
  | .unOp op _ x => onE (ev x) fun v => dUn op v.1 fun r => K r h
  | .convert s d x => match isOth (lookT T s).k with
    | true => False
    | false => onE (ev x) fun v => dConv T d v.1 fun r => K r h
  | .sliceToArrayPointer t x => onE (ev x) fun v => match v.1 with
    | .slice a len _ => match (lookT T t).k with
      | .arr n _ => n ≤ len ∧ K (.pointer a, false) h
      | _ => False
    | _ => False
  | .makeFunc fn first cap => onL ev first.toList fun fs => onL ev cap.toList fun cs => K (.func fn ⟨fs⟩ ⟨cs⟩, false) h
  | .makeMap t r => match (lookT T t).k with
    | .map _ _ => match r with
      | none => newH h (.map #[] 0) fun b h' => K (.map (some b), false) h'
      | some x => onE (ev x) fun v => match v.1 with
        | .int _ _ => newH h (.map #[] 0) fun b h' => K (.map (some b), false) h'
        | _ => False
    | _ => False
  | .makeSlice t l c => onE (ev l) fun vl => onE (ev c) fun vc => dMakeSlice T t vl.1 vc.1 h K
  | .slice t x lo hi mx => match mx with
    | none => onE (ev x) fun v => optI ev lo fun a => optI ev hi fun b => dSlice T t v.1 a b fun r => K r h
    | some _ => False
  | .fieldAddr t x f => onE (ev x) fun v => match v.1 with
    | .pointer p => onSome p fun a => match (lookT T t).k with
      | .st fs => match nthL fs f with
        | some g => match Nat.beq (lookT T g.2).size 0 with
          | true => False
          | false => match (lookT T g.2).k with
            | .oth => False
            | _ => K (.pointer (some (fld a g.1)), false) h
        | none => False
      | _ => False
    | _ => False
  | .field t x f => onE (ev x) fun v => dField T t v.1 f fun r => K r h
  | .indexAddr t x i => onE (ev x) fun v => onE (ev i) fun w => match w.1 with
    | .int _ n => dIndexAddr T t v.1 n fun r => K r h
    | _ => False
  | .index t x i => onE (ev x) fun v => onE (ev i) fun w => match w.1 with
    | .int _ n => dIndex T t v.1 n fun r => K r h
    | _ => False
  | .lookup t m k ok => onE (ev m) fun v => onE (ev k) fun w => dLookup T t v.1 w.1 ok h fun r => K r h
  | .mapUpdate t m k x => onE (ev m) fun v => onE (ev k) fun w => onE (ev x) fun u => dMapUpdate T t v.1 w.1 u.1 h K
  | .range t x => onE (ev x) fun v => dRange T t v.1 h K
  | .next it s => onE (ev it) fun v => dNext T o.type v.1 s h K
  | .entry it => onE (ev it) fun v => dEntry T o.type v.1 h fun r => K r h
  | .extract x i => onE (ev x) fun v => match v.1 with
    | .tuple vs => match nthL vs.toList i with
      | some u => K (u, v.2) h
      | none => False
    | _ => False
  | .call c => match c.callee with
    | .value f => onE (ev f) fun vf => onL ev c.args.toList fun vs => match vf.1 with
      | .func (.func g) fi ca => entersB P g = true ∧ CallH P g ⟨fi.toList ++ vs ++ ca.toList⟩ h (ansH T o.type K)
      | v => CallV P v ⟨vs⟩ h (ansH T o.type K)
    | .builtin b => onL ev c.args.toList fun vs => dBuiltin T b c.argTypes.toList vs h K
    | .invoke _ _ => False
  | _ => False
where
  optI (ev : Operand → Option FV) (x : Option Operand) (K : Option Int → Prop) : Prop :=
    match x with
    | none => K none
    | some y => onE (ev y) fun v => match v.1 with
      | .int _ n => K (some n)
      | _ => False

end Go.Proofs.YtfapgccnhonoiaaGreat

/- The framework, part 6: operations, typed: what their definitions say is so. First half: all but memory's larger terms. -/
namespace Go.Proofs.YtfapgccnhonoiaaGreat

section
variable {P : Program} {T : List TI}

theorem semH_v {s : Sem Value} {K : Value → Heap → Prop} {h : Heap} (hs : semH P s K h) : semH P (do pure (.value (← s))) (nextH P K) h :=
  (semH_bind' _ _ _ _).2 (semH_mono s (fun _ _ hk => hk) hs)

theorem semH_u {s : Sem Unit} {K : Value → Heap → Prop} {h : Heap} (hs : semH P s (fun _ h' => K undef h') h) : semH P (do s; pure .skip) (nextH P K) h :=
  (semH_bind' _ _ _ _).2 (semH_mono s (fun _ _ hk => hk) hs)

theorem kEq_spec {k k' : IntKind} (h : kEq k k' = true) : k = k' := by cases k <;> cases k' <;> simp_all [kEq]

theorem exL_ex {G : TypeId → (Value → Prop) → Prop} (hG : ∀ t F, G t F → ∃ v, F v) : ∀ (ts : List TypeId) (F : List Value → Prop), exL G ts F → ∃ vs, F vs
  | [], F, h => ⟨[], h⟩
  | t :: ts, F, h => by
    obtain ⟨v, hv⟩ := hG _ _ h
    obtain ⟨vs, hvs⟩ := exL_ex hG ts _ hv
    exact ⟨v :: vs, hvs⟩

theorem exV_ex (T : List TI) : ∀ (n : Nat) (t : TypeId) (F : Value → Prop), exV T n t F → ∃ v, F v
  | 0, _, _, h => h
  | n + 1, t, F, h => by
    unfold exV at h
    split at h
    · obtain ⟨i, h⟩ := h; exact ⟨_, h⟩
    · obtain ⟨i, h⟩ := h; exact ⟨_, h⟩
    · obtain ⟨i, h⟩ := h; exact ⟨_, h⟩
    · obtain ⟨i, h⟩ := h; exact ⟨_, h⟩
    · obtain ⟨a, l, c, h⟩ := h; exact ⟨_, h⟩
    · obtain ⟨i, h⟩ := h; exact ⟨_, h⟩
    · split at h
      · obtain ⟨vs, h⟩ := exL_ex (exV_ex T n) _ _ h; exact ⟨_, h⟩
      · obtain ⟨cs, h⟩ := h; exact ⟨_, h⟩
    · obtain ⟨cs, h⟩ := h; exact ⟨_, h⟩
    · obtain ⟨vs, h⟩ := exL_ex (exV_ex T n) _ _ h; exact ⟨_, h⟩
    · exact h

theorem onE_spec {x : Option FV} {K : FV → Prop} (h : onE x K) : ∃ v, x = some v ∧ K v := by
  cases x with
  | none => exact h.elim
  | some v => exact ⟨v, rfl, h⟩

theorem onSome_spec {α : Type} {p : Option α} {K : α → Prop} (h : onSome p K) : ∃ a, p = some a ∧ K a := by
  cases p with
  | none => exact h.elim
  | some v => exact ⟨v, rfl, h⟩

theorem onL_spec {ev : Operand → Option FV} {ρ : Operand → Value} (hev : ∀ x v, ev x = some v → ρ x = v.1) : ∀ (l : List Operand) (K : List Value → Prop), onL ev l K → K (l.map ρ)
  | [], _, h => h
  | x :: r, K, h => by
    obtain ⟨v, hv, h⟩ := onE_spec h
    have := onL_spec hev r _ h
    rw [List.map_cons, hev x v hv]
    exact this

theorem partsL_spec {ev : Operand → Option FV} {ρ : Operand → Value} (hev : ∀ x v, ev x = some v → ρ x = v.1) : ∀ (l : List (Nat × Operand)) (K : List (Nat × Value) → Prop), partsL ev l K → K (l.map fun x => (x.1, ρ x.2))
  | [], _, h => h
  | x :: r, K, h => by
    obtain ⟨v, hv, h⟩ := onE_spec h
    have := partsL_spec hev r _ h
    rw [List.map_cons, hev x.2 v hv]
    exact this

theorem tk_ne_oth {t : TypeId} {k : TK} (h : (lookT T t).k = k) (hk : k ≠ .oth) : (lookT T t).k ≠ .oth := by rw [h]; exact hk

theorem semH_pure' {α : Type} {a : α} {K : α → Heap → Prop} {h : Heap} (hk : K a h) : semH P (pure a : Sem α) K h := hk

/-! ### Numbers -/

theorem sem_int {op : BinOp} {k : IntKind} {a b : Int} {K : FV → Prop} {h : Heap} (hd : dInt op k a b K) :
    semH P (binOp op 0 (.int k a) (.int k b)) (fun v h' => h' = h ∧ ∃ t, K (v, t)) h := by
  cases op <;> simp only [dInt] at hd <;> simp only [binOp, ne_eq, not_true_eq_false, if_false, Op.intArith, Op.intDiv, Op.intBits, Op.intCmp, Op.shift]
  case add => exact ⟨rfl, _, hd⟩
  case sub => exact ⟨rfl, _, hd⟩
  case mul => exact ⟨rfl, _, hd⟩
  case quo => rw [if_neg hd.1]; exact ⟨rfl, _, hd.2⟩
  case rem => rw [if_neg hd.1]; exact ⟨rfl, _, hd.2⟩
  case and => exact ⟨rfl, _, hd⟩
  case or => exact ⟨rfl, _, hd⟩
  case xor => exact ⟨rfl, _, hd⟩
  case andNot => exact ⟨rfl, _, hd⟩
  case shl => rw [if_neg (by omega)]; exact ⟨rfl, _, hd.2⟩
  case shr => rw [if_neg (by omega)]; exact ⟨rfl, _, hd.2⟩
  case eql => exact ⟨rfl, _, hd⟩
  case neq => exact ⟨rfl, _, hd⟩
  case lss => exact ⟨rfl, _, hd⟩
  case leq => exact ⟨rfl, _, hd⟩
  case gtr => exact ⟨rfl, _, hd⟩
  case geq => exact ⟨rfl, _, hd⟩

theorem sem_shift {op : BinOp} (ho : op = .shl ∨ op = .shr) {t : TypeId} {k k' : IntKind} {a b : Int} {K : FV → Prop} {h : Heap} (hd : dInt op k a b K) :
    semH P (binOp op t (.int k a) (.int k' b)) (fun v h' => h' = h ∧ ∃ t, K (v, t)) h := by
  rcases ho with rfl | rfl <;> simp only [dInt] at hd <;> simp only [binOp, Op.shift] <;> rw [if_neg (by omega)] <;> exact ⟨rfl, _, hd.2⟩

theorem binOp_type {op : BinOp} {t : TypeId} {k : IntKind} {a b : Int} : binOp op t (.int k a) (.int k b) = binOp op 0 (.int k a) (.int k b) := by
  cases op <;> simp [binOp]

/-! ### Equality -/

theorem sem_equalIn_nil {t : TypeId} {d : Nat} {v w : Value} {b : Bool} {h : Heap} {K : Bool → Heap → Prop} (hk : K b h)
    (hc : (∃ e p, P.underlying t = some (.pointer e) ∧ v = .pointer p ∧ w = .pointer none ∧ b = p.isNone) ∨
      (∃ e p, P.underlying t = some (.pointer e) ∧ v = .pointer none ∧ w = .pointer p ∧ b = p.isNone) ∨
      (∃ e p l c l' c', P.underlying t = some (.slice e) ∧ v = .slice p l c ∧ w = .slice none l' c' ∧ b = p.isNone) ∨
      (∃ e p l c l' c', P.underlying t = some (.slice e) ∧ v = .slice none l c ∧ w = .slice p l' c' ∧ b = p.isNone) ∨
      (∃ e f p, P.underlying t = some (.map e f) ∧ v = .map p ∧ w = .map none ∧ b = p.isNone) ∨
      (∃ e f p, P.underlying t = some (.map e f) ∧ v = .map none ∧ w = .map p ∧ b = p.isNone)) : semH P (Op.equalIn (d + 1) t v w) K h := by
  unfold Op.equalIn
  rcases hc with ⟨e, p, hu, rfl, rfl, rfl⟩ | ⟨e, p, hu, rfl, rfl, rfl⟩ | ⟨e, p, l, c, l', c', hu, rfl, rfl, rfl⟩ | ⟨e, p, l, c, l', c', hu, rfl, rfl, rfl⟩ | ⟨e, f, p, hu, rfl, rfl, rfl⟩ | ⟨e, f, p, hu, rfl, rfl, rfl⟩ <;>
    rw [semH_bind', semH_underlying hu] <;> cases p <;> exact hk

theorem dNil_spec {α : Type} {p q : Option α} {K : Bool → Prop} (h : dNil p q K) : (q = none ∧ K p.isNone) ∨ (p = none ∧ K q.isNone) := by
  cases q with
  | none => exact .inl ⟨rfl, h⟩
  | some b => cases p with
    | none => exact .inr ⟨rfl, h⟩
    | some a => exact h.elim

end
end Go.Proofs.YtfapgccnhonoiaaGreat

/- The framework, part 7: operations, typed: what their definitions say is so. Addresses, rows, aggregates. -/
namespace Go.Proofs.YtfapgccnhonoiaaGreat

section
variable {P : Program} {T : List TI}

theorem tkP {t : TypeId} {k : TK} (hT : TabOK P T) (h : (lookT T t).k = k) : tkOK P t k := h ▸ hT.kind t

theorem valAt_one {t : TypeId} {h : Heap} {a : Addr} {v : Value} (hk : simpleK (lookT T t).k = true) (hv : valAt T t h a v) : cellAt h a = some v := by
  unfold valAt at hv
  cases hk' : (lookT T t).k <;> rw [hk'] at hk hv <;> first | exact hv | (simp [simpleK] at hk)

theorem sem_loadAt (hT : TabOK P T) {t : TypeId} {h : Heap} {a : Addr} {v : Value} {K : Value → Heap → Prop} (hn : (lookT T t).k ≠ .oth) (hv : valAt T t h a v) (hk : K v h) :
    semH P (Instr.loadAt t (.pointer (some a))) K h := by
  show semH P (loadVar t a) K h
  have hkind := hT.kind t
  obtain ⟨i, z, hi, hsz, _, _, _, _⟩ := hT.info t hn
  unfold loadVar
  unfold valAt at hv
  cases hk' : (lookT T t).k <;> rw [hk'] at hkind hv
  case st fs =>
    obtain ⟨F, hF, _⟩ := hkind
    rw [semH_bind', semH_isAgg hF]
    simp only [isAggT, if_true]
    rw [semH_bind', semH_sizeOf hi, semH_bind']
    cases v with
    | agg cs => rw [hsz]; exact semH_loadCells hv _ hk
    | _ => exact hv.elim
  case arr n e =>
    rw [semH_bind', semH_isAgg hkind]
    simp only [isAggT, if_true]
    rw [semH_bind', semH_sizeOf hi, semH_bind']
    cases v with
    | agg cs => rw [hsz]; exact semH_loadCells hv _ hk
    | _ => exact hv.elim
  case oth => exact absurd hk' hn
  case fn => obtain ⟨x, y, z', hF⟩ := hkind; rw [semH_bind', semH_isAgg hF]; exact semH_load hv _ hk
  case tup ts => obtain ⟨x, hF, _⟩ := hkind; rw [semH_bind', semH_isAgg hF]; exact semH_load hv _ hk
  all_goals (rw [semH_bind', semH_isAgg hkind]; exact semH_load hv _ hk)

theorem sem_storeVar (hT : TabOK P T) {t : TypeId} {h : Heap} {a : Addr} {v : Value} {K : Unit → Heap → Prop} (hn : (lookT T t).k ≠ .oth) (hl : v.cells.toList.length = (lookT T t).size)
    (hc : ∀ c ∈ v.cells.toList, isCell c = true) (ho : okRow h a (lookT T t).size) (hk : K () (updRow h a 0 v.cells.toList)) : semH P (storeVar t a v) K h := by
  obtain ⟨i, z, hi, hsz, _, _, _, _⟩ := hT.info t hn
  unfold storeVar
  rw [semH_bind', semH_sizeOf hi]
  have hne : ¬ (v.cells.size ≠ i.size) := by rw [hsz, ← hl]; simp
  simp only [hne, if_false]
  refine semH_storeRow hc ?_ K hk
  rw [hl]; exact ho

theorem sem_storeOne (hT : TabOK P T) {t : TypeId} {h : Heap} {a : Addr} {v : Value} {K : Unit → Heap → Prop} (hn : (lookT T t).k ≠ .oth) (h1 : (lookT T t).size = 1) (hc : isCell v = true) (ho : okAt h a)
    (hk : K () (upd h a v)) : semH P (storeVar t a v) K h := by
  obtain ⟨i, z, hi, hsz, _, _, _, _⟩ := hT.info t hn
  have hcells : v.cells = #[v] := by cases v <;> first | rfl | (simp [isCell] at hc)
  unfold storeVar
  rw [semH_bind', semH_sizeOf hi, hcells, hsz, h1]
  show semH P (storeCells a [v]) K h
  simp only [storeCells]
  rw [semH_bind']
  have hadd : a.add 0 = a := by simp [Addr.add]
  rw [hadd]
  exact semH_store hc ho _ hk

theorem fld_eq (a : Addr) (n : Nat) : fld a n = a.add n := by
  cases n with
  | zero => simp [fld, Addr.add]
  | succ n => rfl

theorem nthL_eq {α : Type} : ∀ (l : List α) (n : Nat), nthL l n = l[n]?
  | [], n => by simp [nthL]
  | x :: r, 0 => by simp [nthL]
  | x :: r, n + 1 => by simp [nthL, nthL_eq r n]

theorem sem_fieldAt (hT : TabOK P T) {t : TypeId} {fs : List (Nat × TypeId)} {f : Nat} {g : Nat × TypeId} {h : Heap} {a : Addr} {K : Value → Heap → Prop} (hst : (lookT T t).k = .st fs) (hg : nthL fs f = some g)
    (hnz : (lookT T g.2).size ≠ 0) (hn : (lookT T g.2).k ≠ .oth) (hk : K (.pointer (some (fld a g.1))) h) : semH P (Instr.fieldAt t (.pointer (some a)) f) K h := by
  obtain ⟨F, hF, hm⟩ := tkP hT hst
  obtain ⟨i, z, hi, hsz, _, _, _, _⟩ := hT.info g.2 hn
  have hf : ∃ x, F[f]? = some x ∧ x.offset = g.1 ∧ x.type = g.2 := by
    rw [nthL_eq, ← hm] at hg
    simp only [List.getElem?_map, Option.map_eq_some_iff] at hg
    obtain ⟨x, hx, hxe⟩ := hg
    exact ⟨x, by simpa using hx, by rw [← hxe], by rw [← hxe]⟩
  obtain ⟨x, hx, hx1, hx2⟩ := hf
  unfold Instr.fieldAt
  rw [semH_bind', semH_underlying hF]
  show semH P (match F[f]? with | some f => _ | _ => _) K h
  rw [hx]
  show semH P (do let a ← Instr.sureAddr (.pointer (some a)); pure (.pointer (some (← fieldPlace a x)))) K h
  rw [semH_bind']
  show semH P (do pure (Value.pointer (some (← fieldPlace a x)))) K h
  rw [semH_bind']
  unfold fieldPlace
  rw [semH_bind', hx2, semH_sizeOf hi, hsz]
  rw [if_neg hnz]
  show K _ h
  rw [hx1, ← fld_eq]
  exact hk

theorem sem_indexAt_slice (hT : TabOK P T) {t e : TypeId} {a : Addr} {len cap : Nat} {k : IntKind} {i : Int} {h : Heap} {K : Value → Heap → Prop} (ht : (lookT T t).k = .sl e) (he : (lookT T e).k ≠ .oth)
    (hi : 0 ≤ i ∧ i < len) (hk : K (.pointer (some (a.add (i.toNat * (lookT T e).size)))) h) : semH P (Instr.indexAt t (.slice (some a) len cap) (.int k i)) K h := by
  have hu := tkP hT ht
  obtain ⟨j, z, hj, hsz, _, _, _, _⟩ := hT.info e he
  unfold Instr.indexAt
  rw [semH_bind']
  refine semH_pure' ?_
  simp only
  rw [semH_bind', semH_underlying hu]
  simp only
  rw [semH_bind']
  refine semH_pure' ?_
  simp only
  rw [semH_bind', semH_underlying hu]
  rw [if_pos hi, semH_bind', semH_sizeOf hj, hsz]
  exact hk

theorem sem_indexAt_array (hT : TabOK P T) {t e : TypeId} {n : Nat} {a : Addr} {k : IntKind} {i : Int} {h : Heap} {K : Value → Heap → Prop} (ht : (lookT T t).k = .arr n e) (he : (lookT T e).k ≠ .oth)
    (hi : 0 ≤ i ∧ i < n) (hk : K (.pointer (some (a.add (i.toNat * (lookT T e).size)))) h) : semH P (Instr.indexAt t (.pointer (some a)) (.int k i)) K h := by
  have hu := tkP hT ht
  obtain ⟨j, z, hj, hsz, _, _, _, _⟩ := hT.info e he
  unfold Instr.indexAt
  rw [semH_bind']
  refine semH_pure' ?_
  simp only
  rw [semH_bind', semH_underlying hu]
  simp only
  rw [semH_bind']
  refine semH_pure' ?_
  rw [semH_bind']
  refine semH_pure' ?_
  simp only
  rw [semH_bind', semH_underlying hu]
  rw [if_pos hi, semH_bind', semH_sizeOf hj, hsz]
  exact hk

theorem sem_bound {k : IntKind} {i : Int} {y : Nat} {c : BoundsCode} {h : Heap} {K : Nat → Heap → Prop} (hi : 0 ≤ i ∧ i ≤ y) (hk : K i.toNat h) : semH P (Instr.sliceBound (.int k i) y c) K h := by
  unfold Instr.sliceBound
  rw [semH_bind']
  refine semH_pure' ?_
  simp only
  rw [if_pos hi]
  exact hk

/-- The bounds that a slice expression asks for. -/
def boundsOK (len cap : Nat) (lo hi : Option Int) : Prop :=
  (∀ i, hi = some i → 0 ≤ i ∧ i ≤ cap) ∧ (∀ j, lo = some j → 0 ≤ j ∧ j ≤ ((hi.map (·.toNat)).getD len : Nat))

theorem sem_bounds {isSlice : Bool} {len cap : Nat} {lo hi : Option Value} {li hj : Option Int} {h : Heap} {K : Nat × Nat × Nat → Heap → Prop}
    (hlo : lo = none ∧ li = none ∨ ∃ k i, lo = some (.int k i) ∧ li = some i) (hhi : hi = none ∧ hj = none ∨ ∃ k i, hi = some (.int k i) ∧ hj = some i) (hb : boundsOK len cap li hj)
    (hk : K ((li.map (·.toNat)).getD 0, (hj.map (·.toNat)).getD len, cap) h) : semH P (Instr.sliceBounds isSlice len cap lo hi none) K h := by
  unfold Instr.sliceBounds
  rw [semH_bind']
  refine semH_pure' ?_
  rcases hhi with ⟨rfl, rfl⟩ | ⟨k, i, rfl, rfl⟩
  · dsimp only
    rw [semH_bind']
    refine semH_pure' ?_
    rcases hlo with ⟨rfl, rfl⟩ | ⟨k, i, rfl, rfl⟩
    · dsimp only
      rw [semH_bind']
      exact hk
    · dsimp only
      rw [semH_bind']
      exact sem_bound (hb.2 i rfl) hk
  · dsimp only
    rw [semH_bind']
    refine sem_bound (hb.1 i rfl) ?_
    rcases hlo with ⟨rfl, rfl⟩ | ⟨k, j, rfl, rfl⟩
    · dsimp only
      rw [semH_bind']
      exact hk
    · dsimp only
      rw [semH_bind']
      exact sem_bound (hb.2 j rfl) hk

theorem sem_arrayAt (hT : TabOK P T) {t e : TypeId} {n len cap : Nat} {a : Option Addr} {h : Heap} {K : Value → Heap → Prop} (ht : (lookT T t).k = .arr n e) (hn : n ≤ len) (hk : K (.pointer a) h) :
    semH P (Instr.arrayAt t (.slice a len cap)) K h := by
  unfold Instr.arrayAt
  rw [semH_bind', semH_underlying (tkP hT ht)]
  simp only
  rw [if_neg (by omega)]
  exact hk

theorem sem_part (hT : TabOK P T) {t : TypeId} {cs : Array Value} {off : Nat} {v : Value} {h : Heap} {K : Value → Heap → Prop} (hs : simpleK (lookT T t).k = true) (hv : cs[off]? = some v) (hk : K v h) : semH P (part t cs off) K h := by
  have hkind := hT.kind t
  unfold part
  cases hk' : (lookT T t).k <;> rw [hk'] at hkind hs <;> try (simp [simpleK] at hs; done)
  case fn => obtain ⟨x, y, z', hF⟩ := hkind; rw [semH_bind', semH_isAgg hF]; simp only [isAggT, Bool.false_eq_true, if_false, hv]; exact hk
  all_goals (rw [semH_bind', semH_isAgg hkind]; simp only [isAggT, Bool.false_eq_true, if_false, hv]; exact hk)

theorem sem_part_agg (hT : TabOK P T) {t : TypeId} {cs : Array Value} {off : Nat} {h : Heap} {K : Value → Heap → Prop} (hs : (∃ n e, (lookT T t).k = .arr n e) ∨ ∃ fs, (lookT T t).k = .st fs)
    (hk : K (.agg ⟨(cs.toList.drop off).take (lookT T t).size⟩) h) : semH P (part t cs off) K h := by
  have hkind := hT.kind t
  have hn : (lookT T t).k ≠ .oth := by rcases hs with ⟨n, e, h⟩ | ⟨fs, h⟩ <;> rw [h] <;> simp
  obtain ⟨i, z, hi, hsz, _, _, _, _⟩ := hT.info t hn
  have hx : cs.extract off (off + (lookT T t).size) = ⟨(cs.toList.drop off).take (lookT T t).size⟩ := by
    apply Array.ext'
    rw [Array.toList_extract]
    simp
  unfold part
  rcases hs with ⟨n, e, h'⟩ | ⟨fs, h'⟩ <;> rw [h'] at hkind
  · rw [semH_bind', semH_isAgg hkind]; simp only [isAggT, if_true]; rw [semH_bind', semH_sizeOf hi, hsz, hx]; exact hk
  · obtain ⟨F, hF, _⟩ := hkind
    rw [semH_bind', semH_isAgg hF]; simp only [isAggT, if_true]; rw [semH_bind', semH_sizeOf hi, hsz, hx]; exact hk

end
end Go.Proofs.YtfapgccnhonoiaaGreat

/- The framework, part 8: operations, typed: slices of slices, elements, fields, equality, composites. -/
namespace Go.Proofs.YtfapgccnhonoiaaGreat

section
variable {P : Program} {T : List TI}

theorem addr_zero (a : Addr) : a.add 0 = a := by simp [Addr.add]
theorem sliceAddr_zero (a : Option Addr) (m size : Nat) : (if m = 0 then a else a.map (·.add (0 * size))) = a := by
  split
  · rfl
  · cases a <;> simp [addr_zero]

theorem sliceAddr_zero' (a : Option Addr) (m : Nat) : (if m = 0 then a else a.map (fun x => x.add 0)) = a := by
  split
  · rfl
  · cases a <;> simp [addr_zero]

theorem bOK_nn {len cap : Nat} : boundsOK len cap none none := ⟨fun _ h => (by cases h), fun _ h => (by cases h)⟩
theorem bOK_sn {len cap : Nat} {j : Int} (hj : 0 ≤ j ∧ j ≤ len) : boundsOK len cap (some j) none := ⟨fun _ h => (by cases h), fun _ h => (by cases h; simpa using hj)⟩
theorem bOK_ns {len cap : Nat} {i : Int} (hi : 0 ≤ i ∧ i ≤ cap) : boundsOK len cap none (some i) := ⟨fun _ h => (by cases h; exact hi), fun _ h => (by cases h)⟩
theorem bOK_ss {len cap : Nat} {i j : Int} (hi : 0 ≤ i ∧ i ≤ cap) (hj : 0 ≤ j ∧ j ≤ i.toNat) : boundsOK len cap (some j) (some i) := ⟨fun _ h => (by cases h; exact hi), fun _ h => (by cases h; simpa using hj)⟩

theorem sem_sliceAt (hT : TabOK P T) {t : TypeId} {x : Value} {lo hi : Option Value} {li hj : Option Int} {h : Heap} {K : FV → Prop}
    (hlo : lo = none ∧ li = none ∨ ∃ k i, lo = some (.int k i) ∧ li = some i) (hhi : hi = none ∧ hj = none ∨ ∃ k i, hi = some (.int k i) ∧ hj = some i)
    (hne : ∀ e, (lookT T t).k = .sl e → (lookT T e).k ≠ .oth) (hna : ∀ n e, (lookT T t).k = .arr n e → (lookT T e).k ≠ .oth)
    (hd : dSlice T t x li hj K) : semH P (Instr.sliceAt t x lo hi none) (fun v h' => h' = h ∧ ∃ b, K (v, b)) h := by
  unfold dSlice at hd
  cases x with
  | slice a len cap =>
    simp only at hd
    cases hk : (lookT T t).k <;> simp only [hk] at hd
    rename_i e
    have hu := tkP hT hk
    obtain ⟨i, z, hi', hsz, _, _, _, _⟩ := hT.info e (hne e hk)
    unfold Instr.sliceAt
    rw [semH_bind', semH_underlying hu]
    show semH P (Instr.slice t (.slice a len cap) lo hi none) _ h
    unfold Instr.slice
    rw [semH_bind', semH_underlying hu]
    dsimp only
    rw [semH_bind']
    refine sem_bounds (li := li) (hj := hj) hlo hhi ?_ ?_
    · cases hj with
      | none => cases li with
        | none => exact bOK_nn
        | some j => simp only at hd; exact bOK_sn hd.1
      | some i => cases li with
        | none => simp only at hd; exact bOK_ns hd.1
        | some j => simp only at hd; exact bOK_ss hd.1 hd.2.1
    · simp only
      rw [semH_bind', semH_sizeOf hi', hsz]
      refine semH_pure' ⟨rfl, false, ?_⟩
      cases hj with
      | none => cases li with
        | none => simp only at hd; simpa [sliceAddr_zero'] using hd
        | some j => simp only at hd; simpa [sliceAddr] using hd.2
      | some i => cases li with
        | none => simp only at hd; simpa [sliceAddr_zero'] using hd.2
        | some j => simp only at hd; simpa [sliceAddr] using hd.2.2
  | pointer p =>
    simp only at hd
    cases hk : (lookT T t).k <;> simp only [hk] at hd
    rename_i n e
    obtain ⟨a, rfl, hd⟩ := onSome_spec hd
    have hu := tkP hT hk
    obtain ⟨i, z, hi', hsz, _, _, _, _⟩ := hT.info e (hna n e hk)
    unfold Instr.sliceAt
    rw [semH_bind', semH_underlying hu]
    dsimp only
    rw [semH_bind']
    show semH P (Instr.sureAddr (.pointer (some a))) _ h
    refine semH_pure' ?_
    rw [semH_bind']
    refine sem_bounds (li := li) (hj := hj) hlo hhi ?_ ?_
    · cases hj with
      | none => cases li with
        | none => exact bOK_nn
        | some j => simp only at hd; exact bOK_sn hd.1
      | some i => cases li with
        | none => simp only at hd; exact bOK_ns hd.1
        | some j => simp only at hd; exact bOK_ss hd.1 hd.2.1
    · simp only
      rw [semH_bind', semH_sizeOf hi', hsz]
      refine semH_pure' ⟨rfl, false, ?_⟩
      have e0 : ∀ m l s : Nat, (some (if m = l then a else a.add (l * s)) : Option Addr) = if m = l then some a else (some a).map (·.add (l * s)) := by intro m l s; split <;> rfl
      rw [e0]
      cases hj with
      | none => cases li with
        | none => simp only [onSome] at hd; simpa [sliceAddr_zero', addr_zero] using hd
        | some j => simp only at hd; simpa [sliceAddr] using hd.2
      | some i => cases li with
        | none => simp only at hd; simpa [sliceAddr_zero', addr_zero] using hd.2
        | some j => simp only at hd; simpa [sliceAddr] using hd.2.2
  | string s =>
    simp only at hd
    cases hk : (lookT T t).k <;> simp only [hk] at hd
    have hu := tkP hT hk
    unfold Instr.sliceAt
    rw [semH_bind', semH_underlying hu]
    show semH P (Instr.slice t (.string s) lo hi none) _ h
    unfold Instr.slice
    rw [semH_bind', semH_underlying hu]
    dsimp only
    simp only [Option.isSome_none, Bool.false_eq_true, if_false]
    rw [semH_bind']
    refine sem_bounds (li := li) (hj := hj) hlo hhi ?_ ?_
    · cases hj with
      | none => cases li with
        | none => exact bOK_nn
        | some j => simp only at hd; exact bOK_sn hd.1
      | some i => cases li with
        | none => simp only at hd; exact bOK_ns hd.1
        | some j => simp only at hd; exact bOK_ss hd.1 hd.2.1
    · refine semH_pure' ⟨rfl, false, ?_⟩
      cases hj with
      | none => cases li with
        | none => simp only at hd; simpa using hd
        | some j => simp only at hd; simpa using hd.2
      | some i => cases li with
        | none => simp only at hd; simpa using hd.2
        | some j => simp only at hd; simpa using hd.2.2
  | _ => exact hd.elim

theorem sem_indexAt (hT : TabOK P T) {t : TypeId} {x : Value} {k : IntKind} {i : Int} {h : Heap} {K : FV → Prop}
    (hne : ∀ e, (lookT T t).k = .sl e → (lookT T e).k ≠ .oth) (hna : ∀ n e, (lookT T t).k = .arr n e → (lookT T e).k ≠ .oth)
    (hd : dIndexAddr T t x i K) : semH P (Instr.indexAt t x (.int k i)) (fun v h' => h' = h ∧ ∃ b, K (v, b)) h := by
  unfold dIndexAddr at hd
  cases x with
  | slice a len cap =>
    simp only at hd
    cases hk : (lookT T t).k <;> simp only [hk] at hd
    obtain ⟨b, rfl, hi, hd⟩ := onSome_spec hd
    exact sem_indexAt_slice hT hk (hne _ hk) hi ⟨rfl, _, hd⟩
  | pointer p =>
    simp only at hd
    cases hk : (lookT T t).k <;> simp only [hk] at hd
    obtain ⟨b, rfl, hi, hd⟩ := onSome_spec hd
    exact sem_indexAt_array hT hk (hna _ _ hk) hi ⟨rfl, _, hd⟩
  | _ => exact hd.elim

theorem sem_index (hT : TabOK P T) {t : TypeId} {x : Value} {k : IntKind} {i : Int} {h : Heap} {K : FV → Prop} (hd : dIndex T t x i K) : semH P (Instr.index t x (.int k i)) (fun v h' => h' = h ∧ ∃ b, K (v, b)) h := by
  unfold dIndex at hd
  cases x with
  | agg cs =>
    simp only at hd
    cases hk : (lookT T t).k <;> simp only [hk] at hd
    rename_i n e
    cases hs : simpleK (lookT T e).k with
    | false => simp only [hs] at hd
    | true =>
      simp only [hs] at hd
      obtain ⟨hi, h1, hd⟩ := hd
      obtain ⟨v, hv, hd⟩ := exV_ex T _ _ _ hd
      have h1' : (lookT T e).size = 1 := Nat.eq_of_beq_eq_true h1
      have hn : (lookT T e).k ≠ .oth := fun hx => by rw [hx] at hs; simp [simpleK] at hs
      obtain ⟨j, z, hj, hsz, _, _, _, _⟩ := hT.info e hn
      unfold Instr.index
      rw [semH_bind']
      refine semH_pure' ?_
      simp only
      rw [semH_bind', semH_underlying (tkP hT hk)]
      dsimp only
      rw [if_pos hi, semH_bind', semH_sizeOf hj, hsz, h1', Nat.mul_one]
      exact sem_part hT hs (by simpa using hv) ⟨rfl, _, hd⟩
  | string s =>
    simp only at hd
    cases hk : (lookT T t).k <;> simp only [hk] at hd
    obtain ⟨hi, b, hb, hd⟩ := hd
    unfold Instr.index
    rw [semH_bind']
    refine semH_pure' ?_
    simp only
    rw [semH_bind', semH_underlying (tkP hT hk)]
    dsimp only
    rw [if_pos hi.1, hb]
    exact semH_pure' ⟨rfl, _, hd⟩
  | _ => exact hd.elim

theorem sem_field (hT : TabOK P T) {t : TypeId} {x : Value} {f : Nat} {h : Heap} {K : FV → Prop} (hd : dField T t x f K) : semH P (Instr.field t x f) (fun v h' => h' = h ∧ ∃ b, K (v, b)) h := by
  unfold dField at hd
  cases x with
  | agg cs =>
    simp only at hd
    cases hk : (lookT T t).k <;> simp only [hk] at hd
    rename_i fs
    cases hg : nthL fs f with
    | none => simp only [hg] at hd
    | some g =>
      simp only [hg] at hd
      obtain ⟨F, hF, hm⟩ := tkP hT hk
      have hf : ∃ x, F[f]? = some x ∧ x.offset = g.1 ∧ x.type = g.2 := by
        rw [nthL_eq, ← hm] at hg
        simp only [List.getElem?_map, Option.map_eq_some_iff] at hg
        obtain ⟨x, hx, hxe⟩ := hg
        exact ⟨x, by simpa using hx, by rw [← hxe], by rw [← hxe]⟩
      obtain ⟨x, hx, hx1, hx2⟩ := hf
      unfold Instr.field
      rw [semH_bind', semH_underlying hF]
      dsimp only
      rw [hx]
      dsimp only
      rw [semH_bind']
      refine semH_pure' ?_
      rw [hx1, hx2]
      cases hs : simpleK (lookT T g.2).k with
      | true =>
        simp only [hs] at hd
        cases hv : nthL cs.toList g.1 with
        | none => simp only [hv] at hd
        | some v =>
          simp only [hv] at hd
          rw [nthL_eq] at hv
          exact sem_part hT hs (by simpa using hv) ⟨rfl, _, hd⟩
      | false =>
        simp only [hs] at hd
        cases hk2 : (lookT T g.2).k <;> simp only [hk2] at hd
        · exact sem_part_agg hT (.inr ⟨_, hk2⟩) ⟨rfl, _, hd⟩
        · exact sem_part_agg hT (.inl ⟨_, _, hk2⟩) ⟨rfl, _, hd⟩
  | _ => exact hd.elim

/-! ### Composites -/

theorem setL_eq {α : Type} : ∀ (l : List α) (n : Nat) (v : α), setL l n v = l.set n v
  | [], n, v => by simp [setL]
  | x :: r, 0, v => by simp [setL]
  | x :: r, n + 1, v => by simp [setL, setL_eq r n v]

theorem cellsL_eq (v : Value) : v.cells.toList = cellsL v := by cases v <;> rfl

/-- One part laid into cells. -/
theorem fold_lay (l : List Value) : ∀ (off k : Nat) (cs : Array Value), off + k + l.length ≤ cs.size →
    ((l.zipIdx k).foldl (fun cs (x : Value × Nat) => cs.setIfInBounds (off + x.2) x.1) cs).toList = cs.toList.take (off + k) ++ l ++ cs.toList.drop (off + k + l.length) := by
  induction l with
  | nil => intro off k cs h; simp
  | cons v l ih =>
    intro off k cs h
    simp only [List.zipIdx_cons, List.foldl_cons, List.length_cons] at *
    rw [ih off (k + 1) _ (by simp; omega)]
    rw [Array.toList_setIfInBounds]
    have hlt : off + k < cs.toList.length := by simp; omega
    rw [show off + (k + 1) = (off + k) + 1 by omega, show off + k + 1 + l.length = off + k + (l.length + 1) by omega]
    rw [List.take_set, List.take_succ_eq_append_getElem hlt]
    rw [List.set_append_right _ _ (by simp; omega)]
    rw [List.drop_set_of_lt (by omega)]
    have hm : min (off + k) cs.size = off + k := Nat.min_eq_left (by simp at hlt; omega)
    simp [hm]

theorem fill_cons (place : Nat → Option (Nat × Nat)) (cells : Array Value) (i : Nat) (v : Value) (rest : List (Nat × Value)) (off size : Nat) (hp : place i = some (off, size)) (hs : (cellsL v).length = size)
    (hle : off + size ≤ cells.size) : Instr.fill place cells ((i, v) :: rest) = Instr.fill place ⟨cells.toList.take off ++ cellsL v ++ cells.toList.drop (off + size)⟩ rest := by
  simp only [Instr.fill, hp]
  have hsz : v.cells.size = size := by rw [← hs, ← cellsL_eq]; simp
  rw [if_neg (by rw [hsz]; simp; omega)]
  congr 1
  apply Array.ext'
  have e := fold_lay v.cells.toList off 0 cells (by simp [hsz]; omega)
  have e2 : (v.cells.zipIdx.foldl (fun cs (x : Value × Nat) => cs.setIfInBounds (off + x.2) x.1) cells) = ((v.cells.toList.zipIdx 0).foldl (fun cs (x : Value × Nat) => cs.setIfInBounds (off + x.2) x.1) cells) := by
    rw [← Array.foldl_toList]; simp
  have e3 : v.cells.toList.length = size := by simpa using hsz
  rw [cellsL_eq] at e e3
  simp only [Nat.add_zero, e3] at e
  rw [← cellsL_eq] at e
  rw [← e2] at e
  rw [← cellsL_eq]
  exact e

end
end Go.Proofs.YtfapgccnhonoiaaGreat

/- The framework, part 9: operations, typed: composites, maps, append, copy, make, ranges, equality. -/
namespace Go.Proofs.YtfapgccnhonoiaaGreat

section
variable {P : Program} {T : List TI}

theorem semH_mapM_list {α β : Type} {f : α → Sem β} {r : α → β} {h : Heap} : ∀ (l : List α) (K : List β → Heap → Prop), (∀ a ∈ l, ∀ K' : β → Heap → Prop, K' (r a) h → semH P (f a) K' h) → K (l.map r) h → semH P (l.mapM f) K h
  | [], K, _, hk => by rw [List.mapM_nil]; exact hk
  | a :: l, K, hf, hk => by
    rw [List.mapM_cons, semH_bind']
    refine hf a (by simp) _ ?_
    rw [semH_bind']
    exact semH_mapM_list l _ (fun b hb => hf b (by simp [hb])) hk

theorem semH_mapM {α β : Type} {f : α → Sem β} {r : α → β} {h : Heap} (xs : Array α) (K : Array β → Heap → Prop) (hf : ∀ a ∈ xs.toList, ∀ K' : β → Heap → Prop, K' (r a) h → semH P (f a) K' h)
    (hk : K ⟨xs.toList.map r⟩ h) : semH P (xs.mapM f) K h := by
  rw [Array.mapM_eq_mapM_toList]
  show semH P (List.toArray <$> List.mapM f xs.toList) K h
  rw [← bind_pure_comp, semH_bind']
  exact semH_mapM_list _ _ hf hk

/-- The places of a struct's fields. -/
theorem sem_places (hT : TabOK P T) {F : Array Field} {fs : List (Nat × TypeId)} (hm : F.toList.map (fun f => (f.offset, f.type)) = fs) (hn : ∀ f ∈ fs, (lookT T f.2).k ≠ .oth) {h : Heap} {K : Array (Nat × Nat) → Heap → Prop}
    (hk : K ⟨fs.map fun f => (f.1, (lookT T f.2).size)⟩ h) : semH P (F.mapM fun f => do pure (f.offset, ← sizeOf f.type)) K h := by
  refine semH_mapM (r := fun f => (f.offset, (lookT T f.type).size)) F K ?_ ?_
  · intro f hf K' hk'
    have hmem : (f.offset, f.type) ∈ fs := by rw [← hm]; exact List.mem_map.2 ⟨f, hf, rfl⟩
    obtain ⟨i, z, hi, hsz, _, _, _, _⟩ := hT.info f.type (hn _ hmem)
    rw [semH_bind', semH_sizeOf hi, hsz]
    exact hk'
  · rw [← hm] at hk
    simpa [Function.comp_def] using hk

theorem layOnes_fill (fs : List (Nat × TypeId)) : ∀ (ps : List (Nat × Value)) (z cs : List Value), layOnes T fs z ps = some cs →
    Instr.fill ((fs.map fun f => (f.1, (lookT T f.2).size)).toArray[·]?) ⟨z⟩ ps = some ⟨cs⟩
  | [], z, cs, h => by simp only [layOnes] at h; cases h; rfl
  | x :: r, z, cs, h => by
    simp only [layOnes] at h
    cases hf : nthL fs x.1 with
    | none => simp only [hf] at h; cases h
    | some f =>
      simp only [hf] at h
      split at h
      · rename_i hb
        simp only [Bool.and_eq_true] at hb
        have h1 := Nat.eq_of_beq_eq_true hb.1
        have h2 := Nat.le_of_ble_eq_true hb.2
        split at h
        · rename_i hc
          have hcl : cellsL x.2 = [x.2] := by cases hx : x.2 <;> rw [hx] at hc <;> first | rfl | (simp [isCell] at hc)
          rw [nthL_eq] at hf
          obtain ⟨i, v⟩ := x
          rw [fill_cons (off := f.1) (size := 1) _ _ _ _ _ (by simp [hf, h1]) (by simp only at hcl; rw [hcl]; rfl) (by simp; omega)]
          have := layOnes_fill fs r _ cs h
          rw [setL_eq] at this
          simp only at hcl
          rw [hcl]
          rw [List.set_eq_take_append_cons_drop, if_pos (by omega)] at this
          simpa using this
        · cases h
      · cases h

theorem covers_le : ∀ {r : List (Nat × Value)} {i n : Nat}, coversB i n r = true → i ≤ n
  | [], i, n, h => by simp only [coversB] at h; exact Nat.le_of_eq (Nat.eq_of_beq_eq_true h)
  | x :: r, i, n, h => by simp only [coversB, Bool.and_eq_true] at h; have := covers_le h.2; omega

/-- Fields that cover a struct, one behind the other. -/
theorem cover_fill : ∀ (fs : List (Nat × TypeId)) (all : List (Nat × TypeId)) (ps : List (Nat × Value)) (i : Nat) (pre suf : List Value), (∀ j, all[i + j]? = fs[j]?) → coversB i (i + fs.length) ps = true → contigB T pre.length fs = true →
    sizesOK T (sndL fs) ps → suf.length = sumT T fs → Instr.fill ((all.map fun f => (f.1, (lookT T f.2).size)).toArray[·]?) ⟨pre ++ suf⟩ ps = some ⟨pre ++ (cellsOfParts ps).flatten⟩
  | [], all, ps, i, pre, suf, _, hc, _, _, hs => by
    cases ps with
    | nil => simp only [sumT] at hs; rw [List.length_eq_zero_iff] at hs; subst hs; simp [Instr.fill, cellsOfParts]
    | cons x r =>
      simp only [coversB, List.length_nil, Nat.add_zero, Bool.and_eq_true] at hc
      exact absurd (covers_le hc.2) (by omega)
  | f :: fs, all, ps, i, pre, suf, hall, hc, hct, hz, hs => by
    cases ps with
    | nil => simp [coversB] at hc
    | cons x r =>
      simp only [coversB, Bool.and_eq_true] at hc
      simp only [contigB, Bool.and_eq_true] at hct
      simp only [sndL, sizesOK] at hz
      simp only [sumT] at hs
      obtain ⟨j, v⟩ := x
      have hj : j = i := Nat.eq_of_beq_eq_true hc.1
      subst hj
      have hf1 : f.1 = pre.length := Nat.eq_of_beq_eq_true hct.1
      have hfi : all[j]? = some f := by simpa using hall 0
      rw [fill_cons (off := f.1) (size := (lookT T f.2).size) _ _ _ _ _ (by simp [hfi]) hz.1 (by simp; omega)]
      have ih := cover_fill fs all r (j + 1) (pre ++ cellsL v) (suf.drop (lookT T f.2).size) (fun k => by have := hall (k + 1); simpa [Nat.add_assoc, Nat.add_comm 1 k] using this)
        (by simpa [Nat.add_assoc, Nat.add_comm 1] using hc.2) (by have := hct.2; simp only [List.length_append]; simp only at hz; rw [hz.1]; exact this) hz.2 (by simp; omega)
      have e : (pre ++ suf).take f.1 ++ cellsL v ++ (pre ++ suf).drop (f.1 + (lookT T f.2).size) = pre ++ cellsL v ++ suf.drop (lookT T f.2).size := by
        rw [hf1]; simp [List.drop_append]
      simp only
      rw [e, ih]
      simp [cellsOfParts]

theorem catL_flatten : ∀ (l : List (List Value)), catL l = l.flatten
  | [] => rfl
  | [c] => by simp [catL]
  | c :: d :: r => by simp only [catL, List.flatten_cons]; rw [catL_flatten (d :: r)]; simp

end
end Go.Proofs.YtfapgccnhonoiaaGreat

/- The framework, part 10: operations, typed: composites, maps. -/
namespace Go.Proofs.YtfapgccnhonoiaaGreat

section
variable {P : Program} {T : List TI}

theorem arr_mk {α : Type} (a : Array α) : (⟨a.toList⟩ : Array α) = a := rfl

theorem sem_build (hT : TabOK P T) {t : TypeId} {ps : Array (Nat × Value)} {h : Heap} {K : FV → Prop} (hn : ∀ fs, (lookT T t).k = .st fs → ∀ f ∈ fs, (lookT T f.2).k ≠ .oth)
    (hna : ∀ n e, (lookT T t).k = .arr n e → (lookT T e).k ≠ .oth) (hd : dBuild T t ps.toList K) : semH P (Instr.build t ps) (fun v h' => h' = h ∧ ∃ b, K (v, b)) h := by
  unfold dBuild at hd
  have hoth : (lookT T t).k ≠ .oth := fun hx => by simp only [hx] at hd
  obtain ⟨i, z, hi, hsz, _, hz, hzc, _⟩ := hT.info t hoth
  unfold Instr.build
  rw [semH_bind', semH_zeroValue hi hz]
  cases hk : (lookT T t).k <;> simp only [hk] at hd
  case st fs =>
    obtain ⟨F, hF, hm⟩ := tkP hT hk
    rw [semH_bind', semH_underlying hF]
    dsimp only
    rw [semH_bind']
    refine sem_places hT hm (hn fs hk) ?_
    have hzz : z.cells = ⟨(lookT T t).zero⟩ := by rw [← hzc]
    rw [hzz]
    have main : ∀ cs, Instr.fill ((fs.map fun f => (f.1, (lookT T f.2).size)).toArray[·]?) ⟨(lookT T t).zero⟩ ps.toList = some ⟨cs⟩ → (∃ b, K (.agg ⟨cs⟩, b)) →
        semH P (match Instr.fill ((⟨fs.map fun f => (f.1, (lookT T f.2).size)⟩ : Array (Nat × Nat))[·]?) ⟨(lookT T t).zero⟩ ps.toList with
          | some cells => pure (Value.agg cells)
          | _ => stuck "build: no such field, or a part of the wrong size") (fun v h' => h' = h ∧ ∃ b, K (v, b)) h := by
      intro cs he hK
      rw [he]
      exact ⟨rfl, hK⟩
    split at hd
    · split at hd
      · rename_i cs hl
        exact main cs (layOnes_fill fs ps.toList _ cs hl) ⟨_, hd⟩
      · exact hd.elim
    · split at hd
      · rename_i hb
        simp only [Bool.and_eq_true] at hb
        have hlen := Nat.eq_of_beq_eq_true hb.2
        have hc := cover_fill (T := T) fs fs ps.toList 0 [] (lookT T t).zero (by simp) (by simpa using hb.1.1) (by simpa using hb.1.2) hd.1 hlen.symm
        rw [catL_flatten] at hd
        exact main _ (by simpa using hc) ⟨_, hd.2⟩
      · split at hd
        · rename_i hp
          rw [hp] at main ⊢
          exact main _ rfl ⟨_, hd⟩
        · exact hd.elim
  case arr n e =>
    rw [semH_bind', semH_underlying (tkP hT hk)]
    dsimp only
    obtain ⟨j, z', hj, hsz', _, _, _, _⟩ := hT.info e (hna n e hk)
    rw [semH_bind', semH_sizeOf hj]
    split at hd
    · rename_i hp
      rw [hp]
      refine ⟨rfl, false, ?_⟩
      have : z.cells = ⟨(lookT T t).zero⟩ := by rw [← hzc]
      rw [this]
      exact hd
    · exact hd.elim

theorem elems_fill (e : TypeId) : ∀ (ps : List (Nat × Value)) (i n : Nat) (pre suf : List Value), coversB i n ps = true → pre.length = i * (lookT T e).size → dBuildSlice.elemsOK T e ps →
    suf.length = (n - i) * (lookT T e).size → Instr.fill (fun i => some (i * (lookT T e).size, (lookT T e).size)) ⟨pre ++ suf⟩ ps = some ⟨pre ++ (cellsOfParts ps).flatten⟩
  | [], i, n, pre, suf, hc, _, _, hs => by
    simp only [coversB] at hc
    have := Nat.eq_of_beq_eq_true hc
    subst this
    rw [Nat.sub_self, Nat.zero_mul, List.length_eq_zero_iff] at hs
    subst hs
    simp [Instr.fill, cellsOfParts]
  | x :: r, i, n, pre, suf, hc, hp, hz, hs => by
    have hin := covers_le hc
    simp only [coversB, Bool.and_eq_true] at hc
    have hin' := covers_le hc.2
    obtain ⟨j, v⟩ := x
    have hj : j = i := Nat.eq_of_beq_eq_true hc.1
    subst hj
    simp only [dBuildSlice.elemsOK] at hz
    have hsuf : (lookT T e).size ≤ suf.length := by rw [hs]; exact Nat.le_mul_of_pos_left _ (by omega)
    rw [fill_cons (off := j * (lookT T e).size) (size := (lookT T e).size) _ _ _ _ _ rfl hz.1 (by simp; omega)]
    have ih := elems_fill e r (j + 1) n (pre ++ cellsL v) (suf.drop (lookT T e).size) hc.2 (by rw [List.length_append, hp, hz.1, Nat.add_mul, Nat.one_mul]) hz.2 (by
      rw [List.length_drop, hs, show n - j = (n - (j + 1)) + 1 by omega, Nat.add_mul, Nat.one_mul, Nat.add_sub_cancel])
    have e2 : (pre ++ suf).take (j * (lookT T e).size) ++ cellsL v ++ (pre ++ suf).drop (j * (lookT T e).size + (lookT T e).size) = pre ++ cellsL v ++ suf.drop (lookT T e).size := by
      rw [← hp]; simp [List.drop_append]
    simp only
    rw [e2, ih]
    simp [cellsOfParts]

theorem sem_buildSlice (hT : TabOK P T) {t : TypeId} {len : Nat} {ps : Array (Nat × Value)} {h : Heap} {K : FV → Heap → Prop} (hne : ∀ e, (lookT T t).k = .sl e → (lookT T e).k ≠ .oth)
    (hd : dBuildSlice T t len ps.toList h K) : semH P (Instr.buildSlice t len ps) (fun v h' => ∃ b, K (v, b) h') h := by
  unfold dBuildSlice at hd
  cases hk : (lookT T t).k <;> simp only [hk] at hd
  rename_i e
  split at hd
  · rename_i hb
    simp only [Bool.and_eq_true] at hb
    have hle := Nat.le_of_ble_eq_true hb.2
    obtain ⟨hel, hd⟩ := hd
    obtain ⟨i, z, hi, hsz, _, hz, hzc, _⟩ := hT.info e (hne e hk)
    unfold Instr.buildSlice
    rw [semH_bind', semH_underlying (tkP hT hk)]
    dsimp only
    rw [semH_bind', semH_sizeOf hi, hsz]
    rw [if_neg (by omega)]
    have finish : ∀ zero : Array Value, semH P (match Instr.fill (fun i => some (i * (lookT T e).size, (lookT T e).size)) ((Array.range (len * (lookT T e).size)).map (zero[· % zero.size]!)) ps.toList with
        | some cells => do pure (.slice (some (← newRow e cells)) len len)
        | _ => stuck "buildSlice: a part of the wrong size") (fun v h' => ∃ b, K (v, b) h') h := by
      intro zero
      have hf := elems_fill (T := T) e ps.toList 0 len [] ((Array.range (len * (lookT T e).size)).map (zero[· % zero.size]!)).toList hb.1 (by simp) hel (by simp)
      simp only [List.nil_append] at hf
      rw [arr_mk] at hf
      rw [hf]
      dsimp only
      rw [semH_bind', semH_newRow]
      refine semH_pure' ⟨false, ?_⟩
      rw [catL_flatten] at hd
      exact hd _ _ rfl rfl
    by_cases h0 : len * (lookT T e).size = 0
    · rw [if_pos h0, semH_bind']
      exact finish _
    · rw [if_neg h0, semH_bind', semH_zeroValue hi hz, semH_bind']
      exact finish _
  · exact hd.elim

/-! ### Maps -/

theorem semH_checkKey (hT : TabOK P T) {kt : TypeId} {key : Value} {e : Bool} {n : Nat} {h : Heap} {K : Unit → Heap → Prop} (hk : keyKind T kt key = true) (hK : K () h) : semH P (Instr.checkKey e (n + 1) kt key) K h := by
  unfold keyKind at hk
  unfold Instr.checkKey
  cases key <;> simp only at hk <;> try (cases hk; done)
  all_goals
    cases hkt : (lookT T kt).k <;> simp only [hkt] at hk <;> try (cases hk; done)
    rw [semH_bind', semH_underlying (tkP hT hkt)]
    exact hK

theorem findNow_spec (hT : TabOK P T) {kt : TypeId} {key : Value} (hk : keyKind T kt key = true) : ∃ d, P.underlying kt = some d ∧ ∀ (es : List MapEntry) (i : Nat), (∀ e ∈ es, (keyEq key e.key).isSome = true) → Instr.findNow d key es i = some (mfindL key es i) := by
  have step : ∀ (d : TypeDesc), (∀ v, (keyEq key v).isSome = true → Instr.sameNow d key v = keyEq key v) → ∀ (es : List MapEntry) (i : Nat), (∀ e ∈ es, (keyEq key e.key).isSome = true) → Instr.findNow d key es i = some (mfindL key es i) := by
    intro d hd es
    induction es with
    | nil => intro i _; rfl
    | cons e es ih =>
      intro i h
      have he := h e (by simp)
      simp only [Instr.findNow, mfindL, hd _ he]
      cases hq : keyEq key e.key with
      | none => rw [hq] at he; cases he
      | some b => cases b with
        | true => simp
        | false => simp only [Option.some.injEq, Bool.false_eq_true, if_false]; exact ih (i + 1) (fun e' he' => h e' (by simp [he']))
  unfold keyKind at hk
  cases key <;> simp only at hk <;> try (cases hk; done)
  all_goals
    cases hkt : (lookT T kt).k <;> simp only [hkt] at hk <;> try (cases hk; done)
  · refine ⟨_, tkP hT hkt, step _ fun v hv => ?_⟩
    cases v <;> simp [keyEq] at hv ⊢
    rfl
  · refine ⟨_, tkP hT hkt, step _ fun v hv => ?_⟩
    cases v <;> simp [keyEq] at hv ⊢
    simp only [Instr.sameNow, hv, if_true]
    have := kEq_spec hv
    subst this
    simp
  · refine ⟨_, tkP hT hkt, step _ fun v hv => ?_⟩
    cases v <;> simp [keyEq] at hv ⊢
    rfl

theorem semH_findKey (hT : TabOK P T) {kt : TypeId} {key : Value} {es : Array MapEntry} {h : Heap} {K : Option (Nat × Value) → Heap → Prop} (hk : keyKind T kt key = true) (hks : keysOK key es) (hK : K (mfind key es) h) :
    semH P (Instr.findKey kt key es.toList) K h := by
  obtain ⟨d, hd, hf⟩ := findNow_spec hT hk
  unfold Instr.findKey
  rw [semH_bind', semH_underlying hd, hf _ _ hks]
  exact hK

end
end Go.Proofs.YtfapgccnhonoiaaGreat

/- The framework, part 11: operations, typed: maps, lengths, append, copy, make. -/
namespace Go.Proofs.YtfapgccnhonoiaaGreat

section
variable {P : Program} {T : List TI}

theorem sem_lookup (hT : TabOK P T) {t : TypeId} {m key : Value} {ok : Bool} {h : Heap} {K : FV → Prop} (hne : ∀ k e, (lookT T t).k = .map k e → (lookT T e).k ≠ .oth) (hd : dLookup T t m key ok h K) :
    semH P (Instr.lookup t m key ok) (fun v h' => h' = h ∧ ∃ b, K (v, b)) h := by
  unfold dLookup at hd
  cases m with
  | map r =>
    simp only at hd
    cases hk : (lookT T t).k <;> simp only [hk] at hd
    rename_i kt e
    split at hd
    · rename_i hkk
      obtain ⟨es, hes, hks, hyes, hno⟩ := hd
      obtain ⟨i, z, hi, _, _, hz, _, hzv⟩ := hT.info e (hne kt e hk)
      unfold Instr.lookup
      rw [semH_bind', semH_underlying (tkP hT hk)]
      dsimp only
      have finish : semH P (do
          Instr.checkKey es.isEmpty 10000 kt key
          let (v, ok') ← match ← Instr.findKey kt key es.toList with
            | some (_, v) => pure (v, true)
            | none => pure (← zeroValue e, false)
          pure (if ok then .tuple #[v, .bool ok'] else v)) (fun v h' => h' = h ∧ ∃ b, K (v, b)) h := by
        rw [semH_bind']
        refine semH_checkKey hT (n := 9999) hkk ?_
        rw [semH_bind']
        refine semH_findKey hT hkk hks ?_
        unfold mget at hyes hno
        cases hf : mfind key es with
        | none =>
          dsimp only
          rw [semH_bind', semH_zeroValue hi hz]
          have hno' := hno (by rw [hf]; rfl)
          rw [hzv] at hno'
          rw [semH_bind']
          refine ⟨rfl, ?_⟩
          cases ok <;> exact ⟨_, hno'⟩
        | some x =>
          obtain ⟨j, v⟩ := x
          dsimp only
          rw [semH_bind']
          refine ⟨rfl, ?_⟩
          obtain ⟨u, hu, hK⟩ := exV_ex T _ _ _ (hyes v (by rw [hf]; rfl))
          subst hu
          cases ok <;> exact ⟨_, hK⟩
      cases r with
      | none =>
        simp only [mapIs] at hes
        subst hes
        dsimp only
        rw [semH_bind']
        exact finish
      | some b =>
        obtain ⟨clk, hb⟩ := hes
        dsimp only
        rw [semH_bind']
        refine semH_getObj hb (by simp) _ ?_
        dsimp only
        rw [semH_bind']
        exact finish
    · exact hd.elim
  | _ => exact hd.elim

theorem sameBits_key {k : Value} {v : Value} (h : keyEq k v = some true) (n : Nat) : Instr.sameBits n v k = true := by
  cases k <;> cases v <;> simp only [keyEq, reduceCtorEq] at h
  case bool.bool x y => cases n <;> simp_all [Instr.sameBits]
  case int.int k x k' y =>
    split at h
    · rename_i hk
      have := kEq_spec hk
      subst this
      cases n <;> simp_all [Instr.sameBits]
    · cases h
  case string.string x y =>
    have hx : (x == y) = true := by simpa using h
    have hy : (y == x) = true := by
      obtain ⟨a⟩ := x
      obtain ⟨b⟩ := y
      have hab : (a == b) = true := hx
      have : a = b := eq_of_beq hab
      subst this
      exact hx
    cases n <;> simp only [Instr.sameBits, hy]

theorem mfindL_spec {key : Value} : ∀ (es : List MapEntry) (i j : Nat) (v : Value), mfindL key es i = some (j, v) → i ≤ j ∧ ∃ e, es[j - i]? = some e ∧ e.val = v ∧ keyEq key e.key = some true
  | [], _, _, _, h => by simp [mfindL] at h
  | e :: es, i, j, v, h => by
    simp only [mfindL] at h
    split at h
    · rename_i hq
      cases h
      exact ⟨Nat.le_refl _, e, by simp, rfl, hq⟩
    · obtain ⟨h1, e', h2, h3⟩ := mfindL_spec es (i + 1) j v h
      refine ⟨by omega, e', ?_, h3⟩
      rw [show j - i = (j - (i + 1)) + 1 by omega]
      simpa using h2

theorem sem_mapUpdate (hT : TabOK P T) {t : TypeId} {m key v : Value} {h : Heap} {K : FV → Heap → Prop} (hd : dMapUpdate T t m key v h K) :
    semH P (Instr.mapUpdate t m key v) (fun _ h' => ∃ b, K (undef, b) h') h := by
  unfold dMapUpdate at hd
  cases m with
  | map r =>
    simp only at hd
    cases hk : (lookT T t).k <;> simp only [hk] at hd
    rename_i kt e
    split at hd
    · rename_i hkk
      obtain ⟨b, rfl, es, clk, hb, hks, hd⟩ := onSome_spec hd
      unfold Instr.mapUpdate
      rw [semH_bind', semH_underlying (tkP hT hk)]
      dsimp only
      rw [semH_bind']
      refine semH_getObj hb (by simp) _ ?_
      dsimp only
      rw [semH_bind']
      refine semH_checkKey hT (n := 9999) hkk ?_
      rw [semH_bind']
      refine semH_findKey hT hkk hks ?_
      cases hf : mfind key es with
      | none =>
        dsimp only
        refine semH_setObj _ hb (by simp) _ ⟨true, ?_⟩
        have : mput es clk key v = .map (es.push { key := key, val := v, born := clk }) (clk + 1) := by unfold mput; rw [hf]
        exact hd _ (by rw [this])
      | some x =>
        obtain ⟨j, u⟩ := x
        dsimp only
        obtain ⟨_, e, he, _, hq⟩ := mfindL_spec _ _ _ _ hf
        have he' : es[j]? = some e := by simpa using he
        rw [semH_bind', he']
        unfold Instr.keyThatStays
        simp only [Option.map_some, Option.getD_some, sameBits_key hq, if_true]
        refine semH_pure' ?_
        refine semH_setObj _ hb (by simp) _ ⟨true, ?_⟩
        have : mput es clk key v = .map (es.modify j fun e => { e with key := key, val := v }) clk := by unfold mput; rw [hf]
        exact hd _ (by rw [this])
    · exact hd.elim
  | _ => exact hd.elim

theorem sem_delete (hT : TabOK P T) {t ty : TypeId} {m key : Value} {h : Heap} {K : FV → Heap → Prop} {ts : Array TypeId} (hts : ts[0]? = some t) (hd : dDelete T t m key h K) :
    semH P (Builtin.delete_ ts ty #[m, key]) (fun v h' => ∃ b, K (v, b) h') h := by
  unfold dDelete at hd
  cases m with
  | map r =>
    simp only at hd
    cases hk : (lookT T t).k <;> simp only [hk] at hd
    rename_i kt e
    split at hd
    · rename_i hkk
      obtain ⟨b, rfl, es, clk, hb, hks, hd⟩ := onSome_spec hd
      unfold Builtin.delete_
      simp only [hts, List.getElem?_toArray, List.getElem?_cons_zero, List.getElem?_cons_succ]
      rw [semH_bind', semH_underlying (tkP hT hk)]
      dsimp only
      rw [semH_bind']
      refine semH_getObj hb (by simp) _ ?_
      dsimp only
      rw [semH_bind']
      refine semH_checkKey hT (n := 9999) hkk ?_
      rw [semH_bind']
      refine semH_findKey hT hkk hks ?_
      cases hf : mfind key es with
      | none =>
        dsimp only
        rw [semH_bind']
        refine semH_setObj _ hb (by simp) _ ⟨true, ?_⟩
        exact hd _ (by rw [hf])
      | some x =>
        obtain ⟨j, u⟩ := x
        dsimp only
        rw [semH_bind']
        refine semH_setObj _ hb (by simp) _ ⟨true, ?_⟩
        exact hd _ (by rw [hf])
    · exact hd.elim
  | _ => exact hd.elim

theorem sem_clear (hT : TabOK P T) {t ty : TypeId} {m : Value} {h : Heap} {K : FV → Heap → Prop} {ts : Array TypeId} (hts : ts[0]? = some t) (hd : dClear T t m h K) :
    semH P (Builtin.clear_ ts ty #[m]) (fun v h' => ∃ b, K (v, b) h') h := by
  unfold dClear at hd
  cases m with
  | map r =>
    simp only at hd
    cases hk : (lookT T t).k <;> simp only [hk] at hd
    unfold Builtin.clear_
    simp only [hts, List.getElem?_toArray, List.getElem?_cons_zero]
    rw [semH_bind', semH_underlying (tkP hT hk)]
    cases r with
    | none => exact ⟨_, hd⟩
    | some b =>
      obtain ⟨es, clk, hb, hd⟩ := hd
      dsimp only
      rw [semH_bind']
      refine semH_getObj hb (by simp) _ ?_
      dsimp only
      rw [semH_bind']
      refine semH_setObj _ hb (by simp) _ ⟨true, ?_⟩
      exact hd _ rfl
  | _ => exact hd.elim

theorem sem_len (hT : TabOK P T) {t ty : TypeId} {x : Value} {h : Heap} {K : FV → Prop} {ts : Array TypeId} (hts : ts[0]? = some t) (hd : dLen T t x h K) :
    semH P (Builtin.len_ ts ty #[x]) (fun v h' => h' = h ∧ ∃ b, K (v, b)) h := by
  unfold dLen at hd
  unfold Builtin.len_
  simp only [hts, List.getElem?_toArray, List.getElem?_cons_zero]
  cases x with
  | slice a n c =>
    simp only at hd
    cases hk : (lookT T t).k <;> simp only [hk] at hd
    rw [semH_bind', semH_underlying (tkP hT hk)]
    exact ⟨rfl, _, hd⟩
  | string s =>
    simp only at hd
    cases hk : (lookT T t).k <;> simp only [hk] at hd
    rw [semH_bind', semH_underlying (tkP hT hk)]
    exact ⟨rfl, _, hd⟩
  | map r =>
    simp only at hd
    cases hk : (lookT T t).k <;> simp only [hk] at hd
    obtain ⟨es, hes, hd⟩ := hd
    rw [semH_bind', semH_underlying (tkP hT hk)]
    cases r with
    | none =>
      simp only [mapIs] at hes
      subst hes
      exact ⟨rfl, _, hd⟩
    | some b =>
      obtain ⟨clk, hb⟩ := hes
      dsimp only
      rw [semH_bind']
      exact semH_getObj hb (by simp) _ ⟨rfl, _, hd⟩
  | agg cs =>
    simp only at hd
    cases hk : (lookT T t).k <;> simp only [hk] at hd
    rw [semH_bind', semH_underlying (tkP hT hk)]
    exact ⟨rfl, _, hd⟩
  | pointer p =>
    simp only at hd
    cases hk : (lookT T t).k <;> simp only [hk] at hd
    · rename_i a
      cases hk2 : (lookT T a).k <;> simp only [hk2] at hd
      rw [semH_bind', semH_underlying (tkP hT hk)]
      dsimp only
      rw [semH_bind', semH_underlying (tkP hT hk2)]
      exact ⟨rfl, _, hd⟩
    · rw [semH_bind', semH_underlying (tkP hT hk)]
      exact ⟨rfl, _, hd⟩
  | _ => exact hd.elim

theorem sem_cap (hT : TabOK P T) {t ty : TypeId} {x : Value} {h : Heap} {K : FV → Prop} {ts : Array TypeId} (hts : ts[0]? = some t) (hd : dCap T t x K) :
    semH P (Builtin.cap_ ts ty #[x]) (fun v h' => h' = h ∧ ∃ b, K (v, b)) h := by
  unfold dCap at hd
  unfold Builtin.cap_
  simp only [hts, List.getElem?_toArray, List.getElem?_cons_zero]
  cases x with
  | slice a n c =>
    simp only at hd
    cases hk : (lookT T t).k <;> simp only [hk] at hd
    rw [semH_bind', semH_underlying (tkP hT hk)]
    exact ⟨rfl, _, hd⟩
  | _ => exact hd.elim

end
end Go.Proofs.YtfapgccnhonoiaaGreat

/- The framework, part 12: operations, typed: append, copy, make, ranges. -/
namespace Go.Proofs.YtfapgccnhonoiaaGreat

section
variable {P : Program} {T : List TI}

theorem zrow_length (z : List Value) : ∀ n, (zrow z n).length = n * z.length
  | 0 => by simp [zrow]
  | n + 1 => by simp [zrow, zrow_length z n, Nat.add_mul, Nat.add_comm]

theorem zrow_get (z : List Value) : ∀ (n i : Nat), i < n * z.length → (zrow z n)[i]? = z[i % z.length]?
  | 0, i, h => by simp at h
  | n + 1, i, h => by
    simp only [zrow]
    rw [Nat.add_mul, Nat.one_mul] at h
    rcases Nat.lt_or_ge i z.length with hi | hi
    · rw [List.getElem?_append_left hi, Nat.mod_eq_of_lt hi]
    · rw [List.getElem?_append_right hi, zrow_get z n (i - z.length) (by omega)]
      congr 1
      rw [Nat.mod_eq_sub_mod hi]

theorem range_zrow (z : Array Value) (n : Nat) : ((Array.range (n * z.size)).map (z[· % z.size]!)).toList = zrow z.toList n := by
  apply List.ext_getElem?
  intro i
  rcases Nat.lt_or_ge i (n * z.size) with hi | hi
  · rw [zrow_get z.toList n i (by simpa using hi)]
    have hpos : 0 < z.size := by
      rcases Nat.eq_zero_or_pos z.size with h0 | h0
      · rw [h0] at hi; simp at hi
      · exact h0
    have hlt : i % z.size < z.size := Nat.mod_lt _ hpos
    simp [hi, hlt]
  · rw [List.getElem?_eq_none (by simp; omega), List.getElem?_eq_none (by rw [zrow_length]; simpa using hi)]

theorem growBy_le (need : Nat) : ∀ (r c : Nat), c ≤ 2 * need → 256 ≤ need → Builtin.growBy need r c ≤ 2 * need
  | 0, c, h, _ => h
  | r + 1, c, h, hn => by
    simp only [Builtin.growBy]
    split
    · exact h
    · exact growBy_le need r _ (by omega) hn

theorem nextcap_le {need cap : Nat} (h : cap < need) : Builtin.nextslicecap need cap ≤ 2 * need := by
  unfold Builtin.nextslicecap
  split
  · omega
  · split
    · omega
    · exact growBy_le need 4 cap (by omega) (by omega)

theorem semH_firstCells {size n : Nat} {x : Value} {cs : List Value} {h : Heap} {K : Array Value → Heap → Prop} (hs : srcIs h size n x cs) (hk : K ⟨cs⟩ h) : semH P (Builtin.firstCells size n x) K h := by
  cases x with
  | slice a l c =>
    cases a with
    | none => simp only [srcIs] at hs; subst hs; exact hk
    | some b => exact semH_loadCells hs _ hk
  | string s =>
    simp only [srcIs] at hs
    subst hs
    have e : (s.extract 0 n).data.map (fun b => Value.int .u8 b.toNat) = ⟨(s.data.toList.take n).map fun b => Value.int .u8 b.toNat⟩ := by
      apply Array.ext'
      simp [ByteArray.data_extract]
    show K ((s.extract 0 n).data.map (fun b => Value.int .u8 b.toNat)) h
    rw [e]
    exact hk
  | _ => exact hs.elim

theorem semH_lenOf {x : Value} {n : Nat} {h : Heap} {K : Nat → Heap → Prop} (hs : srcLen x = some n) (hk : K n h) : semH P (Builtin.lenOf x) K h := by
  cases x <;> simp only [srcLen, reduceCtorEq] at hs
  · cases hs; exact hk
  · cases hs; exact hk

theorem sem_append (hT : TabOK P T) {t ty : TypeId} {ts : Array TypeId} {t2 : TypeId} {s x : Value} {h : Heap} {K : FV → Heap → Prop} (hts : ts[0]? = some t) (hts2 : ts[1]? = some t2)
    (h2 : (∃ e, (lookT T t2).k = .sl e) ∨ (lookT T t2).k = .str) (hne : ∀ e, (lookT T t).k = .sl e → (lookT T e).k ≠ .oth) (hd : dAppend T t s x h K) :
    semH P (Builtin.append_ ts ty #[s, x]) (fun v h' => ∃ b, K (v, b) h') h := by
  unfold dAppend at hd
  cases s with
  | slice base len cap =>
    simp only at hd
    cases hk : (lookT T t).k <;> simp only [hk] at hd
    rename_i e
    obtain ⟨n, hn, news, hsrc, hcell, hlen, hroom, hgrow⟩ := onSome_spec hd
    obtain ⟨i, z, hi, hsz, hby, hz, hzc, _⟩ := hT.info e (hne e hk)
    unfold Builtin.append_
    simp only [hts, hts2, List.getElem?_toArray, List.getElem?_cons_zero, List.getElem?_cons_succ]
    rw [semH_bind', semH_underlying (tkP hT hk)]
    dsimp only
    rw [semH_bind', semH_sizeOf hi, hsz]
    have hd2 : ∃ d, P.underlying t2 = some d ∧ ((∃ e2, d = .slice e2) ∨ d = .string) := by
      rcases h2 with ⟨e2, h2⟩ | h2
      · exact ⟨_, tkP hT h2, .inl ⟨_, rfl⟩⟩
      · exact ⟨_, tkP hT h2, .inr rfl⟩
    obtain ⟨d, hd2, hdn⟩ := hd2
    rw [semH_bind', semH_underlying hd2]
    have hzf : ∀ (KK : Bool → Heap → Prop), KK false h → semH P (pure (match (generalizing := false) d with | TypeDesc.int _ => true | _ => false) : Sem Bool) KK h := by
      intro KK hKK
      rcases hdn with ⟨e2, rfl⟩ | rfl <;> exact hKK
    rw [semH_bind']
    refine hzf _ ?_
    simp only [Bool.false_eq_true, if_false, Bool.not_false, if_true]
    rw [semH_bind']
    refine semH_lenOf hn ?_
    split
    · rename_i hle
      have hr := hroom hle
      rw [semH_bind']
      refine semH_firstCells hsrc ?_
      cases base with
      | none => exact ⟨_, hr⟩
      | some a =>
        simp only at hr
        dsimp only
        rw [semH_bind']
        exact semH_storeRow hcell hr.1 _ ⟨_, hr.2 _ rfl⟩
    · rename_i hle
      obtain ⟨hbig, hpos, olds, hold, hnew⟩ := hgrow (by omega)
      rw [semH_bind', semH_typeInfo hi, hby]
      rw [if_neg (by rintro ⟨_, hx⟩; simp at hx; omega)]
      rw [semH_bind', semH_typeInfo hi, hby]
      have hcap := nextcap_le (need := len + n) (cap := cap) (by omega)
      have hnb : ¬ (Builtin.nextslicecap (len + n) cap * (lookT T e).bytes > 2 ^ 48) := by
        have : Builtin.nextslicecap (len + n) cap * (lookT T e).bytes ≤ 2 * (len + n) * (lookT T e).bytes := Nat.mul_le_mul_right _ hcap
        rw [Nat.mul_assoc] at this
        omega
      rw [if_neg hnb]
      rw [semH_bind']
      show semH P (choose (.appendCap (len + n) cap e)) _ h
      simp only [choose, semH, Question.forced, Bool.false_eq_true, if_false]
      intro tt
      simp only [Question.cut]
      rw [semH_bind', semH_typeInfo hi, hby, semH_bind']
      have room : ∀ (m : Nat) (KK : Unit → Heap → Prop), KK () h → semH P (askRoom m) KK h := by
        intro m KK hKK
        unfold askRoom
        split <;> exact hKK
      refine room _ _ ?_
      rw [semH_bind']
      refine semH_firstCells hold ?_
      rw [semH_bind']
      refine semH_firstCells hsrc ?_
      rw [semH_bind', semH_zeroValue hi hz, semH_bind', semH_newRow]
      refine semH_pure' ⟨false, ?_⟩
      have hr := hnew (len + n + tt % (2 ^ 63 - (len + n))) (by omega) _ _ rfl rfl
      have e1 : (⟨olds⟩ ++ ⟨news⟩ ++ Builtin.zeroCells z.cells (len + n + tt % (2 ^ 63 - (len + n)) - (len + n)) : Array Value) =
          ⟨olds ++ news ++ zrow (lookT T e).zero (len + n + tt % (2 ^ 63 - (len + n)) - (len + n))⟩ := by
        apply Array.ext'
        have := range_zrow z.cells (len + n + tt % (2 ^ 63 - (len + n)) - (len + n))
        unfold Builtin.zeroCells
        rw [hzc] at this
        simp only [Array.toList_append]
        rw [this]
      rw [e1]
      exact hr
  | _ => exact hd.elim

theorem sem_copy (hT : TabOK P T) {t ty : TypeId} {ts : Array TypeId} {d x : Value} {h : Heap} {K : FV → Heap → Prop} (hts : ts[0]? = some t) (hne : ∀ e, (lookT T t).k = .sl e → (lookT T e).k ≠ .oth)
    (hd : dCopy T t d x h K) : semH P (Builtin.copy_ ts ty #[d, x]) (fun v h' => ∃ b, K (v, b) h') h := by
  unfold dCopy at hd
  cases d with
  | slice base len cap =>
    simp only at hd
    cases hk : (lookT T t).k <;> simp only [hk] at hd
    rename_i e
    obtain ⟨n, hn, news, hsrc, hcell, hst⟩ := onSome_spec hd
    obtain ⟨i, z, hi, hsz, hby, hz, hzc, _⟩ := hT.info e (hne e hk)
    unfold Builtin.copy_
    simp only [hts, List.getElem?_toArray, List.getElem?_cons_zero, List.getElem?_cons_succ]
    rw [semH_bind', semH_underlying (tkP hT hk)]
    dsimp only
    rw [semH_bind']
    refine semH_lenOf hn ?_
    rw [semH_bind', semH_sizeOf hi, hsz, semH_bind']
    refine semH_firstCells (n := min n len) hsrc ?_
    cases base with
    | none => exact ⟨_, hst⟩
    | some a =>
      simp only at hst
      dsimp only
      rw [semH_bind']
      exact semH_storeRow hcell hst.1 _ ⟨_, hst.2 _ rfl⟩
  | _ => exact hd.elim

end
end Go.Proofs.YtfapgccnhonoiaaGreat

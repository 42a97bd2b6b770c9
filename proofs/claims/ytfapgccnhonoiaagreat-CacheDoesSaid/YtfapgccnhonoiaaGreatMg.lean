/- All, Changed and Flush of a cache; what stays true behind them; no condition beyond those each theorem states. -/
import Derived.Test.YtfapgccnhonoiaaGreatMf

/- The conditions of some functions of the program, as text (printed by a tool of this claim's author, wip/tool), and that they are enough for a call. -/
set_option linter.unusedVariables false
namespace Go.Proofs.YtfapgccnhonoiaaGreat

/-- incipit/incipitlaw05.live -/
def live_vc (h : Heap) (R : Value → Heap → Prop) : Prop :=
  entersB Tryz.prog (4 : Nat) = true ∧
 CallH Tryz.prog (4 : Nat) { toList := [Value.int IntKind.i64 (8 : Int)] : Array Value } h fun (v1 : Value) (h1 : Heap) =>
  ∃ (p1 : Option Addr),
   ∃ (i1 : Int),
    v1 = Value.tuple { toList := [Value.pointer p1, Value.int IntKind.i64 i1] : Array Value } ∧
     entersB Tryz.prog (7 : Nat) = true ∧
      CallH Tryz.prog (7 : Nat) { toList := [Value.pointer p1, Value.int IntKind.i64 (2 : Int)] : Array Value } h1 fun (v2 : Value) (h2 : Heap) =>
       ∃ (p2 : Option Addr),
        ∃ (i2 : Int),
         v2 = Value.tuple { toList := [Value.pointer p2, Value.int IntKind.i64 i2] : Array Value } ∧
          ((i1 != (0 : Int)) = true → R (Value.bool false) h2) ∧
           ((i1 != (0 : Int)) = false →
            ((i2 != (0 : Int)) = true → R (Value.bool false) h2) ∧
             ((i2 != (0 : Int)) = false →
              (Option.isNone p1 = true → R (Value.bool false) h2) ∧
               (Option.isNone p1 = false →
                (Option.isNone p2 = true → R (Value.bool false) h2) ∧
                 (Option.isNone p2 = false →
                  entersB Tryz.prog (17 : Nat) = true ∧
                   CallH Tryz.prog (17 : Nat) { toList := [Value.int IntKind.u8 (7 : Int)] : Array Value } h2 fun (v3 : Value) (h3 : Heap) =>
                    ∃ (p3 : Option Addr),
                     ∃ (n1 : Nat),
                      ∃ (n2 : Nat),
                       v3 = Value.slice p3 n1 n2 ∧
                        entersB Tryz.prog (16 : Nat) = true ∧
                         CallH Tryz.prog (16 : Nat) { toList := [Value.pointer p2, Value.int IntKind.i64 (0 : Int), Value.slice p3 n1 n2] : Array Value } h3 fun (v4 : Value) (h4 : Heap) =>
                          ∃ (i3 : Int),
                           v4 = Value.int IntKind.i64 i3 ∧
                            entersB Tryz.prog (17 : Nat) = true ∧
                             CallH Tryz.prog (17 : Nat) { toList := [Value.int IntKind.u8 (8 : Int)] : Array Value } h4 fun (v5 : Value) (h5 : Heap) =>
                              ∃ (p4 : Option Addr),
                               ∃ (n3 : Nat),
                                ∃ (n4 : Nat),
                                 v5 = Value.slice p4 n3 n4 ∧
                                  entersB Tryz.prog (16 : Nat) = true ∧
                                   CallH Tryz.prog (16 : Nat) { toList := [Value.pointer p2, Value.int IntKind.i64 (1 : Int), Value.slice p4 n3 n4] : Array Value } h5 fun (v6 : Value) (h6 : Heap) =>
                                    ∃ (i4 : Int),
                                     v6 = Value.int IntKind.i64 i4 ∧
                                      entersB Tryz.prog (18 : Nat) = true ∧
                                       CallH Tryz.prog (18 : Nat) { toList := [Value.pointer p2, Value.int IntKind.i64 (2 : Int)] : Array Value } h6 fun (v7 : Value) (h7 : Heap) =>
                                        ∃ (p5 : Option Addr),
                                         ∃ (n5 : Nat),
                                          ∃ (n6 : Nat),
                                           ∃ (i5 : Int),
                                            v7 = Value.tuple { toList := [Value.slice p5 n5 n6, Value.int IntKind.i64 i5] : Array Value } ∧
                                             entersB Tryz.prog (13 : Nat) = true ∧
                                              CallH Tryz.prog (13 : Nat) { toList := [Value.pointer p1, Value.int IntKind.i64 (0 : Int)] : Array Value } h7 fun (v8 : Value) (h8 : Heap) =>
                                               ∃ (p6 : Option Addr),
                                                ∃ (n7 : Nat),
                                                 ∃ (n8 : Nat),
                                                  ∃ (i6 : Int),
                                                   v8 = Value.tuple { toList := [Value.slice p6 n7 n8, Value.int IntKind.i64 i6] : Array Value } ∧
                                                    ((i3 == (0 : Int)) = true →
                                                      ((i4 == (0 : Int)) = true →
                                                        ((i5 == (0 : Int)) = true →
                                                          ((i6 == (0 : Int)) = true →
                                                            entersB Tryz.prog (17 : Nat) = true ∧
                                                             CallH Tryz.prog (17 : Nat) { toList := [Value.int IntKind.u8 (7 : Int)] : Array Value } h8 fun (v9 : Value) (h9 : Heap) =>
                                                              ∃ (p7 : Option Addr),
                                                               ∃ (n9 : Nat),
                                                                ∃ (n10 : Nat),
                                                                 v9 = Value.slice p7 n9 n10 ∧
                                                                  entersB Tryz.prog (15 : Nat) = true ∧
                                                                   CallH Tryz.prog (15 : Nat) { toList := [Value.slice p6 n7 n8, Value.slice p7 n9 n10] : Array Value } h9 fun (v10 : Value) (h10 : Heap) =>
                                                                    ∃ (t1 : Bool),
                                                                     v10 = Value.bool t1 ∧
                                                                      (t1 = true →
                                                                        entersB Tryz.prog (20 : Nat) = true ∧
                                                                         CallH Tryz.prog (20 : Nat) { toList := [Value.pointer p2] : Array Value } h10 fun (v11 : Value) (h11 : Heap) =>
                                                                          ∃ (p8 : Option Addr),
                                                                           ∃ (n11 : Nat),
                                                                            ∃ (n12 : Nat),
                                                                             v11 = Value.slice p8 n11 n12 ∧
                                                                              ((1 : Nat) = (1 : Nat) ∧ (1 : Nat) = (1 : Nat) ∧ True) ∧
                                                                               ∀ (n13 : Nat) (rec1 : Array Obj),
                                                                                n13 = Array.size h11 →
                                                                                 rec1 = Array.push h11 (Obj.cells { toList := [Value.int IntKind.i64 (2 : Int), Value.int IntKind.i64 (1 : Int)] : Array Value } (3 : TypeId)) →
                                                                                  entersB Tryz.prog (19 : Nat) = true ∧
                                                                                   CallH Tryz.prog (19 : Nat) { toList := [Value.slice p8 n11 n12, Value.slice (some { block := n13, off := (0 : Nat) : Addr }) (2 : Nat) (2 : Nat)] : Array Value } rec1 fun (v12 : Value) (h12 : Heap) =>
                                                                                    ∃ (t2 : Bool), v12 = Value.bool t2 ∧ R (Value.bool t2) h12) ∧
                                                                       (t1 = false → R (Value.bool false) h10)) ∧
                                                           ((i6 == (0 : Int)) = false → R (Value.bool false) h8)) ∧
                                                         ((i5 == (0 : Int)) = false → R (Value.bool false) h8)) ∧
                                                       ((i4 == (0 : Int)) = false → R (Value.bool false) h8)) ∧
                                                     ((i3 == (0 : Int)) = false → R (Value.bool false) h8)))))

theorem live_call  {h : Heap} {R : Value → Heap → Prop} (H : live_vc  h R) : CallH Tryz.prog 5 ⟨[]⟩ h R :=
  callH_of_dCode tabOK mixed [] Tryz.func5 (c := bodyC Tryz.f5) (by kernel_rfl) (by kernel_rfl : Tryz.f5.ntmps = 75) rfl
    (Eq.mp (by kernel_rfl : live_vc  h R = dCode Tryz.prog T ⟨[], [], [], [], []⟩ (bodyC Tryz.f5) none (dEnd T (Tryz.f5.results.toList) R) (startE 75 []) h) H)

/-- incipit/incipitlaw05.told -/
def told_vc (b0 : Nat) (q1 : Int) (h : Heap) (R : Value → Heap → Prop) : Prop :=
  ∀ (n1 : Nat) (rec1 : Array Obj),
 n1 = Array.size h →
  rec1 = Array.push h (Obj.cells { toList := [Value.int IntKind.i64 q1] : Array Value } (3 : Nat)) →
   ∀ (n2 : Nat) (rec2 : Array Obj),
    n2 = Array.size rec1 →
     rec2 = Array.push rec1 (Obj.cells { toList := [Value.slice none (0) (0)] : Array Value } (73 : Nat)) →
      (false = true → R (Value.slice none (0 : Nat) (0 : Nat)) rec2) ∧
       (false = false →
        entersB Tryz.prog (74 : FuncId) = true ∧
         ∀ (n3 n4 : Nat) (rec3 : LoopState → Option Code → Obj) (h1 : Heap),
          n4 = Array.size rec2 →
           n3 = Array.size rec2 + (1 : Nat) →
            (∀ (x1 : LoopState) (x2 : Option Code), notCells (rec3 x1 x2)) →
             h1 = Array.push (Array.push rec2 (Obj.deferred (some []))) (rec3 LoopState.ready none) →
              (∀ (i1 : Int) (t1 : Bool) (h2 : Heap) (I1 : Value → Heap → Prop),
                h2[n3]? = some (rec3 LoopState.ready none) →
                 (h2[n3]? = some (rec3 LoopState.ready none) ∧
                   ∀ (h3 : Heap),
                    h3 = Array.setIfInBounds h2 n3 (rec3 LoopState.busy none) →
                     ∃ (p1 : Option Addr),
                      ∃ (n6 : Nat),
                       ∃ (n7 : Nat),
                        cellAt h3 { block := n2, off := (0 : Nat) : Addr } = some (Value.slice p1 n6 n7) ∧
                         ∃ (i2 : Int),
                          cellAt h3 { block := n1, off := (0 : Nat) : Addr } = some (Value.int IntKind.i64 i2) ∧
                           (decide ((↑n6 : Int) ≥ i2) = true → h3[n3]? = some (rec3 LoopState.busy none) ∧ ∀ (h4 : Heap), h4 = Array.setIfInBounds h3 n3 (rec3 LoopState.done (some (Code.exit (0 : Nat)))) → I1 (Value.bool false) h4) ∧
                            (decide ((↑n6 : Int) ≥ i2) = false →
                             ∃ (p2 : Option Addr),
                              ∃ (n8 : Nat),
                               ∃ (n9 : Nat),
                                cellAt h3 { block := n2, off := (0 : Nat) : Addr } = some (Value.slice p2 n8 n9) ∧
                                 ((0 : Nat) + (1 : Nat) + (1 : Nat) = (2 : Nat) ∧ True) ∧
                                  ∀ (n10 : Nat) (rec5 : Array Obj),
                                   n10 = Array.size h3 →
                                    rec5 = Array.push h3 (Obj.cells { toList := [Value.int IntKind.i64 i1, Value.bool t1] : Array Value } (78 : TypeId)) →
                                     ∃ (l1 : List Value),
                                      srcIs rec5 (2 : Nat) (1 : Nat) (Value.slice (some { block := n10, off := (0 : Nat) : Addr }) (1 : Nat) (1 : Nat)) l1 ∧
                                       (∀ (v1 : Value), v1 ∈ l1 → isCell v1 = true) ∧
                                        List.length l1 = (2 : Nat) ∧
                                         (n8 + (1 : Nat) ≤ n9 →
                                           match p2 with
                                           | some a1 =>
                                            okRow rec5 (Addr.add a1 (n8 * (2 : Nat))) (List.length l1) ∧
                                             ∀ (h5 : Heap),
                                              h5 = updRow rec5 (Addr.add a1 (n8 * (2 : Nat))) (0 : Nat) l1 →
                                               true = true ∧
                                                okAt h5 { block := n2, off := (0 : Nat) : Addr } ∧
                                                 ∀ (h6 : Heap), h6 = upd h5 { block := n2, off := (0 : Nat) : Addr } (Value.slice p2 (n8 + (1 : Nat)) n9) → h6[n3]? = some (rec3 LoopState.busy none) ∧ ∀ (h7 : Heap), h7 = Array.setIfInBounds h6 n3 (rec3 LoopState.ready none) → I1 (Value.bool true) h7
                                           | none =>
                                            true = true ∧
                                             okAt rec5 { block := n2, off := (0 : Nat) : Addr } ∧
                                              ∀ (h8 : Heap),
                                               h8 = upd rec5 { block := n2, off := (0 : Nat) : Addr } (Value.slice p2 (n8 + (1 : Nat)) n9) → h8[n3]? = some (rec3 LoopState.busy none) ∧ ∀ (h9 : Heap), h9 = Array.setIfInBounds h8 n3 (rec3 LoopState.ready none) → I1 (Value.bool true) h9) ∧
                                          (n9 < n8 + (1 : Nat) →
                                           (n8 + (1 : Nat)) * (16 : Nat) ≤ (70368744177664 : Nat) ∧
                                            (0 : Nat) < (16 : Nat) ∧
                                             ∃ (l2 : List Value),
                                              srcIs rec5 (2 : Nat) n8 (Value.slice p2 n8 n9) l2 ∧
                                               ∀ (n11 : Nat),
                                                n8 + (1 : Nat) ≤ n11 →
                                                 ∀ (n12 : Nat) (rec6 : Array Obj),
                                                  n12 = Array.size rec5 →
                                                   rec6 = Array.push rec5 (Obj.cells { toList := List.append (List.append l2 l1) (zrow [Value.int IntKind.i64 (Int.ofNat (0)), Value.bool false] (n11 - (n8 + (1 : Nat)))) : Array Value } (78 : TypeId)) →
                                                    true = true ∧
                                                     okAt rec6 { block := n2, off := (0 : Nat) : Addr } ∧
                                                      ∀ (h10 : Heap),
                                                       h10 = upd rec6 { block := n2, off := (0 : Nat) : Addr } (Value.slice (some { block := n12, off := (0 : Nat) : Addr }) (n8 + (1 : Nat)) n11) →
                                                        h10[n3]? = some (rec3 LoopState.busy none) ∧ ∀ (h11 : Heap), h11 = Array.setIfInBounds h10 n3 (rec3 LoopState.ready none) → I1 (Value.bool true) h11))) →
                  CallV Tryz.prog (yieldV n3) { toList := [Value.int IntKind.i64 i1, Value.bool t1] : Array Value } h2 I1) →
               CallH Tryz.prog (74 : FuncId) { toList := [yieldV n3, Value.pointer (some { block := b0, off := (0 : Nat) : Addr })] : Array Value } h1 fun (v2 : Value) (h12 : Heap) =>
                (h12[n3]? = some (rec3 LoopState.done (some (Code.exit (0 : Nat)))) ∧
                  ∀ (h13 : Heap),
                   h13 = Array.setIfInBounds h12 n3 (rec3 LoopState.exhausted (some (Code.exit (0 : Nat)))) →
                    ∃ (p4 : Option Addr),
                     ∃ (n13 : Nat), ∃ (n14 : Nat), cellAt h13 { block := n2, off := (0 : Nat) : Addr } = some (Value.slice p4 n13 n14) ∧ h13[n4]? = some (Obj.deferred (some [])) ∧ ∀ (h14 : Heap), h14 = Array.setIfInBounds h13 n4 (Obj.deferred none) → R (Value.slice p4 n13 n14) h14) ∨
                 h12[n3]? = some (rec3 LoopState.ready none) ∧
                  ∀ (h15 : Heap),
                   h15 = Array.setIfInBounds h12 n3 (rec3 LoopState.exhausted none) →
                    ∃ (p5 : Option Addr),
                     ∃ (n15 : Nat), ∃ (n16 : Nat), cellAt h15 { block := n2, off := (0 : Nat) : Addr } = some (Value.slice p5 n15 n16) ∧ h15[n4]? = some (Obj.deferred (some [])) ∧ ∀ (h16 : Heap), h16 = Array.setIfInBounds h15 n4 (Obj.deferred none) → R (Value.slice p5 n15 n16) h16)

theorem told_call (b0 : Nat) (q1 : Int) {h : Heap} {R : Value → Heap → Prop} (H : told_vc b0 q1 h R) : CallH Tryz.prog 42 ⟨[.func (.func 74) #[] #[.pointer (some ⟨b0, 0, none⟩)], .int .i64 q1]⟩ h R :=
  callH_of_dCode tabOK mixed [(.func (.func 74) #[] #[.pointer (some ⟨b0, 0, none⟩)], false), (.int .i64 q1, false)] Tryz.func42 (c := bodyC Tryz.f42) (by kernel_rfl) (by kernel_rfl : Tryz.f42.ntmps = 24) rfl
    (Eq.mp (by kernel_rfl : told_vc b0 q1 h R = dCode Tryz.prog T ⟨[], [], [], [(7, [.int .i64, .bool])], []⟩ (bodyC Tryz.f42) none (dEnd T (Tryz.f42.results.toList) R) (startE 24 [(.func (.func 74) #[] #[.pointer (some ⟨b0, 0, none⟩)], false), (.int .i64 q1, false)]) h) H)

end Go.Proofs.YtfapgccnhonoiaaGreat

/- The laws' first check: does a changed page go, and is it written? -/
namespace Go.Proofs.YtfapgccnhonoiaaGreat

section
variable {D D' : Dk} {K K' : Ck} {n t : Nat}

theorem roomR_free {v : Int} (h : (K.l.length : Int) < K.size) (r : roomR D K v D' K') : v = 0 ∧ D' = D ∧ K' = K := by
  rcases r with ⟨_, h2, h3, h4⟩ | ⟨h1, _⟩
  · exact ⟨h2, h3, h4⟩
  · exact absurd h h1

theorem PutR.fresh {k : Int} (hm : D.may k (256 : Nat) = 0) (hk : efind k K.l = none) (hl : (K.l.length : Int) < K.size) {pg : List Value} {m : Int} (r : PutR D K k (256 : Nat) pg m D' K') :
    m = 0 ∧ D' = D ∧ K' = K.miss.enter ⟨k, pg, true, 0, IntKind.wrap .i64 (K.clock + 1)⟩ := by
  cases r with
  | bad h => exact absurd hm h
  | held e h he => rw [hk] at he; cases he
  | full _ _ _ h he hr hn => exact absurd (roomR_free (K := K.miss) hl hr).1 hn
  | new _ K1 h he hr =>
    obtain ⟨_, rfl, rfl⟩ := roomR_free (K := K.miss) hl hr
    exact ⟨rfl, rfl, rfl⟩

theorem perm_two {a b : Int} {ds : List Int} (h : ds.Perm [a, b]) : ds = [a, b] ∨ ds = [b, a] := by
  have hl := h.length_eq
  match ds, hl with
  | [x, y], _ =>
    by_cases hx : x = a
    · subst hx
      have := (List.perm_cons x).1 h
      rw [List.perm_singleton.1 this]
      exact .inl rfl
    · have hm : x ∈ [a, b] := h.subset List.mem_cons_self
      have hxb : x = b := by simpa [hx] using hm
      subst hxb
      have h2 : [x, y].Perm [x, a] := h.trans (List.Perm.swap x a [])
      have := (List.perm_cons x).1 h2
      rw [List.perm_singleton.1 this]
      exact .inr rfl

end

def liveE0 : En := ⟨0, bytePg 7, true, 0, 1⟩
def liveE1 : En := ⟨1, bytePg 8, true, 0, 2⟩
def liveK : Ck := ⟨2, 2, 0, 2, [liveE0, liveE1]⟩

theorem live_get {D' : Dk} {K' : Ck} {res : Except Int (List Value)} (r : GetR (Dk.new 8) liveK 2 res D' K') (g : Good (Dk.new 8) liveK 8 4) :
    ∃ pg, res = .ok pg ∧ Good D' K' 8 6 ∧ D'.show 0 = bytePg 7 ∧ K'.l = [liveE1, ⟨2, pg, false, 0, 3⟩] := by
  have hfree : liveK.free := .inr ⟨liveE0, by simp [liveK], by simp [liveE0]⟩
  obtain ⟨hres, g', _, _⟩ := g.get (by omega) (by omega) (by omega) (.inl hfree) r
  have roomK : ∀ {v D1 K1}, roomR (Dk.new 8) liveK.miss v D1 K1 → D1.show 0 = bytePg 7 ∧ K1.l = [liveE1] ∧ K1.clock = 2 := by
    intro v D1 K1 hr
    rcases hr with ⟨h, _⟩ | ⟨_, b, hold, ⟨hb, _⟩ | ⟨hb, e, he, hm, hr⟩⟩
    · exact absurd h (by simp [liveK, Ck.miss])
    · exfalso
      rcases hold with ⟨_, ha⟩ | ⟨e, he, hep, _⟩
      · have := ha liveE0 (by simp [liveK, Ck.miss]); simp [liveE0] at this
      · simp only [liveK, Ck.miss, List.mem_cons, List.not_mem_nil, or_false] at he
        rcases he with rfl | rfl <;> simp only [liveE0, liveE1] at hep <;> omega
    · have hb0 : b = 0 := by
        rcases hold with ⟨hb1, _⟩ | ⟨e', he', hep, _, hmin⟩
        · omega
        · simp only [liveK, Ck.miss, List.mem_cons, List.not_mem_nil, or_false] at he'
          rcases he' with rfl | rfl
          · exact hep.symm
          · have := hmin liveE0 (by simp [liveK, Ck.miss]) (by simp [liveE0])
            simp [liveE0, liveE1] at this
      subst hb0
      have he0 : e = liveE0 := by
        have : efind 0 liveK.miss.l = some liveE0 := rfl
        rw [this] at he
        exact (Option.some.inj he).symm
      subst he0
      rcases hr with ⟨hc, _⟩ | ⟨_, hat, _⟩ | ⟨_, hat, hv, rfl, rfl⟩
      · cases hc
      · exact absurd (g.at_zero (k := 0) (by omega) (by omega)) hat
      · obtain ⟨w1, _, _, _, _, _, w7⟩ := Dk.write_calm (i := 0) g.ok g.calm (by omega) (by have := g.pages; omega) (bytePg_ok 7) (by have := g.few; omega)
        have hv0 : v = 0 := by rw [hv]; exact w1
        rw [if_pos hv0]
        exact ⟨(w7 0).trans (if_pos rfl), rfl, rfl⟩
  cases r with
  | bad h => cases hres
  | held e h he => exact nomatch he
  | full _ _ _ h he hr hn => cases hres
  | off _ _ h he hr ha => cases hres
  | new D1 K1 h he hr ha =>
    obtain ⟨h1, h2, h3⟩ := roomK hr
    refine ⟨_, rfl, g', h1, ?_⟩
    show K1.l ++ [_] = _
    rw [h2, h3]
    rfl

theorem live_ok (h : Heap) : CallH Tryz.prog 5 ⟨[]⟩ h fun v h' => v = .bool true ∧ Keep h h' [] := by
  refine live_call ⟨by kernel_rfl, (new_ok h 8 2 (by omega) (by omega) (by omega) (by omega)).mono ?_⟩
  rintro _ h1 ⟨da, rfl, hc⟩
  refine ⟨_, _, rfl, by kernel_rfl, hc.mono ?_⟩
  rintro _ h2 ⟨c, p, q, rfl, o⟩
  have g := Good.start (n := 8) (s := 2) (by omega) (by omega) (by omega)
  refine ⟨_, _, rfl, nofun, fun _ => ⟨nofun, fun _ => ⟨nofun, fun _ => ⟨nofun, fun _ => ⟨by kernel_rfl, (pg_ok h2 7).mono ?_⟩⟩⟩⟩⟩
  rintro _ h3 ⟨n3, rfl, hb3, hn3, k3⟩
  have o3 := o.beside k3
  refine ⟨_, _, _, rfl, by kernel_rfl, (o3.put g (by omega) 0 _ 256 256 _ (pg_sl hb3 hn3 o.cd.lt)).mono ?_⟩
  rintro _ h4 ⟨m, D4, K4, p4, q4, rfl, r4, o4, _⟩
  obtain ⟨rfl, g4, _, _, _, _⟩ := g.put (by omega) (by omega) (by omega) (.inl (.inl (by show (0 : Int) < 2; decide))) (bytePg_ok 7) r4
  obtain ⟨-, rfl, e4⟩ := PutR.fresh (g.may_zero (by omega) (by omega)) rfl (by show (0 : Int) < 2; decide) r4
  refine ⟨0, rfl, by kernel_rfl, (pg_ok h4 8).mono ?_⟩
  rintro _ h5 ⟨n5, rfl, hb5, hn5, k5⟩
  have o5 := o4.beside k5
  refine ⟨_, _, _, rfl, by kernel_rfl, (o5.put g4 (by omega) 1 _ 256 256 _ (pg_sl hb5 hn5 o4.cd.lt)).mono ?_⟩
  rintro _ h6 ⟨m, D6, K6, p6, q6, rfl, r6, o6, _⟩
  have l4 : K4.l = [liveE0] := by rw [e4]; rfl
  have hfr : (K4.l.length : Int) < K4.size := by rw [l4, e4]; exact (by decide : (1 : Int) < 2)
  obtain ⟨rfl, g6, _, _, _, _⟩ := g4.put (by omega) (by omega) (by omega) (.inl (.inl hfr)) (bytePg_ok 8) r6
  obtain ⟨-, rfl, e6⟩ := PutR.fresh (g4.may_zero (by omega) (by omega)) (by rw [l4]; rfl) hfr r6
  have hK : K6 = liveK := by rw [e6, e4]; rfl
  subst hK
  refine ⟨0, rfl, by kernel_rfl, (o6.get g6 (by omega) 2).mono ?_⟩
  rintro v7 h7 ⟨res, D7, K7, p7, q7, r7, got7, o7, _⟩
  obtain ⟨pg, rfl, g7, show0, hl7⟩ := live_get r7 g6
  obtain ⟨b7, cap7, rfl, _, _⟩ := gotR_sl got7
  refine ⟨_, _, _, 0, rfl, by kernel_rfl, (dRead_ok o7.cd.dk 0).mono ?_⟩
  rintro v8 h8 ⟨hv8, _⟩
  obtain ⟨b8, p8, rfl, hn8, hb8, hf8, rd8, kd8, sd8⟩ := hv8 (g7.at_zero (by omega) (by omega))
  rw [show0] at hb8
  obtain ⟨p8', q8, o8⟩ := o7.post (o7.cd.disk ⟨p8, rd8, kd8, sd8⟩)
  refine ⟨_, _, _, 0, rfl, fun _ => ⟨fun _ => ⟨fun _ => ⟨fun _ => ⟨by kernel_rfl, (pg_ok h8 7).mono ?_⟩, nofun⟩, nofun⟩, nofun⟩, nofun⟩
  rintro _ h9 ⟨n9, rfl, hb9, hn9, k9⟩
  have o9 := o8.beside k9
  have s8 : SlAt h9 (some ⟨b8, 0, none⟩) 256 (bytePg 7) [] := blk_sl (bytePg_ok 7) (hb8.keep k9 (by simp)) (by simp)
  refine ⟨_, _, _, rfl, by kernel_rfl, (rSame_ok s8 (pg_sl (F := []) hb9 hn9 (by simp)) 256 256 (by omega)).mono ?_⟩
  rintro _ h9 ⟨t, rfl, ht, rfl⟩
  have ht1 : t = true := ht.2 rfl
  subst ht1
  refine ⟨true, rfl, fun _ => ⟨by kernel_rfl, (cHeld_ok o9.cd.ck (fun e he => ?_) (by rw [hl7]; show 2 ≤ 12; omega)).mono ?_⟩, nofun⟩
  · have h1 := g7.used e he
    have h2 := g7.clock
    omega
  rintro _ h11 ⟨p8, n11, c11, ds, rfl, hv, ⟨hp, hs⟩, k11⟩
  refine ⟨_, _, _, rfl, ⟨rfl, rfl, trivial⟩, fun n13 h12 hn13 hh12 => ⟨by kernel_rfl, ?_⟩⟩
  have k12 : Keep h11 h12 [] := by rw [hh12]; exact Keep.push _ _ _
  have hds : ds = [2, 1] := by
    rw [hl7] at hp
    rcases perm_two hp with h | h
    · rw [h] at hs
      have := (List.pairwise_cons.1 hs).1 2 (by simp)
      unfold Ck.usedOf at this
      rw [hl7] at this
      exact absurd (show (3 : Int) ≤ 2 from this) (by decide)
    · exact h
  subst hds
  have v12 : Vec h12 (some ⟨n13, 0, none⟩) 2 2 0 (ints [2, 1]) := by
    refine ⟨rfl, .inr ⟨n13, [], rfl, by omega, ?_, rfl⟩⟩
    rw [hh12, hn13, List.append_nil]
    exact Blk.new _ _ _
  refine (rInts_ok (hv.keep k12 (by simp)) v12 (by have := hv.1; rw [this]; decide)).mono ?_
  rintro _ h13 ⟨rfl, rfl⟩
  exact ⟨_, rfl, by simp, (o9.keep.trans' k11).trans' k12⟩

end Go.Proofs.YtfapgccnhonoiaaGreat

/- More on what stays true: which pages are held where pins are known. -/
namespace Go.Proofs.YtfapgccnhonoiaaGreat

section
variable {h0 h h' : Heap} {c da : Nat} {D D' : Dk} {K K' : Ck} {p p' : Pl} {q q' : Cp} {n t : Nat}

theorem pinned_held {k : Int} (h : K.pinOf k ≠ 0) : ∃ e, efind k K.l = some e ∧ e.pins = K.pinOf k := by
  unfold Ck.pinOf at h ⊢
  cases he : efind k K.l with
  | none => rw [he] at h; exact absurd rfl h
  | some e => exact ⟨e, rfl, rfl⟩

theorem Good.pinE (g : Good D K n t) {e : En} (he : e ∈ K.l) : K.pinOf e.p = e.pins := by
  unfold Ck.pinOf; rw [g.find he]

theorem nat_keys (g : Good D K n t) : (K.l.map fun e => e.p.toNat).Nodup := by
  have := g.nodup
  have key : ∀ (l : List En), (∀ e ∈ l, 0 ≤ e.p) → (l.map (·.p)).Nodup → (l.map fun e => e.p.toNat).Nodup := by
    intro l
    induction l with
    | nil => intro _ _; exact List.nodup_nil
    | cons x r ih =>
      intro h1 h2
      simp only [List.map_cons, List.nodup_cons] at h2 ⊢
      refine ⟨fun hm => ?_, ih (fun e he => h1 e (List.mem_cons_of_mem _ he)) h2.2⟩
      obtain ⟨y, hy, hyx⟩ := List.mem_map.1 hm
      have e1 := h1 y (List.mem_cons_of_mem _ hy)
      have e2 := h1 x List.mem_cons_self
      exact h2.1 (List.mem_map.2 ⟨y, hy, by omega⟩)
  exact key K.l (fun e he => (g.keys e he).1) this

/-- Fewer pages are pinned than there is room. -/
theorem Good.free_of (g : Good D K n t) (m : Nat) (hm : (m : Int) < K.size) (hp : ∀ j, 0 < K.pinOf j → 0 ≤ j ∧ j < m) : K.free := by
  by_cases hl : (K.l.length : Int) < K.size
  · exact .inl hl
  right
  apply Classical.byContradiction
  intro hall
  have hall : ∀ e ∈ K.l, 0 < e.pins := fun e he => by
    apply Classical.byContradiction
    intro hn
    exact hall ⟨e, he, hn⟩
  have := nodup_le (K.l.map fun e => e.p.toNat) (List.range m) (nat_keys g) fun k hk => by
    obtain ⟨e, he, rfl⟩ := List.mem_map.1 hk
    have h1 := hp e.p (by rw [g.pinE he]; exact hall e he)
    exact List.mem_range.2 (by omega)
  simp only [List.length_map, List.length_range] at this
  omega

/-- All pages up to the room's size are pinned: no other one is held. -/
theorem Good.just (g : Good D K n t) (m : Nat) (hm : K.size = m) (hp : ∀ j : Int, 0 ≤ j → j < m → K.pinOf j ≠ 0) : ¬ (K.l.length : Int) < K.size ∧ ∀ e ∈ K.l, 0 ≤ e.p ∧ e.p < m := by
  have hin : ∀ i ∈ List.range m, i ∈ K.l.map fun e => e.p.toNat := fun i hi => by
    have := List.mem_range.1 hi
    obtain ⟨e, he, _⟩ := pinned_held (hp i (by omega) (by omega))
    obtain ⟨h1, h2⟩ := efind_mem he
    exact List.mem_map.2 ⟨e, h1, by omega⟩
  have h1 := nodup_le (List.range m) (K.l.map fun e => e.p.toNat) List.nodup_range hin
  simp only [List.length_map, List.length_range] at h1
  refine ⟨by omega, fun e he => ⟨(g.keys e he).1, ?_⟩⟩
  apply Classical.byContradiction
  intro hn
  have h0 := (g.keys e he).1
  have h2 := nodup_le (e.p.toNat :: List.range m) (K.l.map fun e => e.p.toNat) (List.nodup_cons.2 ⟨fun hm => by have := List.mem_range.1 hm; omega, List.nodup_range⟩) fun i hi => by
    rcases List.mem_cons.1 hi with rfl | hi
    · exact List.mem_map.2 ⟨e, he, rfl⟩
    · exact hin i hi
  simp only [List.length_cons, List.length_map, List.length_range] at h2
  have := g.room
  omega

theorem Own.pin (o : Own h0 h c da D K p q) (k : Int) : CallH Tryz.prog 24 ⟨[ptr c, i64 k]⟩ h fun v h' => v = i64 (K.pin k).2 ∧ ∃ p' q', Own h0 h' c da D (K.pin k).1 p' q' := by
  refine (cPin_ok o.cd.ck k).mono ?_
  rintro v h' ⟨rfl, r⟩
  exact ⟨rfl, o.post (o.cd.cache r)⟩

theorem Own.unpin (o : Own h0 h c da D K p q) (k : Int) : CallH Tryz.prog 26 ⟨[ptr c, i64 k]⟩ h fun v h' => v = i64 (K.unpin k).2 ∧ ∃ p' q', Own h0 h' c da D (K.unpin k).1 p' q' := by
  refine (cUnpin_ok o.cd.ck k).mono ?_
  rintro v h' ⟨rfl, r⟩
  exact ⟨rfl, o.post (o.cd.cache r)⟩

theorem Own.forget (o : Own h0 h c da D K p q) (k : Int) : CallH Tryz.prog 28 ⟨[ptr c, i64 k]⟩ h fun v h' => v = i64 (K.forget k).2 ∧ ∃ p' q', Own h0 h' c da D (K.forget k).1 p' q' := by
  refine (cForget_ok o.cd.ck k).mono ?_
  rintro v h' ⟨rfl, r⟩
  exact ⟨rfl, o.post (o.cd.cache r)⟩

theorem Own.held (o : Own h0 h c da D K p q) (g : Good D K n t) (ht : t < 1000000) (hn : K.l.length ≤ 12) : CallH Tryz.prog 20 ⟨[ptr c]⟩ h fun v h' => ∃ s m cap ds, v = .slice s m cap ∧ Vec h' s m cap h.size (ints ds) ∧ K.heldR ds ∧ Own h0 h' c da D K p q := by
  refine (cHeld_ok o.cd.ck (fun e he => ?_) hn).mono ?_
  · have h1 := g.used e he
    have h2 := g.clock
    omega
  rintro v h' ⟨s, m, cap, ds, rfl, hv, hd, k⟩
  exact ⟨s, m, cap, ds, rfl, hv, hd, o.beside k⟩

end

/-- The acts of a script, as the call finds them. -/
def OpsAt (h : Heap) (sp : Option Addr) (l c : Nat) : Prop :=
  l ≤ c ∧ (l = 0 ∨ ∃ b o, sp = some ⟨b, o, none⟩ ∧ b < h.size ∧ ∀ i < l, ∃ d p cc n, rowAt h ⟨b, o + i * 4, none⟩ 4 = some [i64 d, i64 p, .int .u8 cc, i64 n])

theorem OpsAt.at {h h' : Heap} {sp : Option Addr} {l c : Nat} (s : OpsAt h sp l c) (k : Keep h h' []) {i : Nat} (hi : i < l) : ∃ a d p cc n, sp = some a ∧ rowAt h' (a.add (i * 4)) 4 = some [i64 d, i64 p, .int .u8 cc, i64 n] := by
  obtain ⟨b, o, rfl, hb, hr⟩ := s.2.resolve_left (by omega)
  obtain ⟨d, p, cc, n, hrow⟩ := hr i hi
  refine ⟨_, d, p, cc, n, rfl, ?_⟩
  rw [addr_add, rowAt_same (k.same b hb (by simp))]
  exact hrow

end Go.Proofs.YtfapgccnhonoiaaGreat

/- The cache, part 14: All, gone through. -/
namespace Go.Proofs.YtfapgccnhonoiaaGreat

theorem perm_le_strict {l : List Int} (hn : l.Nodup) (h : l.Pairwise (fun x y => x ≤ y)) : l.Pairwise (fun x y => x < y) := by
  induction l with
  | nil => exact List.Pairwise.nil
  | cons a r ih =>
    simp only [List.nodup_cons] at hn
    obtain ⟨h1, h2⟩ := List.pairwise_cons.1 h
    refine List.pairwise_cons.2 ⟨fun b hb => ?_, ih hn.2 h2⟩
    have h3 := h1 b hb
    have : a ≠ b := fun e => hn.1 (e ▸ hb)
    omega

section
variable {h : Heap} {c da : Nat} {K : Ck} {q : Cp} {R : Value → Heap → Prop}

/-- What a walk over all pages is asked for: L are the pages, rising. -/
structure AllR (h h3 : Heap) (c da b1 n2 : Nat) (L : List Int) (K0 : Ck) (q0 : Cp) (R : Value → Heap → Prop) (Inv : List Int → Heap → Ck → Cp → Prop) (F : List Nat) : Prop where
  frame : ∀ b ∈ F, b < h.size
  start : Inv [] h3 K0 q0
  keep : ∀ ds hh K q, Inv ds hh K q → Keep h3 hh F ∧ Blk hh b1 [ptr c] ∧ CacheR hh c da K q
  step : ∀ ds k rest hh K q e, L = ds ++ k :: rest → Inv ds hh K q → efind k K.l = some e → CallV Tryz.prog (yieldV n2) ⟨[i64 k, .bool e.ch]⟩ hh fun v h' => (v = .bool true ∧ ∃ K' q', Inv (ds ++ [k]) h' K' q') ∨ (v = .bool false ∧ R (.tuple ⟨[]⟩) h')
  over : ∀ ds k rest hh K q, L = ds ++ k :: rest → Inv ds hh K q → efind k K.l = none → Inv (ds ++ [k]) hh K q
  done : ∀ hh K q, Inv L hh K q → R (.tuple ⟨[]⟩) hh

theorem cAll1_ok {b1 n2 : Nat} (hb : Blk h b1 [ptr c]) (r : CacheR h c da K q) (hn : K.l.length ≤ 12)
    (H : ∀ h3 L, L.Perm (K.l.map (·.p)) → L.Pairwise (fun x y => x < y) → Keep h h3 [] → ∃ Inv F, AllR h h3 c da b1 n2 L K q R Inv F) :
    CallH Tryz.prog 74 ⟨[yieldV n2, ptr b1]⟩ h R := by
  refine cAll1_call _ b1 ⟨_, hb.cell rfl, by kernel_rfl, (cNone_ok r).mono ?_⟩
  rintro _ h1 ⟨rfl, rfl⟩
  refine ⟨false, rfl, nofun, fun _ => ⟨_, hb.cell rfl, _, r.blk.cell rfl, by kernel_rfl, (mKeys_ok h1 q.mb).mono ?_⟩⟩
  rintro _ h2 ⟨b2, rfl, hb2, k2, _⟩
  have r2 := r.keep k2 (by simp)
  have hlen : (alOf q.L).length ≤ 12 := by
    have := congrArg List.length r.l
    simp only [List.length_map] at this
    simp [alOf]; omega
  refine ⟨_, rfl, by kernel_rfl, (sSorted_ok hb2 r2.map hlen).mono ?_⟩
  rintro _ h3 ⟨p, n, cap, L, rfl, hv, hp, hs, k3⟩
  rw [r2.alKeys] at hp
  have hnd : L.Nodup := hp.symm.nodup r.keys
  obtain ⟨Inv, F, A⟩ := H h3 L hp (perm_le_strict hnd hs) (k2.trans' k3)
  have hnl : n = L.length := by rw [hv.1, ints_len]
  have hl12 : L.length ≤ 12 := by have := hp.length_eq; simp at this; omega
  refine ⟨_, _, _, rfl, fun i hh => ∃ ds rest K q, i = (ds.length : Int) ∧ L = ds ++ rest ∧ Inv ds hh K q, fun i _ => (n - i).toNat, ⟨[], L, K, q, rfl, rfl, A.start⟩, ?_⟩
  rintro _ h4 ⟨ds, rest, K4, q4, rfl, hL, hi⟩
  obtain ⟨k4, hb4, r4⟩ := A.keep _ _ _ _ hi
  have wi : IntKind.wrap .i64 ((ds.length : Int) + 1) = (ds.length : Int) + 1 := by
    have := congrArg List.length hL
    simp only [List.length_append] at this
    exact w64 _ (by omega) (by omega)
  rw [wi]
  refine ⟨fun e => ?_, fun e => ?_⟩
  · have hlt : ds.length < n := by have := of_decide_eq_true e; omega
    match rest, hL with
    | [], hL => rw [hL] at hnl; simp at hnl; omega
    | k :: rest, hL =>
      have v4 := hv.keep k4 fun b hb hF => by
        have h1 := (hv.lt b hb).2
        have h2 := A.frame b hF
        have h3 := k2.size
        omega
      obtain ⟨b, rfl, _, _, hc⟩ := v4.cell (i := ds.length) (w := i64 k) (by rw [ints_get, hL]; simp)
      obtain ⟨es, he, _, hk, hg⟩ := r4.map.is
      have ha := al_get k q4.L
      rw [← r4.l] at ha
      have fin : ∀ hh K q, Inv (ds ++ [k]) hh K q → (∃ ds' rest' K q, (ds.length : Int) + 1 = (ds'.length : Int) ∧ L = ds' ++ rest' ∧ Inv ds' hh K q) ∧ ((n : Int) - ((ds.length : Int) + 1)).toNat < ((n : Int) - (ds.length : Int)).toNat :=
        fun hh K q hI => ⟨⟨ds ++ [k], rest, K, q, by simp, by rw [hL]; simp, hI⟩, by omega⟩
      refine ⟨⟨by omega, by omega⟩, k, by rw [addr_add]; simpa using hc, _, hb4.cell rfl, _, r4.blk.cell rfl, es, he, hk k, fun w hw => ?_, fun hw => ?_⟩
      · rw [hg] at hw
        rw [hw] at ha
        obtain ⟨x, hx, hxp, hxv, hxe⟩ := ha
        refine ⟨_, hxv, _, (by rw [addr_add]; exact (r4.ents x hx).held.cell rfl), (A.step ds k rest h4 K4 q4 x.1 hL hi hxe).mono ?_⟩
        rintro v h5 (⟨rfl, K5, q5, i5⟩ | ⟨rfl, hR⟩)
        · exact ⟨true, rfl, nofun, fun _ => fin _ _ _ i5⟩
        · exact ⟨false, rfl, fun _ => hR, nofun⟩
      · rw [hg] at hw
        rw [hw] at ha
        exact fin _ _ _ (A.over ds k rest h4 K4 q4 hL hi ha.2)
  · have hge : ¬ (ds.length : Int) < n := of_decide_eq_false e
    have : rest = [] := by
      have := congrArg List.length hL
      simp only [List.length_append] at this
      exact List.eq_nil_of_length_eq_zero (by omega)
    subst this
    rw [List.append_nil] at hL
    subst hL
    exact A.done _ _ _ hi

theorem cAll_ok (h : Heap) (c : Nat) : CallH Tryz.prog 43 ⟨[ptr c]⟩ h fun v h' => ∃ b1, v = .func (.func 74) #[] #[ptr b1] ∧ Blk h' b1 [ptr c] ∧ Keep h h' [] ∧ h.size ≤ b1 := by
  refine cAll_call c fun n1 h1 hn1 hh1 => ⟨n1, rfl, ?_, ?_, by omega⟩
  · rw [hh1, hn1]; exact Blk.new _ _ _
  · rw [hh1]; exact Keep.push _ _ _

end
end Go.Proofs.YtfapgccnhonoiaaGreat

/- The cache, part 15: Changed. -/
namespace Go.Proofs.YtfapgccnhonoiaaGreat

def Ck.chOf (K : Ck) (k : Int) : Bool := match efind k K.l with | some e => e.ch | none => false

/-- What Changed tells. -/
def Ck.changedR (K : Ck) (ds : List Int) : Prop := ∃ L : List Int, L.Perm (K.l.map (·.p)) ∧ L.Pairwise (fun x y => x < y) ∧ ds = L.filter K.chOf

section
variable {h : Heap} {c da : Nat} {K : Ck} {q : Cp}

def ChgI (h h3 : Heap) (n1 n2 n3 lo : Nat) (rec2 : LoopState → Option Code → Obj) (K : Ck) (q : Cp) (ds : List Int) (hh : Heap) (K' : Ck) (q' : Cp) : Prop :=
  K' = K ∧ q' = q ∧ hh[n2]? = some (rec2 .ready none) ∧ hh[n3]? = some (.deferred (some [])) ∧ (∃ p n cap, Blk hh n1 [.slice p n cap] ∧ Vec hh p n cap lo (ints (ds.filter K.chOf))) ∧ Keep h3 hh [n1, n2] ∧ Keep h hh []

theorem cChanged_ok (r : CacheR h c da K q) (hn : K.l.length ≤ 12) : CallH Tryz.prog 44 ⟨[ptr c]⟩ h fun v h' => ∃ p n cap ds, v = .slice p n cap ∧ Vec h' p n cap h.size (ints ds) ∧ K.changedR ds ∧ Keep h h' [] := by
  refine cChanged_call c fun n1 h0 hn1 hh0 => ⟨by kernel_rfl, (cAll_ok h0 c).mono ?_⟩
  rintro _ h1 ⟨b1, rfl, hb1, k1, hb1n⟩
  refine ⟨_, rfl, by kernel_rfl, fun n2 n3 rec2 h2 hn3 hn2 hrec hh2 hy => ?_⟩
  have s0 : h0.size = h.size + 1 := by rw [hh0]; simp
  have s1 := k1.size
  have s2 : h2.size = h1.size + 2 := by rw [hh2]; simp
  have k0 : Keep h h0 [] := by rw [hh0]; exact Keep.push _ _ _
  have k2 : Keep h1 h2 [] := by rw [hh2]; exact (Keep.push _ _ _).trans' (Keep.push _ _ _)
  have k02 : Keep h h2 [] := (k0.trans' k1).trans' k2
  have r2 := r.keep k02 (by simp)
  have hb2 := hb1.keep k2 (by simp)
  have hb1lt := hb1.lt
  have box : Blk h2 n1 [.slice none 0 0] := by
    have : Blk h0 n1 [.slice none 0 0] := by rw [hh0, hn1]; exact Blk.new _ _ _
    exact (this.keep k1 (by simp)).keep k2 (by simp)
  have l2 : h2[n2]? = some (rec2 .ready none) := by
    rw [hh2, hn2, show h1.size + 1 = (h1.push (Obj.deferred (some []))).size by simp]; exact get_push_eq _ _
  have d2 : h2[n3]? = some (.deferred (some [])) := by
    rw [hh2, hn3, get_push_lt _ _ (by simp)]; exact get_push_eq _ _
  have hrlt := r.lt
  refine cAll1_ok (c := c) (da := da) (K := K) (q := q) hb2 r2 hn fun h3 L hp hs k3 => ⟨ChgI h h3 n1 n2 n3 h3.size rec2 K q, [n1, n2], ?_, ?_, ?_, ?_, ?_, ?_⟩
  · intro b hb
    simp only [List.mem_cons, List.not_mem_nil, or_false] at hb
    omega
  · exact ⟨rfl, rfl, k3.get l2 (by simp), k3.get d2 (by simp), ⟨none, 0, 0, box.keep k3 (by simp), Vec.nil _ _⟩, Keep.refl _ _, k02.trans' k3⟩
  · rintro ds hh K q ⟨rfl, rfl, i1, i2, i3, i4, i5⟩
    refine ⟨i4, (hb2.keep k3 (by simp)).keep i4 (by simp; omega), (r2.keep k3 (by simp)).keep i4 fun b hb => ?_⟩
    have := hrlt b hb
    simp; omega
  · rintro ds k rest hh K q e hL ⟨rfl, rfl, i1, i2, ⟨p, n, cap, i3, iv⟩, i4, i5⟩ he
    have hch : K.chOf k = e.ch := by unfold Ck.chOf; rw [he]
    have sz4 := i4.size
    have sz3 := k3.size
    suffices key : ∀ Q : Value → Heap → Prop, (∀ hz, ChgI h h3 n1 n2 n3 h3.size rec2 K q (ds ++ [k]) hz K q → Q (.bool true) hz) → CallV Tryz.prog (yieldV n2) ⟨[i64 k, .bool e.ch]⟩ hh Q from key _ fun hz hz' => .inl ⟨rfl, K, q, hz'⟩
    intro Q hQ
    refine hy k e.ch hh Q i1 ⟨i1, fun h4 hh4 => ?_⟩
    have k4 : Keep hh h4 [n2] := by rw [hh4]; exact Keep.set _ _ _ _ (by simp)
    have s4 : h4.size = hh.size := by rw [hh4]; simp
    have l4 : h4[n2]? = some (rec2 .busy none) := by
      rw [hh4, Array.getElem?_setIfInBounds_self_of_lt (Array.getElem?_eq_some_iff.1 i1).1]
    have box4 := i3.keep k4 (by simp; omega)
    have v4 := iv.keep k4 fun b hb => by have := iv.lt b hb; simp; omega
    have d4 := k4.get i2 (by simp; omega)
    refine ⟨fun t => ⟨p, n, cap, box4.cell rfl, ⟨by omega, trivial⟩, ?_⟩, fun t => ⟨l4, fun h5 hh5 => hQ h5 ⟨rfl, rfl, ?_, ?_, ⟨p, n, cap, ?_, ?_⟩, ?_, ?_⟩⟩⟩
    · have hflt : (ds ++ [k]).filter K.chOf = ds.filter K.chOf ++ [k] := by simp [List.filter_append, hch, t]
      have hnl : n ≤ 12 := by
        have h1 := iv.1
        rw [ints_len] at h1
        have h2 := hp.length_eq
        have h3 := congrArg List.length hL
        have h4 := List.length_filter_le K.chOf ds
        simp only [List.length_map, List.length_append] at h2 h3
        omega
      refine fun n7 h5 hn7 hh5 => Vec.append v4 (by omega) (i64 k) (.int .i64 (Int.ofNat 0)) rfl 3 8 (by omega) (by omega)
        (fun hx px cx => true = true ∧ okAt hx ⟨n1, 0, none⟩ ∧ ∀ hy, hy = upd hx ⟨n1, 0, none⟩ (.slice px (n + 1) cx) → hy[n2]? = some (rec2 .busy none) ∧ ∀ hz, hz = hy.setIfInBounds n2 (rec2 .ready none) → Q (.bool true) hz) ?_ n7 h5 hn7 hh5
      intro hx px cx vx kx fx
      have nin : ∀ b, b < h2.size → b ∉ blks p := fun b hb hm => by have := iv.lt b hm; omega
      have boxx := box4.keep kx (nin _ (by omega))
      refine ⟨rfl, boxx.ok (by simp), fun hy hhy => ?_⟩
      have ky : Keep hx hy [n1] := by rw [hhy]; exact Keep.upd _ _ _ _ _ (by simp)
      have boxy := boxx.upd 0 (.slice px (n + 1) cx)
      rw [← hhy] at boxy
      have ly := ky.get (kx.get l4 (nin _ (by omega))) (by simp; omega)
      refine ⟨ly, fun hz hhz => hQ hz ⟨rfl, rfl, ?_, ?_, ⟨px, n + 1, cx, ?_, ?_⟩, ?_, ?_⟩⟩
      all_goals have kz : Keep hy hz [n2] := by rw [hhz]; exact Keep.set _ _ _ _ (by simp)
      all_goals have szx := kx.size
      all_goals have szy := ky.size
      all_goals have szz := kz.size
      · rw [hhz, Array.getElem?_setIfInBounds_self_of_lt (Array.getElem?_eq_some_iff.1 ly).1]
      · exact kz.get (ky.get (kx.get d4 (nin _ (by omega))) (by simp; omega)) (by simp; omega)
      · exact boxy.keep kz (by simp; omega)
      · rw [hflt, ← ints_snoc]
        refine (vx.keep ky fun b hb => ?_).keep kz fun b hb => ?_
        · have := vx.lt b hb; simp; omega
        · have := vx.lt b hb; simp; omega
      · refine (((i4.trans k4 ?_).trans (kx.mono (F' := blks p) (fun b hb => .inl hb)) fun b hb => ?_).trans ky ?_).trans kz ?_
        · simp
        · have := iv.lt b hb; right; omega
        · simp
        · simp
      · refine (((i5.trans k4 ?_).trans kx fun b hb => ?_).trans ky ?_).trans kz ?_
        · simp; omega
        · have := iv.lt b hb; right; omega
        · simp; omega
        · simp; omega
    all_goals have k5 : Keep h4 h5 [n2] := by rw [hh5]; exact Keep.set _ _ _ _ (by simp)
    all_goals have hflt : (ds ++ [k]).filter K.chOf = ds.filter K.chOf := by simp [List.filter_append, hch, t]
    · rw [hh5, Array.getElem?_setIfInBounds_self_of_lt (Array.getElem?_eq_some_iff.1 l4).1]
    · exact k5.get d4 (by simp; omega)
    · exact box4.keep k5 (by simp; omega)
    · rw [hflt]
      exact v4.keep k5 fun b hb => by have := iv.lt b hb; simp; omega
    · exact (i4.trans k4 (by simp)).trans k5 (by simp)
    · exact (i5.trans k4 (by simp; omega)).trans k5 (by simp; omega)
  · rintro ds k rest hh K q hL ⟨rfl, rfl, i1, i2, ⟨p, n, cap, i3, iv⟩, i4, i5⟩ he
    have hch : K.chOf k = false := by unfold Ck.chOf; rw [he]
    refine ⟨rfl, rfl, i1, i2, ⟨p, n, cap, i3, ?_⟩, i4, i5⟩
    have : (ds ++ [k]).filter K.chOf = ds.filter K.chOf := by simp [List.filter_append, hch]
    rw [this]; exact iv
  · rintro hh K q ⟨rfl, rfl, i1, i2, ⟨p, n, cap, i3, iv⟩, i4, i5⟩
    have sz3 := k3.size
    refine ⟨i1, fun h5 hh5 => ⟨p, n, cap, ?_, ?_, fun h6 hh6 => ⟨p, n, cap, L.filter K.chOf, rfl, ?_, ⟨L, hp, hs, rfl⟩, ?_⟩⟩⟩
    all_goals have k5 : Keep hh h5 [n2] := by rw [hh5]; exact Keep.set _ _ _ _ (by simp)
    all_goals have szz := k5.size
    · exact (i3.keep k5 (by simp; omega)).cell rfl
    · exact k5.get i2 (by simp; omega)
    all_goals have k6 : Keep h5 h6 [n3] := by rw [hh6]; exact Keep.set _ _ _ _ (by simp)
    · refine ((iv.keep k5 fun b hb => ?_).keep k6 fun b hb => ?_).mono (by omega)
      · have := iv.lt b hb; simp; omega
      · have := iv.lt b hb; simp; omega
    · exact (i5.trans k5 (by simp; omega)).trans k6 (by simp; omega)

end
end Go.Proofs.YtfapgccnhonoiaaGreat

/- The cache, part 16: Flush. -/
namespace Go.Proofs.YtfapgccnhonoiaaGreat

/-- What Flush does, page by page. -/
def flushL : List Int → Dk → Ck → Dk × Ck × Int
  | [], D, K => (D, K, 0)
  | k :: r, D, K => match efind k K.l with
    | none => flushL r D K
    | some e => if e.ch = true then
        if D.at k 256 ≠ 0 then (D, K, D.at k 256)
        else if (D.write k e.b).2 ≠ 0 then ((D.write k e.b).1, K, (D.write k e.b).2)
        else flushL r (D.write k e.b).1 { K with l := emod k (fun e => { e with ch := false }) K.l }
      else flushL r D K

theorem Dk.write_len (D : Dk) (k : Int) (b : List Value) : (D.write k b).1.ws.length = D.ws.length + 1 := by
  show (D.lay k b).spend.1.ws.length = _
  unfold Dk.spend
  split <;> simp [Dk.lay]

section
variable {h : Heap} {c da : Nat} {D : Dk} {K : Ck} {p : Pl} {q : Cp}

structure FlI (h h3 : Heap) (c da n1 n2 n3 n4 b1 : Nat) (rec3 : LoopState → Option Code → Obj) (p : Pl) (q : Cp) (D : Dk) (K : Ck) (L ds : List Int) (hh : Heap) (D' : Dk) (K' : Ck) (p' : Pl) (q' : Cp) : Prop where
  cd : CD hh c da D' K' p' q'
  loop : hh[n3]? = some (rec3 .ready none)
  mark : hh[n4]? = some (.deferred (some []))
  box : Blk hh n1 [ptr c]
  out : Blk hh n2 [i64 0]
  all : Blk hh b1 [ptr c]
  keep3 : Keep h3 hh (n3 :: cdFoot c da p q)
  keep : Keep h hh (cdFoot c da p q)
  sub : ∀ b ∈ cdFoot c da p' q', b ∈ cdFoot c da p q ∨ h3.size ≤ b
  rest : ∀ rest, L = ds ++ rest → flushL L D K = flushL rest D' K'
  few : D'.ws.length ≤ D.ws.length + ds.length

theorem cFlush_ok (r : CD h c da D K p q) (hn : K.l.length ≤ 12) (hb : D.ws.length + 12 < 1000000) : CallH Tryz.prog 30 ⟨[ptr c]⟩ h fun v h' =>
    ∃ L D' K' n, v = i64 n ∧ L.Perm (K.l.map (·.p)) ∧ L.Pairwise (fun x y => x < y) ∧ flushL L D K = (D', K', n) ∧ CDPost h h' c da p q D' K' := by
  refine cFlush_call c fun n1 ha hn1 hha n2 hb2 hn2 hhb => ?_
  have ka : Keep h ha [] := by rw [hha]; exact Keep.push _ _ _
  have kb : Keep ha hb2 [] := by rw [hhb]; exact Keep.push _ _ _
  have sa : ha.size = h.size + 1 := by rw [hha]; simp
  have sb : hb2.size = h.size + 2 := by rw [hhb]; simp [sa]
  have box0 : Blk hb2 n1 [ptr c] := by
    have : Blk ha n1 [ptr c] := by rw [hha, hn1]; exact Blk.new _ _ _
    exact this.keep kb (by simp)
  have out0 : Blk hb2 n2 [i64 0] := by rw [hhb, hn2]; exact Blk.new _ _ _
  have r0 := r.keep (ka.trans' kb) (by simp)
  have hrlt := r.lt
  refine ⟨_, box0.cell rfl, by kernel_rfl, (cNone_ok r0.ck).mono ?_⟩
  rintro _ hb2 ⟨rfl, rfl⟩
  refine ⟨false, rfl, nofun, fun _ => ⟨_, box0.cell rfl, by kernel_rfl, (cAll_ok hb2 c).mono ?_⟩⟩
  rintro _ h3 ⟨b1, rfl, hb1, k3, hb1n⟩
  refine ⟨_, rfl, by kernel_rfl, fun n3 n4 rec3 h4 hn4 hn3 hrec hh4 hy => ?_⟩
  have s3 := k3.size
  have s4 : h4.size = h3.size + 2 := by rw [hh4]; simp
  have k4 : Keep h3 h4 [] := by rw [hh4]; exact (Keep.push _ _ _).trans' (Keep.push _ _ _)
  have kh4 : Keep h h4 [] := ((ka.trans' kb).trans' k3).trans' k4
  have r4 := r.keep kh4 (by simp)
  have hb1lt := hb1.lt
  have l4 : h4[n3]? = some (rec3 .ready none) := by
    rw [hh4, hn3, show h3.size + 1 = (h3.push (Obj.deferred (some []))).size by simp]; exact get_push_eq _ _
  have d4 : h4[n4]? = some (.deferred (some [])) := by
    rw [hh4, hn4, get_push_lt _ _ (by simp)]; exact get_push_eq _ _
  have box4 := (box0.keep k3 (by simp)).keep k4 (by simp)
  have out4 := (out0.keep k3 (by simp)).keep k4 (by simp)
  have all4 := hb1.keep k4 (by simp)
  have nf : ∀ b, h.size ≤ b → b ∉ cdFoot c da p q := fun b hb hx => by have := hrlt b hx; omega
  refine cAll1_ok (c := c) (da := da) (K := K) (q := q) all4 r4.ck hn fun h5 L hp hs k5 => ⟨fun ds hh K' q' => ∃ D' p', FlI h h5 c da n1 n2 n3 n4 b1 rec3 p q D K L ds hh D' K' p' q', n3 :: cdFoot c da p q, ?_, ?_, ?_, ?_, ?_, ?_⟩
  · intro b hb
    rcases List.mem_cons.1 hb with rfl | hb
    · omega
    · have := hrlt b hb; omega
  · exact ⟨D, p, r4.keep k5 (by simp), k5.get l4 (by simp), k5.get d4 (by simp), box4.keep k5 (by simp), out4.keep k5 (by simp), all4.keep k5 (by simp), Keep.refl _ _, (kh4.trans' k5).mono (by simp), fun b hb => .inl hb, fun rest hr => by rw [hr]; rfl, by simp⟩
  · rintro ds hh K' q' ⟨D', p', I⟩
    exact ⟨I.keep3, I.all, I.cd.ck⟩
  · rintro ds k rest hh K' q' e hL ⟨D', p', I⟩ he
    have s5 := k5.size
    have sh := I.keep3.size
    have hL2 : ∀ rest', L = (ds ++ [k]) ++ rest' → rest' = rest := fun rest' h => by
      rw [hL] at h
      simpa using h.symm
    have hfl := I.rest _ hL
    have hlen : ds.length + 1 ≤ 12 := by
      have h1 := hp.length_eq
      have h2 := congrArg List.length hL
      simp only [List.length_map, List.length_append, List.length_cons] at h1 h2
      omega
    refine hy k e.ch hh _ I.loop ⟨I.loop, fun h6 hh6 => ?_⟩
    have k6 : Keep hh h6 [n3] := by rw [hh6]; exact Keep.set _ _ _ _ (by simp)
    have s6 : h6.size = hh.size := by rw [hh6]; simp
    have l6 : h6[n3]? = some (rec3 .busy none) := by
      rw [hh6, Array.getElem?_setIfInBounds_self_of_lt (Array.getElem?_eq_some_iff.1 I.loop).1]
    have nf' : ∀ b, h.size ≤ b → b < h5.size → b ∉ cdFoot c da p' q' := fun b h1 h2 hx => (I.sub b hx).elim (nf b h1) fun h => by omega
    have r6 : CD h6 c da D' K' p' q' := I.cd.keep k6 fun b hb => by
      simp only [List.mem_singleton]
      rintro rfl
      exact nf' b (by omega) (by omega) hb
    have m6 := k6.get I.mark (by simp; omega)
    have box6 := I.box.keep k6 (by simp; omega)
    have out6 := I.out.keep k6 (by simp; omega)
    have all6 := I.all.keep k6 (by simp; omega)
    refine ⟨fun t => ⟨l6, fun h7 hh7 => .inl ⟨rfl, K', q', D', p', ?_⟩⟩, fun t => ?_⟩
    · have hch : e.ch = false := by simpa using t
      have k7 : Keep h6 h7 [n3] := by rw [hh7]; exact Keep.set _ _ _ _ (by simp)
      refine ⟨r6.keep k7 fun b hb => ?_, ?_, k7.get m6 (by simp; omega), box6.keep k7 (by simp; omega), out6.keep k7 (by simp; omega), all6.keep k7 (by simp; omega), (I.keep3.trans k6 (by simp)).trans k7 (by simp), (I.keep.trans k6 (by simp; omega)).trans k7 (by simp; omega), I.sub, fun rest' hr => ?_, ?_⟩
      · simp only [List.mem_singleton]
        rintro rfl
        exact nf' b (by omega) (by omega) hb
      · rw [hh7, Array.getElem?_setIfInBounds_self_of_lt (Array.getElem?_eq_some_iff.1 l6).1]
      · rw [hL2 rest' hr, hfl]
        simp only [flushL, he, hch, Bool.false_eq_true, if_false]
      · have := I.few; simp only [List.length_append, List.length_cons, List.length_nil]; omega
    · have hch : e.ch = true := by simpa using t
      obtain ⟨es, hes, _, hk, hg⟩ := r6.ck.map.is
      have hal := al_get k q'.L
      rw [← r6.ck.l] at hal
      refine ⟨_, box6.cell rfl, _, r6.ck.blk.cell rfl, _, box6.cell rfl, _, r6.ck.blk.cell rfl, es, hes, hk k, fun w hw => ?_, fun hw => ?_⟩
      rotate_left
      · rw [hg] at hw
        rw [hw, he] at hal
        exact nomatch hal.2
      rw [hg] at hw
      rw [hw] at hal
      obtain ⟨x, hx, hxp, hxv, hxe⟩ := hal
      have hxe' : x.1 = e := by rw [he] at hxe; exact (Option.some.inj hxe).symm
      refine ⟨_, hxv, _, _, _, (r6.ck.ents x hx).held.cell rfl, by kernel_rfl, (dWrite_ok r6.dk k _ 256 _ x.1.b (r6.slAt hx) (by have := I.few; omega)).mono ?_⟩
      rintro v8 h8 ⟨hw1, hw2⟩
      -- what is left when an error ends it
      have stop : ∀ (D8 : Dk) (n : Int), flushL (k :: rest) D' K' = (D8, K', n) → CDPost h6 h8 c da p' q' D8 K' → (∀ b, h.size ≤ b → b < h5.size → h8[b]? = h6[b]?) →
          okAt h8 ⟨n2, 0, none⟩ ∧ ∀ h9, h9 = upd h8 ⟨n2, 0, none⟩ (i64 n) → h9[n3]? = some (rec3 .busy none) ∧ ∀ h10, h10 = h9.setIfInBounds n3 (rec3 .done (some .ret)) → h10[n3]? = some (rec3 .done (some .ret)) ∧
            ∀ h14, h14 = h10.setIfInBounds n3 (rec3 .exhausted (some .ret)) → h14[n4]? = some (.deferred (some [])) ∧ ∀ h15, h15 = h14.setIfInBounds n4 (.deferred none) → cellAt h15 ⟨n2, 0, none⟩ = some (i64 n) ∧ CDPost h h15 c da p q D8 K' := by
        intro D8 n hf8 ⟨p8, q8, r8, k8, sub8⟩ same8
        have s8 := k8.size
        have sub8' : ∀ b ∈ cdFoot c da p8 q8, b ∈ cdFoot c da p q ∨ h5.size ≤ b := fun b hb => (sub8 b hb).elim (I.sub b) fun h => .inr (by omega)
        have nf8 : ∀ b, h.size ≤ b → b < h5.size → b ∉ cdFoot c da p8 q8 := fun b h1 h2 hx => (sub8' b hx).elim (nf b h1) fun h => by omega
        have out8 : Blk h8 n2 [i64 0] := by
          obtain ⟨ty, ho⟩ := out6
          exact ⟨ty, by rw [same8 n2 (by omega) (by omega), ho]⟩
        refine ⟨out8.ok (by simp), fun h9 hh9 => ?_⟩
        have k9 : Keep h8 h9 [n2] := by rw [hh9]; exact Keep.upd _ _ _ _ _ (by simp)
        have out9 := out8.upd 0 (i64 n)
        rw [← hh9] at out9
        have l8 : h8[n3]? = some (rec3 .busy none) := by rw [same8 n3 (by omega) (by omega), l6]
        have l9 := k9.get l8 (by simp; omega)
        refine ⟨l9, fun h10 hh10 => ?_⟩
        have k10 : Keep h9 h10 [n3] := by rw [hh10]; exact Keep.set _ _ _ _ (by simp)
        have l10 : h10[n3]? = some (rec3 .done (some .ret)) := by rw [hh10, Array.getElem?_setIfInBounds_self_of_lt (Array.getElem?_eq_some_iff.1 l9).1]
        refine ⟨l10, fun h14 hh14 => ?_⟩
        have k14 : Keep h10 h14 [n3] := by rw [hh14]; exact Keep.set _ _ _ _ (by simp)
        have m8 : h8[n4]? = some (.deferred (some [])) := by rw [same8 n4 (by omega) (by omega), m6]
        have m14 := k14.get (k10.get (k9.get m8 (by simp; omega)) (by simp; omega)) (by simp; omega)
        refine ⟨m14, fun h15 hh15 => ?_⟩
        have k15 : Keep h14 h15 [n4] := by rw [hh15]; exact Keep.set _ _ _ _ (by simp)
        have out15 := ((out9.keep k10 (by simp; omega)).keep k14 (by simp; omega)).keep k15 (by simp; omega)
        refine ⟨out15.cell rfl, p8, q8, ?_, ?_, fun b hb => (sub8' b hb).imp id fun h => by omega⟩
        · have one : ∀ {ha hb : Heap} {b : Nat}, h.size ≤ b → b < h5.size → Keep ha hb [b] → CD ha c da D8 K' p8 q8 → CD hb c da D8 K' p8 q8 := fun h1 h2 kk rr => rr.keep kk fun b' hb' => by
            simp only [List.mem_singleton]
            rintro rfl
            exact nf8 b' h1 h2 hb'
          exact one (by omega) (by omega) k15 (one (by omega) (by omega) k14 (one (by omega) (by omega) k10 (one (by omega) (by omega) k9 r8)))
        · refine (((((I.keep.trans k6 (by simp; omega)).trans k8 fun b hb => ?_).trans k9 (by simp; omega)).trans k10 (by simp; omega)).trans k14 (by simp; omega)).trans k15 (by simp; omega)
          exact (I.sub b hb).imp id fun h => by omega
      by_cases hat : D'.at k 256 = 0
      · obtain ⟨rfl, post⟩ := hw2 hat
        have cp := r6.disk post
        have same8 : ∀ b, h.size ≤ b → b < h5.size → h8[b]? = h6[b]? := fun b h1 h2 => by
          obtain ⟨_, _, _, k8, _⟩ := cp
          exact k8.same b (by omega) (nf' b h1 h2)
        refine ⟨_, rfl, fun t2 => ?_, fun t2 => ?_⟩
        · have hne : (D'.write k x.1.b).2 ≠ 0 := by simpa using t2
          obtain ⟨ok8, fin⟩ := stop (D'.write k x.1.b).1 (D'.write k x.1.b).2 (by simp only [flushL, he, hch, if_true]; rw [if_neg (by simpa using hat), ← hxe', if_pos hne]) cp same8
          refine ⟨rfl, ok8, fun h9 hh9 => ?_⟩
          obtain ⟨l9, fin⟩ := fin h9 hh9
          refine ⟨l9, fun h10 hh10 => .inr ⟨rfl, .inl ?_⟩⟩
          obtain ⟨l10, fin⟩ := fin h10 hh10
          refine ⟨l10, fun h14 hh14 => ?_⟩
          obtain ⟨m14, fin⟩ := fin h14 hh14
          refine ⟨m14, fun h15 hh15 => ⟨nofun, _, (fin h15 hh15).1, L, _, _, _, rfl, hp, hs, ?_, (fin h15 hh15).2⟩⟩
          rw [hfl]
          simp only [flushL, he, hch, if_true]; rw [if_neg (by simpa using hat), ← hxe', if_pos hne]
        · have hz : (D'.write k x.1.b).2 = 0 := by simpa using t2
          obtain ⟨p8, q8, r8, k8, sub8⟩ := cp
          have s8 := k8.size
          have sub8' : ∀ b ∈ cdFoot c da p8 q8, b ∈ cdFoot c da p q ∨ h5.size ≤ b := fun b hb => (sub8 b hb).elim (I.sub b) fun h => .inr (by omega)
          have nf8 : ∀ b, h.size ≤ b → b < h5.size → b ∉ cdFoot c da p8 q8 := fun b h1 h2 hx => (sub8' b hx).elim (nf b h1) fun h => by omega
          have sameB : ∀ {b : Nat} {l : List Value}, h.size ≤ b → b < h5.size → Blk h6 b l → Blk h8 b l := fun h1 h2 hbk => by
            obtain ⟨ty, ho⟩ := hbk
            exact ⟨ty, by rw [same8 _ h1 h2, ho]⟩
          have box8 := sameB (by omega) (by omega) box6
          obtain ⟨es8, hes8, _, hk8, hg8⟩ := r8.ck.map.is
          have hal8 := al_get k q8.L
          rw [← r8.ck.l] at hal8
          refine ⟨_, box8.cell rfl, _, r8.ck.blk.cell rfl, es8, hes8, hk8 k, fun w hw => ?_, fun hw => ?_⟩
          rotate_left
          · rw [hg8] at hw
            rw [hw, he] at hal8
            exact nomatch hal8.2
          rw [hg8] at hw
          rw [hw] at hal8
          obtain ⟨y, hy', hyp, hyv, hye⟩ := hal8
          have hh := (r8.ck.ents y hy').held
          refine ⟨_, hyv, rfl, (by rw [addr_add]; exact hh.ok (by simp)), fun h11 hh11 => ?_⟩
          rw [addr_add] at hh11
          have k11 : Keep h8 h11 [y.2.hb] := by rw [hh11]; exact Keep.upd _ _ _ _ _ (by simp)
          have b11 := hh.upd 1 (.bool false)
          rw [← hh11] at b11
          have r11 := r8.ck.entry hy' (fun e => { e with ch := false }) (fun _ => ⟨rfl, rfl⟩) k11 b11
          rw [hyp] at r11
          have hyf : y.2.hb ∈ q8.foot c := Cp.mem_foot hy' (by simp [entB])
          have foot11 : ({ q8 with L := lmod k (fun e => { e with ch := false }) id q8.L } : Cp).foot c = q8.foot c := by simp only [Cp.foot]; rw [lmod_foot]
          have cd11 : CD h11 c da (D'.write k x.1.b).1 { K' with l := emod k (fun e => { e with ch := false }) K'.l } p8 { q8 with L := lmod k (fun e => { e with ch := false }) id q8.L } := by
            refine ⟨r8.dk.keep k11 fun b hb => ?_, r11, ?_⟩
            · simp only [List.mem_singleton]
              rintro rfl
              exact r8.apart _ hyf hb
            · rw [foot11]; exact r8.apart
          have hyn : ∀ b, h.size ≤ b → b < h5.size → b ≠ y.2.hb := fun b h1 h2 e => nf8 b h1 h2 (by rw [e]; exact List.mem_append_left _ hyf)
          have l8 : h8[n3]? = some (rec3 .busy none) := by rw [same8 n3 (by omega) (by omega), l6]
          have l11 := k11.get l8 (by simpa using hyn n3 (by omega) (by omega))
          refine ⟨l11, fun h12 hh12 => .inl ⟨rfl, { K' with l := emod k (fun e => { e with ch := false }) K'.l }, { q8 with L := lmod k (fun e => { e with ch := false }) id q8.L }, (D'.write k x.1.b).1, p8, ?_⟩⟩
          have k12 : Keep h11 h12 [n3] := by rw [hh12]; exact Keep.set _ _ _ _ (by simp)
          have goB : ∀ {b : Nat} {l : List Value}, h.size ≤ b → b < h5.size → b ≠ n3 → Blk h6 b l → Blk h12 b l := fun h1 h2 h3 hbk => ((sameB h1 h2 hbk).keep k11 (by simpa using hyn _ h1 h2)).keep k12 (by simpa using h3)
          have m8 : h8[n4]? = some (.deferred (some [])) := by rw [same8 n4 (by omega) (by omega), m6]
          have hysub : y.2.hb ∈ cdFoot c da p q ∨ h5.size ≤ y.2.hb := sub8' _ (List.mem_append_left _ hyf)
          refine ⟨cd11.keep k12 fun b hb => ?_, ?_, k12.get (k11.get m8 (by simpa using hyn n4 (by omega) (by omega))) (by simp; omega), goB (by omega) (by omega) (by omega) box6, goB (by omega) (by omega) (by omega) out6, goB (by omega) (by omega) (by omega) all6, ?_, ?_, fun b hb => ?_, fun rest' hr => ?_, ?_⟩
          · simp only [cdFoot, foot11] at hb
            simp only [List.mem_singleton]
            rintro rfl
            exact nf8 b (by omega) (by omega) hb
          · rw [hh12, Array.getElem?_setIfInBounds_self_of_lt (Array.getElem?_eq_some_iff.1 l11).1]
          · refine (((I.keep3.trans k6 (by simp)).trans k8 fun b hb => ?_).trans k11 fun b hb => ?_).trans k12 (by simp)
            · exact (I.sub b hb).imp (List.mem_cons_of_mem _) id
            · simp only [List.mem_singleton] at hb
              rw [hb]
              exact hysub.imp (List.mem_cons_of_mem _) id
          · refine (((I.keep.trans k6 (by simp; omega)).trans k8 fun b hb => ?_).trans k11 fun b hb => ?_).trans k12 (by simp; omega)
            · exact (I.sub b hb).imp id fun h => by omega
            · simp only [List.mem_singleton] at hb
              rw [hb]
              exact hysub.imp id fun h => by omega
          · simp only [cdFoot, foot11] at hb
            exact sub8' b hb
          · rw [hL2 rest' hr, hfl]
            simp only [flushL, he, hch, if_true]
            rw [if_neg (by simpa using hat), ← hxe', if_neg (by simpa using hz)]
          · have h1 := I.few
            have h2 := Dk.write_len D' k x.1.b
            simp only [List.length_append, List.length_cons, List.length_nil]
            omega
      · obtain ⟨rfl, rfl⟩ := hw1 hat
        refine ⟨_, rfl, fun t2 => ?_, fun t2 => ?_⟩
        · obtain ⟨ok8, fin⟩ := stop D' (D'.at k 256) (by simp only [flushL, he, hch, if_true]; rw [if_pos hat]) (CDPost.same r6) (fun _ _ _ => rfl)
          refine ⟨rfl, ok8, fun h9 hh9 => ?_⟩
          obtain ⟨l9, fin⟩ := fin h9 hh9
          refine ⟨l9, fun h10 hh10 => .inr ⟨rfl, .inl ?_⟩⟩
          obtain ⟨l10, fin⟩ := fin h10 hh10
          refine ⟨l10, fun h14 hh14 => ?_⟩
          obtain ⟨m14, fin⟩ := fin h14 hh14
          refine ⟨m14, fun h15 hh15 => ⟨nofun, _, (fin h15 hh15).1, L, _, _, _, rfl, hp, hs, ?_, (fin h15 hh15).2⟩⟩
          rw [hfl]
          simp only [flushL, he, hch, if_true]; rw [if_pos hat]
        · have : D'.at k 256 = 0 := by simpa using t2
          exact absurd this hat
  · rintro ds k rest hh K' q' hL ⟨D', p', I⟩ he
    refine ⟨D', p', { I with rest := fun rest' hr => ?_, few := ?_ }⟩
    · have : rest' = rest := by
        rw [hL] at hr
        simpa using hr.symm
      rw [this, I.rest _ hL]
      simp only [flushL, he]
    · have := I.few; simp only [List.length_append, List.length_cons, List.length_nil]; omega
  · rintro hh K' q' ⟨D', p', I⟩
    have s5 := k5.size
    have nf' : ∀ b, h.size ≤ b → b < h5.size → b ∉ cdFoot c da p' q' := fun b h1 h2 hx => (I.sub b hx).elim (nf b h1) fun h => by omega
    refine .inr ⟨I.loop, fun h16 hh16 => ?_⟩
    have k16 : Keep hh h16 [n3] := by rw [hh16]; exact Keep.set _ _ _ _ (by simp)
    have out16 := I.out.keep k16 (by simp; omega)
    refine ⟨rfl, out16.ok (by simp), fun h17 hh17 => ?_⟩
    have k17 : Keep h16 h17 [n2] := by rw [hh17]; exact Keep.upd _ _ _ _ _ (by simp)
    have out17 := out16.upd 0 (i64 0)
    rw [← hh17] at out17
    refine ⟨k17.get (k16.get I.mark (by simp; omega)) (by simp; omega), fun h18 hh18 => ?_⟩
    have k18 : Keep h17 h18 [n4] := by rw [hh18]; exact Keep.set _ _ _ _ (by simp)
    have out18 := out17.keep k18 (by simp; omega)
    refine ⟨nofun, _, out18.cell rfl, L, D', K', 0, rfl, hp, hs, by rw [I.rest [] (by simp)]; rfl, p', q', ?_, ?_, fun b hb => (I.sub b hb).imp id fun h => by omega⟩
    · have one : ∀ {ha hb : Heap} {b : Nat}, h.size ≤ b → b < h5.size → Keep ha hb [b] → CD ha c da D' K' p' q' → CD hb c da D' K' p' q' := fun h1 h2 kk rr => rr.keep kk fun b' hb' => by
        simp only [List.mem_singleton]
        rintro rfl
        exact nf' b' h1 h2 hb'
      exact one (by omega) (by omega) k18 (one (by omega) (by omega) k17 (one (by omega) (by omega) k16 I.cd))
    · exact ((I.keep.trans k16 (by simp; omega)).trans k17 (by simp; omega)).trans k18 (by simp; omega)

end
end Go.Proofs.YtfapgccnhonoiaaGreat

/- What Flush does to a cache while the power is there for good. -/
namespace Go.Proofs.YtfapgccnhonoiaaGreat

section
variable {D D' : Dk} {K K' : Ck} {n t : Nat}

/-- One changed page is written. -/
theorem Good.wrote (g : Good D K n t) (ht : t < 900000) {k : Int} {e : En} (he : efind k K.l = some e) :
    (D.write k e.b).2 = 0 ∧ Good (D.write k e.b).1 { K with l := emod k (fun e => { e with ch := false }) K.l } n (t + 1) ∧ Alike D K (D.write k e.b).1 { K with l := emod k (fun e => { e with ch := false }) K.l } := by
  obtain ⟨hm, hk⟩ := efind_mem he
  have hkey := g.keys e hm
  have hl := g.pages
  have hfew := g.few
  obtain ⟨w1, w2, w3, w4, w5, w6, w7⟩ := Dk.write_calm g.ok g.calm (i := k) (pg := e.b) (by omega) (by omega) (g.good e hm).1 (by omega)
  have mem : ∀ x ∈ emod k (fun e => { e with ch := false }) K.l, ∃ y ∈ K.l, (y.p = k ∧ x = { y with ch := false }) ∨ (y.p ≠ k ∧ x = y) := fun x hx => emod_mem hx
  have huniq : ∀ x ∈ K.l, x.p = k → x = e := fun x hx hxk => by
    have := g.find hx
    rw [hxk, he] at this
    exact (Option.some.inj this).symm
  have hf : ∀ j, efind j (emod k (fun e => { e with ch := false }) K.l) = if j = k then (efind j K.l).map (fun e => { e with ch := false }) else efind j K.l := fun j => by apply efind_emod; intro _; rfl
  refine ⟨w1, ⟨w2, by rw [w3]; exact hl, by rw [w5]; exact g.on, w6, by rw [w4]; omega, ?_, g.two, fun x hx => ?_, ?_, fun x hx => ?_, fun x hx hc => ?_, ⟨g.clock.1, ?_⟩, fun x hx => ?_, ?_⟩, ⟨fun j => ?_, fun j => ?_, rfl⟩⟩
  · simpa [emod] using g.room
  · obtain ⟨y, hy, ⟨_, rfl⟩ | ⟨_, rfl⟩⟩ := mem x hx
    · exact g.keys y hy
    · exact g.keys x hy
  · simp only
    rw [emod_keys]
    · exact g.nodup
    · exact fun _ => rfl
  · obtain ⟨y, hy, ⟨_, rfl⟩ | ⟨_, rfl⟩⟩ := mem x hx
    · exact g.good y hy
    · exact g.good x hy
  · rw [w7]
    obtain ⟨y, hy, ⟨hyk, rfl⟩ | ⟨hyk, rfl⟩⟩ := mem x hx
    · rw [if_pos hyk, huniq y hy hyk]
    · rw [if_neg hyk]
      exact g.clean x hy hc
  · have := g.clock.2; simp only; omega
  · obtain ⟨y, hy, ⟨_, rfl⟩ | ⟨_, rfl⟩⟩ := mem x hx
    · exact g.used y hy
    · exact g.used x hy
  · simp only
    have : (emod k (fun e => { e with ch := false }) K.l).map (·.used) = K.l.map (·.used) := by
      unfold emod
      rw [List.map_map]
      apply List.map_congr_left
      intro x _
      simp only [Function.comp]
      split <;> rfl
    rw [this]; exact g.apart
  · unfold viewOf
    simp only
    rw [hf, w7]
    by_cases hj : j = k
    · subst hj; simp [he]
    · simp [hj]
  · unfold Ck.pinOf
    simp only
    rw [hf]
    by_cases hj : j = k
    · subst hj; simp [he]
    · simp [hj]

theorem Good.flush : ∀ (L : List Int) {D : Dk} {K : Ck} {t : Nat} {m : Int}, Good D K n t → t + L.length < 900000 → flushL L D K = (D', K', m) →
    m = 0 ∧ Good D' K' n (t + L.length) ∧ Alike D K D' K' ∧ (∀ e ∈ K'.l, e.ch = true → e.p ∉ L) ∧ K'.l.map (·.p) = K.l.map (·.p) ∧ (∀ j, K.chOf j = false → K'.chOf j = false)
  | [], D, K, t, m, g, _, h => by
    simp only [flushL, Prod.mk.injEq] at h
    obtain ⟨rfl, rfl, rfl⟩ := h
    exact ⟨rfl, g, Alike.refl _ _, by simp, rfl, fun _ h => h⟩
  | k :: r, D, K, t, m, g, ht, h => by
    simp only [List.length_cons] at ht
    simp only [flushL] at h
    cases he : efind k K.l with
    | none =>
      rw [he] at h
      obtain ⟨h1, h2, h3, h4, h5, h6⟩ := Good.flush r g (by omega) h
      refine ⟨h1, h2.mono (by simp only [List.length_cons]; omega), h3, fun e hm hc hk => ?_, h5, h6⟩
      rcases List.mem_cons.1 hk with hk | hk
      · have hn := (efind_none k K.l).1 he
        have : e.p ∈ K'.l.map (·.p) := List.mem_map_of_mem hm
        rw [h5] at this
        obtain ⟨y, hy, hyk⟩ := List.mem_map.1 this
        exact hn y hy (by rw [hyk, hk])
      · exact h4 e hm hc hk
    | some e =>
      rw [he] at h
      simp only at h
      obtain ⟨hm, hk⟩ := efind_mem he
      have hkey := g.keys e hm
      have hat : D.at k 256 = 0 := g.at_zero (by omega) (by omega)
      split at h
      · rename_i hc
        rw [if_neg (by simpa using hat)] at h
        obtain ⟨w1, w2, w3⟩ := g.wrote (by omega) he
        rw [if_neg (by simpa using w1)] at h
        obtain ⟨h1, h2, h3, h4, h5, h6⟩ := Good.flush r w2 (by omega) h
        have hf : ∀ j, efind j (emod k (fun e => { e with ch := false }) K.l) = if j = k then (efind j K.l).map (fun e => { e with ch := false }) else efind j K.l := fun j => by apply efind_emod; intro _; rfl
        have hck : ∀ j, K.chOf j = false ∨ j = k → ({ K with l := emod k (fun e => { e with ch := false }) K.l } : Ck).chOf j = false := fun j hj => by
          unfold Ck.chOf at hj ⊢
          simp only
          rw [hf]
          by_cases hjk : j = k
          · subst hjk; simp [he]
          · rw [if_neg hjk]
            exact hj.resolve_right hjk
        refine ⟨h1, h2.mono (by simp only [List.length_cons]; omega), w3.trans h3, fun x hx hxc hxk => ?_, ?_, fun j hj => h6 j (hck j (.inl hj))⟩
        · rcases List.mem_cons.1 hxk with hxk | hxk
          · have := h6 k (hck k (.inr rfl))
            unfold Ck.chOf at this
            have hfx := h2.find hx
            rw [hxk] at hfx
            rw [hfx] at this
            simp only at this
            rw [hxc] at this
            cases this
          · exact h4 x hx hxc hxk
        · rw [h5]
          simp only
          rw [emod_keys]
          exact fun _ => rfl
      · rename_i hc
        obtain ⟨h1, h2, h3, h4, h5, h6⟩ := Good.flush r g (by omega) h
        refine ⟨h1, h2.mono (by simp only [List.length_cons]; omega), h3, fun x hx hxc hxk => ?_, h5, h6⟩
        rcases List.mem_cons.1 hxk with hxk | hxk
        · have := h6 k (by unfold Ck.chOf; rw [he]; simpa using hc)
          unfold Ck.chOf at this
          have hfx := h2.find hx
          rw [hxk] at hfx
          rw [hfx] at this
          simp only at this
          rw [hxc] at this
          cases this
        · exact h4 x hx hxc hxk

/-- Behind a flush nothing is changed, and the disk shows all. -/
theorem Good.flushed {m : Int} {L : List Int} (g : Good D K n t) (ht : t < 800000) (hn : K.l.length ≤ 12) (hp : L.Perm (K.l.map (·.p))) (h : flushL L D K = (D', K', m)) :
    m = 0 ∧ Good D' K' n (t + 12) ∧ Alike D K D' K' ∧ (∀ e ∈ K'.l, e.ch = false) ∧ (∀ ds, K'.changedR ds → ds = []) ∧ ∀ j, D'.show j = viewOf D' K' j := by
  have hl : L.length ≤ 12 := by have := hp.length_eq; simp only [List.length_map] at this; omega
  obtain ⟨h1, h2, h3, h4, h5, _⟩ := Good.flush L g (by omega) h
  have hall : ∀ e ∈ K'.l, e.ch = false := fun e he => by
    cases hc : e.ch with
    | false => rfl
    | true =>
      refine absurd (hp.symm.subset ?_) (h4 e he hc)
      rw [← h5]
      exact List.mem_map_of_mem he
  refine ⟨h1, h2.mono (by omega), h3, hall, fun ds hd => ?_, fun j => ?_⟩
  · obtain ⟨L2, _, _, rfl⟩ := hd
    rw [List.filter_eq_nil_iff]
    intro k _
    unfold Ck.chOf
    cases hf : efind k K'.l with
    | none => simp
    | some e => simp [hall e (efind_mem hf).1]
  · unfold viewOf
    cases hf : efind j K'.l with
    | none => rfl
    | some e =>
      obtain ⟨hm, hk⟩ := efind_mem hf
      simp only
      rw [h2.clean e hm (hall e hm), hk]

end

section
variable {h0 h h' : Heap} {c da : Nat} {D : Dk} {K : Ck} {p : Pl} {q : Cp} {n t : Nat}

theorem Own.flush (o : Own h0 h c da D K p q) (g : Good D K n t) (ht : t < 800000) (hn : K.l.length ≤ 12) : CallH Tryz.prog 30 ⟨[ptr c]⟩ h fun v h' => v = i64 0 ∧
    ∃ D' K' p' q', Own h0 h' c da D' K' p' q' ∧ Good D' K' n (t + 12) ∧ Alike D K D' K' ∧ (∀ ds, K'.changedR ds → ds = []) ∧ (∀ j, D'.show j = viewOf D' K' j) ∧ Fr h h' (cdFoot c da p q) (cdFoot c da p' q') := by
  refine (cFlush_ok o.cd hn (by have := g.few; omega)).mono ?_
  rintro v h' ⟨L, D', K', m, rfl, hp, _, hf, p', q', r, k, s⟩
  obtain ⟨rfl, g', a, _, hc, hs⟩ := g.flushed ht hn hp hf
  exact ⟨rfl, D', K', p', q', o.go r k s, g', a, hc, hs, ⟨k, s⟩⟩

theorem Own.changed (o : Own h0 h c da D K p q) (hn : K.l.length ≤ 12) : CallH Tryz.prog 44 ⟨[ptr c]⟩ h fun v h' => ∃ s m cap ds, v = .slice s m cap ∧ m = ds.length ∧ K.changedR ds ∧ Own h0 h' c da D K p q ∧ Keep h h' [] := by
  refine (cChanged_ok o.cd.ck hn).mono ?_
  rintro v h' ⟨s, m, cap, ds, rfl, hv, hd, k⟩
  exact ⟨s, m, cap, ds, rfl, by rw [hv.1, ints_len], hd, o.beside k, k⟩

theorem Good.len (g : Good D K n t) (hn : n ≤ 12) : K.l.length ≤ 12 := by
  have := nodup_le (K.l.map fun e => e.p.toNat) (List.range n) (nat_keys g) fun k hk => by
    obtain ⟨e, he, rfl⟩ := List.mem_map.1 hk
    have := g.keys e he
    exact List.mem_range.2 (by omega)
  simp only [List.length_map, List.length_range] at this
  omega

/-- Sync changes nothing that is shown. -/
theorem Dk.settle_ok {D : Dk} (o : DkOK D) : DkOK D.settle ∧ ∀ j : Int, 0 ≤ j → j < D.st.length → D.settle.show j = D.show j := by
  have hl : D.flat.length = D.st.length := by simp [Dk.flat]
  refine ⟨⟨fun x hx => ?_, ?_, ?_, nofun, nofun, by simp [Dk.settle], by simp [Dk.settle]⟩, fun j h0 h1 => ?_⟩
  · obtain ⟨i, hi, rfl⟩ := List.mem_map.1 hx
    have := List.mem_range.1 hi
    exact Dk.show_ok o (by omega) (by omega)
  · show 0 < D.flat.length
    rw [hl]; exact o.some
  · show D.flat.length ≤ 2048
    rw [hl]; exact o.few
  · show (D.flat[j.toNat]?).getD [] = _
    have hj : j.toNat < D.st.length := by omega
    unfold Dk.flat
    rw [List.getElem?_map, List.getElem?_range hj]
    simp only [Option.map_some, Option.getD_some]
    congr 1
    omega

theorem Good.sync (g : Good D K n t) : D.pow = 0 ∧ D.spend.2 = true ∧ Good D.spend.1.settle K n t ∧ ∀ j : Int, 0 ≤ j → j < n → viewOf D.spend.1.settle K j = viewOf D K j := by
  have hs := Dk.spend_calm (D := D) g.calm
  have ok1 := Dk.ok_of hs.2.1 hs.2.2.1 hs.2.2.2.1 g.ok
  obtain ⟨ok2, sh2⟩ := Dk.settle_ok ok1
  have hsh : ∀ j : Int, 0 ≤ j → j < n → D.spend.1.settle.show j = D.show j := fun j h0 h1 => by
    rw [sh2 j h0 (by rw [hs.2.1, g.pages]; exact h1), Dk.show_of hs.2.1 hs.2.2.1 hs.2.2.2.1]
  refine ⟨by unfold Dk.pow; rw [g.on]; rfl, hs.1, { g with ok := ok2, pages := ?_, on := ?_, calm := hs.2.2.2.2.2, few := Nat.zero_le _, clean := fun e he hc => ?_ }, fun j h0 h1 => ?_⟩
  · show D.spend.1.flat.length = n
    simp only [Dk.flat, List.length_map, List.length_range]
    rw [hs.2.1]; exact g.pages
  · show D.spend.1.off = false
    rw [hs.2.2.2.2.1]; exact g.on
  · rw [hsh e.p (g.keys e he).1 (g.keys e he).2]
    exact g.clean e he hc
  · unfold viewOf
    cases efind j K.l with
    | none => exact hsh j h0 h1
    | some e => rfl

theorem Own.sync (o : Own h0 h c da D K p q) (g : Good D K n t) : CallH Tryz.prog 33 ⟨[ptr da]⟩ h fun v h' => v = i64 0 ∧ ∃ p' q', Own h0 h' c da D.spend.1.settle K p' q' ∧ Fr h h' (cdFoot c da p q) (cdFoot c da p' q') := by
  obtain ⟨g1, g2, _, _⟩ := g.sync
  refine (dSync_ok o.cd.dk).mono ?_
  rintro v h' ⟨_, _, hv⟩
  obtain ⟨rfl, post⟩ := hv g1 g2
  obtain ⟨p', q', r, k, s⟩ := o.cd.disk post
  exact ⟨rfl, p', q', o.go r k s, ⟨k, s⟩⟩

theorem Own.read (o : Own h0 h c da D K p q) (g : Good D K n t) {k : Int} (h1 : 0 ≤ k) (h2 : k < n) : CallH Tryz.prog 13 ⟨[ptr da, i64 k]⟩ h fun v h' => ∃ b p' q', v = .tuple ⟨[.slice (some ⟨b, 0, none⟩) 256 256, i64 0]⟩ ∧ Blk h' b (D.show k) ∧ okPage (D.show k) ∧ Own h0 h' c da D K p' q' ∧ Fr h h' (cdFoot c da p q) (cdFoot c da p' q') := by
  refine (dRead_ok o.cd.dk k).mono ?_
  rintro v h' ⟨hv, _⟩
  obtain ⟨b, p1, rfl, _, hb, _, rd, kd, sd⟩ := hv (g.at_zero h1 h2)
  obtain ⟨p', q', r, k', s⟩ := o.cd.disk ⟨p1, rd, kd, sd⟩
  exact ⟨b, p', q', rfl, hb, Dk.show_ok g.ok h1 (by rw [g.pages]; exact h2), o.go r k' s, ⟨k', s⟩⟩

end
end Go.Proofs.YtfapgccnhonoiaaGreat

/- CacheNone: for every input the law returns true, and its arguments read afterwards as before; no condition. -/
import Derived.Test.YtfapgccnhonoiaaMg
import Derived.WalkKit
import Derived.ProofKit
import Derived.ReadAgain
import Derived.Below
import Derived.JoinedOf
import Derived.Deep.Slices
import Derived.Test.YtfapgccnhonoiaaRows

/- The conditions of some functions of the program, as text (printed by a tool of this claim's author, wip/tool), and that they are enough for a call. -/
set_option linter.unusedVariables false
namespace Go.Proofs.Ytfapgccnhonoiaa

/-- incipit/incipitlaw05.told -/
def told_vc (b0 : Nat) (q1 : Int) (h : Heap) (R : Value → Heap → Prop) : Prop :=
  ∀ (n1 : Nat) (rec1 : Array Obj),
 n1 = Array.size h →
  rec1 = Array.push h (Obj.cells { toList := [Value.int IntKind.i64 q1] : Array Value } 3) →
   ∀ (n2 : Nat) (rec2 : Array Obj),
    n2 = Array.size rec1 →
     rec2 = Array.push rec1 (Obj.cells { toList := [Value.slice none 0 0] : Array Value } 57) →
      (false = true → R (Value.slice none 0 0) rec2) ∧
       (false = false →
        entersB Try.prog 46 = true ∧
         ∀ (n3 n4 : Nat) (rec3 : LoopState → Option Code → Obj) (h1 : Heap),
          n4 = Array.size rec2 →
           n3 = Array.size rec2 + 1 →
            (∀ (x1 : LoopState) (x2 : Option Code), notCells (rec3 x1 x2)) →
             h1 = Array.push (Array.push rec2 (Obj.deferred (some []))) (rec3 LoopState.ready none) →
              (∀ (i1 : Int) (t1 : Bool) (h2 : Heap) (I1 : Value → Heap → Prop),
                h2[n3]? = some (rec3 LoopState.ready none) →
                 (h2[n3]? = some (rec3 LoopState.ready none) ∧
                   ∀ (h3 : Heap),
                    h3 = Array.setIfInBounds h2 n3 (rec3 LoopState.busy none) →
                     ∃ (p1 : Option Addr),
                      ∃ (n6 : Nat),
                       ∃ (n7 : Nat),
                        cellAt h3 { block := n2, off := 0 : Addr } = some (Value.slice p1 n6 n7) ∧
                         ∃ (i2 : Int),
                          cellAt h3 { block := n1, off := 0 : Addr } = some (Value.int IntKind.i64 i2) ∧
                           (decide ((↑n6 : Int) ≥ i2) = true → h3[n3]? = some (rec3 LoopState.busy none) ∧ ∀ (h4 : Heap), h4 = Array.setIfInBounds h3 n3 (rec3 LoopState.done (some (Code.exit 0))) → I1 (Value.bool false) h4) ∧
                            (decide ((↑n6 : Int) ≥ i2) = false →
                             ∃ (p2 : Option Addr),
                              ∃ (n8 : Nat),
                               ∃ (n9 : Nat),
                                cellAt h3 { block := n2, off := 0 : Addr } = some (Value.slice p2 n8 n9) ∧
                                 (0 + 1 + 1 = 2 ∧ True) ∧
                                  ∀ (n10 : Nat) (rec5 : Array Obj),
                                   n10 = Array.size h3 →
                                    rec5 = Array.push h3 (Obj.cells { toList := [Value.int IntKind.i64 i1, Value.bool t1] : Array Value } 85) →
                                     ∃ (l1 : List Value),
                                      srcIs rec5 2 1 (Value.slice (some { block := n10, off := 0 : Addr }) 1 1) l1 ∧
                                       (∀ (v1 : Value), v1 ∈ l1 → isCell v1 = true) ∧
                                        List.length l1 = 2 ∧
                                         (n8 + 1 ≤ n9 →
                                           match p2 with
                                           | some a1 =>
                                            okRow rec5 (Addr.add a1 (n8 * 2)) (List.length l1) ∧
                                             ∀ (h5 : Heap),
                                              h5 = updRow rec5 (Addr.add a1 (n8 * 2)) 0 l1 →
                                               true = true ∧
                                                okAt h5 { block := n2, off := 0 : Addr } ∧
                                                 ∀ (h6 : Heap), h6 = upd h5 { block := n2, off := 0 : Addr } (Value.slice p2 (n8 + 1) n9) → h6[n3]? = some (rec3 LoopState.busy none) ∧ ∀ (h7 : Heap), h7 = Array.setIfInBounds h6 n3 (rec3 LoopState.ready none) → I1 (Value.bool true) h7
                                           | none =>
                                            true = true ∧
                                             okAt rec5 { block := n2, off := 0 : Addr } ∧
                                              ∀ (h8 : Heap), h8 = upd rec5 { block := n2, off := 0 : Addr } (Value.slice p2 (n8 + 1) n9) → h8[n3]? = some (rec3 LoopState.busy none) ∧ ∀ (h9 : Heap), h9 = Array.setIfInBounds h8 n3 (rec3 LoopState.ready none) → I1 (Value.bool true) h9) ∧
                                          (n9 < n8 + 1 →
                                           (n8 + 1) * 16 ≤ 70368744177664 ∧
                                            0 < 16 ∧
                                             ∃ (l2 : List Value),
                                              srcIs rec5 2 n8 (Value.slice p2 n8 n9) l2 ∧
                                               ∀ (n11 : Nat),
                                                n8 + 1 ≤ n11 →
                                                 ∀ (n12 : Nat) (rec6 : Array Obj),
                                                  n12 = Array.size rec5 →
                                                   rec6 = Array.push rec5 (Obj.cells { toList := List.append (List.append l2 l1) (zrow [Value.int IntKind.i64 (Int.ofNat 0), Value.bool false] (n11 - (n8 + 1))) : Array Value } 85) →
                                                    true = true ∧
                                                     okAt rec6 { block := n2, off := 0 : Addr } ∧
                                                      ∀ (h10 : Heap),
                                                       h10 = upd rec6 { block := n2, off := 0 : Addr } (Value.slice (some { block := n12, off := 0 : Addr }) (n8 + 1) n11) →
                                                        h10[n3]? = some (rec3 LoopState.busy none) ∧ ∀ (h11 : Heap), h11 = Array.setIfInBounds h10 n3 (rec3 LoopState.ready none) → I1 (Value.bool true) h11))) →
                  CallV Try.prog (yieldV n3) { toList := [Value.int IntKind.i64 i1, Value.bool t1] : Array Value } h2 I1) →
               CallH Try.prog 46 { toList := [yieldV n3, Value.pointer (some { block := b0, off := 0 : Addr })] : Array Value } h1 fun (v2 : Value) (h12 : Heap) =>
                (h12[n3]? = some (rec3 LoopState.done (some (Code.exit 0))) ∧
                  ∀ (h13 : Heap),
                   h13 = Array.setIfInBounds h12 n3 (rec3 LoopState.exhausted (some (Code.exit 0))) →
                    ∃ (p4 : Option Addr), ∃ (n13 : Nat), ∃ (n14 : Nat), cellAt h13 { block := n2, off := 0 : Addr } = some (Value.slice p4 n13 n14) ∧ h13[n4]? = some (Obj.deferred (some [])) ∧ ∀ (h14 : Heap), h14 = Array.setIfInBounds h13 n4 (Obj.deferred none) → R (Value.slice p4 n13 n14) h14) ∨
                 h12[n3]? = some (rec3 LoopState.ready none) ∧
                  ∀ (h15 : Heap),
                   h15 = Array.setIfInBounds h12 n3 (rec3 LoopState.exhausted none) →
                    ∃ (p5 : Option Addr), ∃ (n15 : Nat), ∃ (n16 : Nat), cellAt h15 { block := n2, off := 0 : Addr } = some (Value.slice p5 n15 n16) ∧ h15[n4]? = some (Obj.deferred (some [])) ∧ ∀ (h16 : Heap), h16 = Array.setIfInBounds h15 n4 (Obj.deferred none) → R (Value.slice p5 n15 n16) h16)

theorem told_call (b0 : Nat) (q1 : Int) {h : Heap} {R : Value → Heap → Prop} (H : told_vc b0 q1 h R) : CallH Try.prog 25 ⟨[.func (.func 46) #[] #[.pointer (some ⟨b0, 0, none⟩)], .int .i64 q1]⟩ h R :=
  callH_of_dCode tabOK mixed [(.func (.func 46) #[] #[.pointer (some ⟨b0, 0, none⟩)], false), (.int .i64 q1, false)] Try.func25 (c := bodyC Try.f25) (by kernel_rfl) (by kernel_rfl : Try.f25.ntmps = 24) rfl
    (Eq.mp (by kernel_rfl : told_vc b0 q1 h R = dCode Try.prog T ⟨[], [], [], [(7, [.int .i64, .bool])], []⟩ (bodyC Try.f25) none (dEnd T (Try.f25.results.toList) R) (startE 24 [(.func (.func 46) #[] #[.pointer (some ⟨b0, 0, none⟩)], false), (.int .i64 q1, false)]) h) H)

/-- incipit/incipitlaw05.CacheNone -/
def CacheNone_vc (q0 : Int) (q1p : Option Addr) (q1l : Nat) (q1c : Nat) (h : Heap) (R : Value → Heap → Prop) : Prop :=
  entersB Try.prog 8 = true ∧
 CallH Try.prog 8 { toList := [Value.pointer none, Value.int IntKind.i64 4] : Array Value } h fun (v1 : Value) (h1 : Heap) =>
  ∃ (p1 : Option Addr),
   ∃ (i1 : Int),
    v1 = Value.tuple { toList := [Value.pointer p1, Value.int IntKind.i64 i1] : Array Value } ∧
     ∀ (n1 : Nat) (rec1 : Array Obj),
      n1 = Array.size h1 →
       rec1 = Array.push h1 (Obj.cells { toList := [Value.slice none 0 0, Value.slice none 0 0, Value.map none, Value.bool false, Value.bool false, Value.int IntKind.i64 (Int.ofNat 0), Value.int IntKind.i64 (Int.ofNat 0)] : Array Value } 50) →
        entersB Try.prog 8 = true ∧
         CallH Try.prog 8 { toList := [Value.pointer (some { block := n1, off := 0 : Addr }), Value.int IntKind.i64 4] : Array Value } rec1 fun (v2 : Value) (h2 : Heap) =>
          ∃ (p2 : Option Addr),
           ∃ (i2 : Int),
            v2 = Value.tuple { toList := [Value.pointer p2, Value.int IntKind.i64 i2] : Array Value } ∧
             ((!Option.isNone p1) = true → R (Value.bool false) h2) ∧
              ((!Option.isNone p1) = false →
               ((!Option.isNone p2) = true → R (Value.bool false) h2) ∧
                ((!Option.isNone p2) = false →
                 ((i1 != 2) = true → R (Value.bool false) h2) ∧
                  ((i1 != 2) = false →
                   ((i2 != 2) = true → R (Value.bool false) h2) ∧
                    ((i2 != 2) = false →
                     ∀ (n2 : Nat) (rec2 : Array Obj),
                      n2 = Array.size h2 →
                       rec2 = Array.push h2 (Obj.cells { toList := [Value.pointer none, Value.int IntKind.i64 (Int.ofNat 0), Value.map none, Value.int IntKind.i64 (Int.ofNat 0), Value.int IntKind.i64 (Int.ofNat 0), Value.int IntKind.i64 (Int.ofNat 0)] : Array Value } 53) →
                        (1 = 1 ∧ 0 + 1 = 1 ∧ True) ∧
                         ∀ (n3 : Nat) (rec3 : Array Obj),
                          n3 = Array.size rec2 →
                           rec3 = Array.push rec2 (Obj.cells { toList := [Value.pointer none, Value.pointer (some { block := n2, off := 0 : Addr })] : Array Value } 27) →
                            ∃ (I1 : Int → Heap → Prop),
                             ∃ (M1 : Int → Heap → Nat),
                              I1 0 rec3 ∧
                               ∀ (i3 : Int) (h3 : Heap),
                                I1 i3 h3 →
                                 (decide (i3 < (↑2 : Int)) = true →
                                   (0 ≤ i3 ∧ i3 < (↑2 : Int)) ∧
                                    ∃ (p3 : Option Addr),
                                     cellAt h3 (Addr.add { block := n3, off := 0 : Addr } (Int.toNat i3 * 1)) = some (Value.pointer p3) ∧
                                      entersB Try.prog 23 = true ∧
                                       CallH Try.prog 23 { toList := [Value.pointer p3] : Array Value } h3 fun (v3 : Value) (h4 : Heap) =>
                                        v3 = Value.tuple { toList := [] : Array Value } ∧
                                         entersB Try.prog 13 = true ∧
                                          CallH Try.prog 13 { toList := [Value.pointer p3, Value.int IntKind.i64 q0] : Array Value } h4 fun (v4 : Value) (h5 : Heap) =>
                                           ∃ (p4 : Option Addr),
                                            ∃ (n4 : Nat),
                                             ∃ (n5 : Nat),
                                              ∃ (i4 : Int),
                                               v4 = Value.tuple { toList := [Value.slice p4 n4 n5, Value.int IntKind.i64 i4] : Array Value } ∧
                                                entersB Try.prog 24 = true ∧
                                                 CallH Try.prog 24 { toList := [Value.pointer p3] : Array Value } h5 fun (v5 : Value) (h6 : Heap) =>
                                                  ∃ (i5 : Int),
                                                   ∃ (i6 : Int),
                                                    v5 = Value.tuple { toList := [Value.int IntKind.i64 i5, Value.int IntKind.i64 i6] : Array Value } ∧
                                                     (((↑n4 : Int) != 0) = true → R (Value.bool false) h6) ∧
                                                      (((↑n4 : Int) != 0) = false →
                                                       ((i4 != 2) = true → R (Value.bool false) h6) ∧
                                                        ((i4 != 2) = false →
                                                         entersB Try.prog 10 = true ∧
                                                          CallH Try.prog 10 { toList := [Value.pointer p3, Value.int IntKind.i64 q0, Value.slice q1p q1l q1c] : Array Value } h6 fun (v6 : Value) (h7 : Heap) =>
                                                           ∃ (i7 : Int),
                                                            v6 = Value.int IntKind.i64 i7 ∧
                                                             ((i7 != 2) = true → R (Value.bool false) h7) ∧
                                                              ((i7 != 2) = false →
                                                               entersB Try.prog 12 = true ∧
                                                                CallH Try.prog 12 { toList := [Value.pointer p3, Value.int IntKind.i64 q0] : Array Value } h7 fun (v7 : Value) (h8 : Heap) =>
                                                                 ∃ (i8 : Int),
                                                                  v7 = Value.int IntKind.i64 i8 ∧
                                                                   ((i8 != 2) = true → R (Value.bool false) h8) ∧
                                                                    ((i8 != 2) = false →
                                                                     entersB Try.prog 18 = true ∧
                                                                      CallH Try.prog 18 { toList := [Value.pointer p3, Value.int IntKind.i64 q0] : Array Value } h8 fun (v8 : Value) (h9 : Heap) =>
                                                                       ∃ (i9 : Int),
                                                                        v8 = Value.int IntKind.i64 i9 ∧
                                                                         ((i9 != 2) = true → R (Value.bool false) h9) ∧
                                                                          ((i9 != 2) = false →
                                                                           entersB Try.prog 16 = true ∧
                                                                            CallH Try.prog 16 { toList := [Value.pointer p3, Value.int IntKind.i64 q0] : Array Value } h9 fun (v9 : Value) (h10 : Heap) =>
                                                                             ∃ (i10 : Int),
                                                                              v9 = Value.int IntKind.i64 i10 ∧
                                                                               ((i10 != 2) = true → R (Value.bool false) h10) ∧
                                                                                ((i10 != 2) = false →
                                                                                 entersB Try.prog 19 = true ∧
                                                                                  CallH Try.prog 19 { toList := [Value.pointer p3] : Array Value } h10 fun (v10 : Value) (h11 : Heap) =>
                                                                                   ∃ (i11 : Int),
                                                                                    v10 = Value.int IntKind.i64 i11 ∧
                                                                                     ((i11 != 2) = true → R (Value.bool false) h11) ∧
                                                                                      ((i11 != 2) = false →
                                                                                       entersB Try.prog 15 = true ∧
                                                                                        CallH Try.prog 15 { toList := [Value.pointer p3] : Array Value } h11 fun (v11 : Value) (h12 : Heap) =>
                                                                                         ∃ (p5 : Option Addr),
                                                                                          ∃ (n6 : Nat),
                                                                                           ∃ (n7 : Nat),
                                                                                            v11 = Value.slice p5 n6 n7 ∧
                                                                                             entersB Try.prog 20 = true ∧
                                                                                              CallH Try.prog 20 { toList := [Value.pointer p3] : Array Value } h12 fun (v12 : Value) (h13 : Heap) =>
                                                                                               ∃ (p6 : Option Addr),
                                                                                                ∃ (n8 : Nat),
                                                                                                 ∃ (n9 : Nat),
                                                                                                  v12 = Value.slice p6 n8 n9 ∧
                                                                                                   ((IntKind.wrap IntKind.i64 (IntKind.wrap IntKind.i64 (IntKind.wrap IntKind.i64 ((↑n6 : Int) + (↑n8 : Int)) + i5) + i6) != 0) = true → R (Value.bool false) h13) ∧
                                                                                                    ((IntKind.wrap IntKind.i64 (IntKind.wrap IntKind.i64 (IntKind.wrap IntKind.i64 ((↑n6 : Int) + (↑n8 : Int)) + i5) + i6) != 0) = false →
                                                                                                     entersB Try.prog 14 = true ∧
                                                                                                      CallH Try.prog 14 { toList := [Value.pointer p3, Value.int IntKind.i64 q0] : Array Value } h13 fun (v13 : Value) (h14 : Heap) =>
                                                                                                       ∃ (t1 : Bool),
                                                                                                        v13 = Value.bool t1 ∧
                                                                                                         (t1 = true → R (Value.bool false) h14) ∧
                                                                                                          (t1 = false →
                                                                                                           entersB Try.prog 26 = true ∧
                                                                                                            CallH Try.prog 26 { toList := [Value.pointer p3] : Array Value } h14 fun (v14 : Value) (h15 : Heap) =>
                                                                                                             ∃ (v15 : Value),
                                                                                                              v14 = v15 ∧
                                                                                                               entersB Try.prog 25 = true ∧
                                                                                                                CallH Try.prog 25 { toList := [v15, Value.int IntKind.i64 9] : Array Value } h15 fun (v16 : Value) (h16 : Heap) =>
                                                                                                                 ∃ (p7 : Option Addr),
                                                                                                                  ∃ (n10 : Nat),
                                                                                                                   ∃ (n11 : Nat),
                                                                                                                    v16 = Value.slice p7 n10 n11 ∧
                                                                                                                     (((↑n10 : Int) != 0) = true → R (Value.bool false) h16) ∧
                                                                                                                      (((↑n10 : Int) != 0) = false → I1 (IntKind.wrap IntKind.i64 (i3 + 1)) h16 ∧ M1 (IntKind.wrap IntKind.i64 (i3 + 1)) h16 < M1 i3 h3))))))))))) ∧
                                  (decide (i3 < (↑2 : Int)) = false → entersB Try.prog 9 = true ∧ CallH Try.prog 9 { toList := [] : Array Value } h3 fun (v17 : Value) (h17 : Heap) => ∃ (t2 : Bool), v17 = Value.bool t2 ∧ R (Value.bool t2) h17)))))

theorem CacheNone_call (q0 : Int) (q1p : Option Addr) (q1l : Nat) (q1c : Nat) {h : Heap} {R : Value → Heap → Prop} (H : CacheNone_vc q0 q1p q1l q1c h R) : CallH Try.prog 6 ⟨[.int .i64 q0, .slice q1p q1l q1c]⟩ h R :=
  callH_of_dCode tabOK mixed [(.int .i64 q0, false), (.slice q1p q1l q1c, false)] Try.func6 (c := bodyC Try.f6) (by kernel_rfl) (by kernel_rfl : Try.f6.ntmps = 125) rfl
    (Eq.mp (by kernel_rfl : CacheNone_vc q0 q1p q1l q1c h R = dCode Try.prog T ⟨[], [(6, [(43, .int .i64)])], [], [], []⟩ (bodyC Try.f6) none (dEnd T (Try.f6.results.toList) R) (startE 125 [(.int .i64 q0, false), (.slice q1p q1l q1c, false)]) h) H)

end Go.Proofs.Ytfapgccnhonoiaa

/- A cache that no call made: what its functions answer. -/
namespace Go.Proofs.Ytfapgccnhonoiaa

/-- No cache, or one of noughts: where its pointer leads. -/
inductive NoC (h : Heap) : Option Addr → Prop where
  | nil : NoC h none
  | zero (c : Nat) (hb : Blk h c [.pointer none, i64 0, .map none, i64 0, i64 0, i64 0]) : NoC h (some ⟨c, 0, none⟩)

theorem NoC.keep {h h' : Heap} {a : Option Addr} (n : NoC h a) (k : Keep h h' []) : NoC h' a := by
  cases n with
  | nil => exact .nil
  | zero c hb => exact .zero c (hb.keep k (by simp))

section
variable {h : Heap} {a : Option Addr}

theorem noNone (n : NoC h a) : CallH Try.prog 35 ⟨[.pointer a]⟩ h fun v h' => v = .bool true ∧ h' = h := by
  cases n with
  | nil => exact cNoneN_ok h
  | zero c hb => exact cNone_call c ⟨nofun, fun _ => ⟨_, hb.cell rfl, rfl, rfl⟩⟩

theorem noDrop (n : NoC h a) : CallH Try.prog 23 ⟨[.pointer a]⟩ h fun v h' => v = .tuple ⟨[]⟩ ∧ h' = h := by
  have hn := noNone n
  cases n with
  | nil =>
    refine cDropN_call ⟨by kernel_rfl, hn.mono ?_⟩
    rintro _ _ ⟨rfl, rfl⟩
    exact ⟨true, rfl, nofun, fun _ => ⟨rfl, rfl⟩⟩
  | zero c hb =>
    refine cDrop_call c ⟨by kernel_rfl, hn.mono ?_⟩
    rintro _ _ ⟨rfl, rfl⟩
    exact ⟨true, rfl, nofun, fun _ => ⟨rfl, rfl⟩⟩

theorem noMay (n : NoC h a) (k s : Int) : CallH Try.prog 29 ⟨[.pointer a, i64 k, i64 s]⟩ h fun v h' => v = i64 2 ∧ h' = h := by
  have hn := noNone n
  cases n with
  | nil =>
    refine cMayN_call k s ⟨by kernel_rfl, hn.mono ?_⟩
    rintro _ _ ⟨rfl, rfl⟩
    exact ⟨true, rfl, fun _ => ⟨rfl, rfl⟩, nofun⟩
  | zero c hb =>
    refine cMay_call c k s ⟨by kernel_rfl, hn.mono ?_⟩
    rintro _ _ ⟨rfl, rfl⟩
    exact ⟨true, rfl, fun _ => ⟨rfl, rfl⟩, nofun⟩

theorem noGet (n : NoC h a) (k : Int) : CallH Try.prog 13 ⟨[.pointer a, i64 k]⟩ h fun v h' => v = .tuple ⟨[.slice none 0 0, i64 2]⟩ ∧ h' = h := by
  have hn := noMay n k 256
  cases n with
  | nil =>
    refine cGetN_call k ⟨by kernel_rfl, hn.mono ?_⟩
    rintro _ _ ⟨rfl, rfl⟩
    exact ⟨2, rfl, fun _ => ⟨rfl, rfl⟩, nofun⟩
  | zero c hb =>
    refine cGet_call c k ⟨by kernel_rfl, hn.mono ?_⟩
    rintro _ _ ⟨rfl, rfl⟩
    exact ⟨2, rfl, fun _ => ⟨rfl, rfl⟩, nofun⟩

theorem noPut (n : NoC h a) (k : Int) (sp : Option Addr) (l cp : Nat) : CallH Try.prog 10 ⟨[.pointer a, i64 k, .slice sp l cp]⟩ h fun v h' => v = i64 2 ∧ h' = h := by
  have hn := noMay n k l
  cases n with
  | nil =>
    refine cPutN_call k sp l cp ⟨by kernel_rfl, hn.mono ?_⟩
    rintro _ _ ⟨rfl, rfl⟩
    exact ⟨2, rfl, fun _ => ⟨rfl, rfl⟩, nofun⟩
  | zero c hb =>
    refine cPut_call c k sp l cp ⟨by kernel_rfl, hn.mono ?_⟩
    rintro _ _ ⟨rfl, rfl⟩
    exact ⟨2, rfl, fun _ => ⟨rfl, rfl⟩, nofun⟩

theorem noOf (n : NoC h a) (k : Int) : CallH Try.prog 34 ⟨[.pointer a, i64 k]⟩ h fun v h' => v = .tuple ⟨[.pointer none, i64 2]⟩ ∧ h' = h := by
  have hn := noNone n
  cases n with
  | nil =>
    refine cOfN_call k ⟨by kernel_rfl, hn.mono ?_⟩
    rintro _ _ ⟨rfl, rfl⟩
    exact ⟨true, rfl, fun _ => ⟨rfl, rfl⟩, nofun⟩
  | zero c hb =>
    refine cOf_call c k ⟨by kernel_rfl, hn.mono ?_⟩
    rintro _ _ ⟨rfl, rfl⟩
    exact ⟨true, rfl, fun _ => ⟨rfl, rfl⟩, nofun⟩

theorem noPin (n : NoC h a) (k : Int) : CallH Try.prog 12 ⟨[.pointer a, i64 k]⟩ h fun v h' => v = i64 2 ∧ h' = h := by
  have hn := noOf n k
  cases n with
  | nil =>
    refine cPinN_call k ⟨by kernel_rfl, hn.mono ?_⟩
    rintro _ _ ⟨rfl, rfl⟩
    exact ⟨none, 2, rfl, fun _ => ⟨rfl, rfl⟩, nofun⟩
  | zero c hb =>
    refine cPin_call c k ⟨by kernel_rfl, hn.mono ?_⟩
    rintro _ _ ⟨rfl, rfl⟩
    exact ⟨none, 2, rfl, fun _ => ⟨rfl, rfl⟩, nofun⟩

theorem noUnpin (n : NoC h a) (k : Int) : CallH Try.prog 18 ⟨[.pointer a, i64 k]⟩ h fun v h' => v = i64 2 ∧ h' = h := by
  have hn := noOf n k
  cases n with
  | nil =>
    refine cUnpinN_call k ⟨by kernel_rfl, hn.mono ?_⟩
    rintro _ _ ⟨rfl, rfl⟩
    exact ⟨none, 2, rfl, fun _ => ⟨rfl, rfl⟩, nofun⟩
  | zero c hb =>
    refine cUnpin_call c k ⟨by kernel_rfl, hn.mono ?_⟩
    rintro _ _ ⟨rfl, rfl⟩
    exact ⟨none, 2, rfl, fun _ => ⟨rfl, rfl⟩, nofun⟩

theorem noForget (n : NoC h a) (k : Int) : CallH Try.prog 16 ⟨[.pointer a, i64 k]⟩ h fun v h' => v = i64 2 ∧ h' = h := by
  have hn := noOf n k
  cases n with
  | nil =>
    refine cForgetN_call k ⟨by kernel_rfl, hn.mono ?_⟩
    rintro _ _ ⟨rfl, rfl⟩
    exact ⟨none, 2, rfl, fun _ => ⟨rfl, rfl⟩, nofun⟩
  | zero c hb =>
    refine cForget_call c k ⟨by kernel_rfl, hn.mono ?_⟩
    rintro _ _ ⟨rfl, rfl⟩
    exact ⟨none, 2, rfl, fun _ => ⟨rfl, rfl⟩, nofun⟩

theorem noHas (n : NoC h a) (k : Int) : CallH Try.prog 14 ⟨[.pointer a, i64 k]⟩ h fun v h' => v = .bool false ∧ h' = h := by
  have hn := noOf n k
  cases n with
  | nil =>
    refine cHasN_call k ⟨by kernel_rfl, hn.mono ?_⟩
    rintro _ _ ⟨rfl, rfl⟩
    exact ⟨none, 2, rfl, rfl, rfl⟩
  | zero c hb =>
    refine cHas_call c k ⟨by kernel_rfl, hn.mono ?_⟩
    rintro _ _ ⟨rfl, rfl⟩
    exact ⟨none, 2, rfl, rfl, rfl⟩

theorem noCounts (n : NoC h a) : CallH Try.prog 24 ⟨[.pointer a]⟩ h fun v h' => v = .tuple ⟨[i64 0, i64 0]⟩ ∧ h' = h := by
  have hn := noNone n
  cases n with
  | nil =>
    refine cCountsN_call ⟨by kernel_rfl, hn.mono ?_⟩
    rintro _ _ ⟨rfl, rfl⟩
    exact ⟨true, rfl, fun _ => ⟨rfl, rfl⟩, nofun⟩
  | zero c hb =>
    refine cCounts_call c ⟨by kernel_rfl, hn.mono ?_⟩
    rintro _ _ ⟨rfl, rfl⟩
    exact ⟨true, rfl, fun _ => ⟨rfl, rfl⟩, nofun⟩

theorem noHeld (n : NoC h a) : CallH Try.prog 15 ⟨[.pointer a]⟩ h fun v h' => v = .slice none 0 0 ∧ Keep h h' [] := by
  have go : ∀ (n1 : Nat) (h1 : Heap), n1 = h.size → h1 = h.push (.cells ⟨[.pointer a]⟩ 27 (0, 0)) → Keep h h1 [] ∧ Blk h1 n1 [.pointer a] := fun n1 h1 e1 e2 => by
    subst e1 e2
    exact ⟨Keep.push _ _ _, Blk.new _ _ _⟩
  cases n with
  | nil =>
    refine cHeldN_call fun n1 h1 e1 e2 => ?_
    obtain ⟨k1, b1⟩ := go n1 h1 e1 e2
    refine ⟨_, b1.cell rfl, by kernel_rfl, (noNone (NoC.nil)).mono ?_⟩
    rintro _ _ ⟨rfl, rfl⟩
    exact ⟨true, rfl, fun _ => ⟨rfl, k1⟩, nofun⟩
  | zero c hb =>
    refine cHeld_call c fun n1 h1 e1 e2 => ?_
    obtain ⟨k1, b1⟩ := go n1 h1 e1 e2
    refine ⟨_, b1.cell rfl, by kernel_rfl, (noNone (NoC.zero c (hb.keep k1 (by simp)))).mono ?_⟩
    rintro _ _ ⟨rfl, rfl⟩
    exact ⟨true, rfl, fun _ => ⟨rfl, k1⟩, nofun⟩

theorem noFlush (n : NoC h a) : CallH Try.prog 19 ⟨[.pointer a]⟩ h fun v h' => v = i64 2 ∧ Keep h h' [] := by
  have go : ∀ (n1 : Nat) (h1 : Heap) (n2 : Nat) (h2 : Heap), n1 = h.size → h1 = h.push (.cells ⟨[.pointer a]⟩ 27 (0, 0)) → n2 = h1.size → h2 = h1.push (.cells ⟨[.int .i64 (Int.ofNat 0)]⟩ 24 (0, 0)) →
      Keep h h2 [] ∧ Blk h2 n1 [.pointer a] ∧ Blk h2 n2 [i64 0] ∧ h.size ≤ n2 := fun n1 h1 n2 h2 e1 e2 e3 e4 => by
    have k1 : Keep h h1 [] := by rw [e2]; exact Keep.push _ _ _
    have k2 : Keep h1 h2 [] := by rw [e4]; exact Keep.push _ _ _
    refine ⟨k1.trans' k2, ?_, ?_, by rw [e3]; exact k1.size⟩
    · have : Blk h1 n1 [.pointer a] := by rw [e2, e1]; exact Blk.new _ _ _
      exact this.keep k2 (by simp)
    · rw [e4, e3]; exact Blk.new _ _ _
  have fin : ∀ {h2 h3 : Heap} {n2 : Nat}, Keep h h2 [] → Blk h2 n2 [i64 0] → h.size ≤ n2 → h3 = upd h2 ⟨n2, 0, none⟩ (i64 2) → cellAt h3 ⟨n2, 0, none⟩ = some (i64 2) ∧ Keep h h3 [] := fun k b hn e => by
    have b3 := b.upd 0 (i64 2)
    rw [← e] at b3
    refine ⟨b3.cell rfl, k.trans (F' := [_]) ?_ (by simp; exact hn)⟩
    rw [e]
    exact Keep.upd _ _ _ _ _ (by simp)
  cases n with
  | nil =>
    refine cFlushN_call fun n1 h1 e1 e2 n2 h2 e3 e4 => ?_
    obtain ⟨k2, b1, b2, hn⟩ := go n1 h1 n2 h2 e1 e2 e3 e4
    clear e4
    refine ⟨_, b1.cell rfl, by kernel_rfl, (noNone (NoC.nil)).mono ?_⟩
    rintro _ h2 ⟨rfl, rfl⟩
    refine ⟨true, rfl, fun _ => ⟨rfl, b2.ok (by simp), fun h3 e => ⟨nofun, 2, (fin k2 b2 hn e).1, rfl, (fin k2 b2 hn e).2⟩⟩, nofun⟩
  | zero c hb =>
    refine cFlush_call c fun n1 h1 e1 e2 n2 h2 e3 e4 => ?_
    obtain ⟨k2, b1, b2, hn⟩ := go n1 h1 n2 h2 e1 e2 e3 e4
    clear e4
    refine ⟨_, b1.cell rfl, by kernel_rfl, (noNone (NoC.zero c (hb.keep k2 (by simp)))).mono ?_⟩
    rintro _ h2 ⟨rfl, rfl⟩
    refine ⟨true, rfl, fun _ => ⟨rfl, b2.ok (by simp), fun h3 e => ⟨nofun, 2, (fin k2 b2 hn e).1, rfl, (fin k2 b2 hn e).2⟩⟩, nofun⟩

theorem noAll (n : NoC h a) : CallH Try.prog 26 ⟨[.pointer a]⟩ h fun v h' => ∃ b1, v = .func (.func 46) #[] #[ptr b1] ∧ Blk h' b1 [.pointer a] ∧ Keep h h' [] ∧ NoC h' a ∧ h.size ≤ b1 := by
  have go : ∀ (n1 : Nat) (h1 : Heap), n1 = h.size → h1 = h.push (.cells ⟨[.pointer a]⟩ 27 (0, 0)) → Keep h h1 [] ∧ Blk h1 n1 [.pointer a] := fun n1 h1 e1 e2 => by
    subst e1 e2
    exact ⟨Keep.push _ _ _, Blk.new _ _ _⟩
  cases n with
  | nil =>
    refine cAllN_call fun n1 h1 e1 e2 => ?_
    obtain ⟨k1, b1⟩ := go n1 h1 e1 e2
    exact ⟨n1, rfl, b1, k1, .nil, by omega⟩
  | zero c hb =>
    refine cAll_call c fun n1 h1 e1 e2 => ?_
    obtain ⟨k1, b1⟩ := go n1 h1 e1 e2
    exact ⟨n1, rfl, b1, k1, .zero c (hb.keep k1 (by simp)), by omega⟩

theorem noAll1 {b1 : Nat} (hb : Blk h b1 [.pointer a]) (n : NoC h a) (y : Nat) : CallH Try.prog 46 ⟨[yieldV y, ptr b1]⟩ h fun v h' => v = .tuple ⟨[]⟩ ∧ h' = h := by
  refine cAll1_call _ b1 ⟨_, hb.cell rfl, by kernel_rfl, (noNone n).mono ?_⟩
  rintro _ h1 ⟨rfl, rfl⟩
  exact ⟨true, rfl, fun _ => ⟨rfl, rfl⟩, nofun⟩

theorem noChanged (n : NoC h a) : CallH Try.prog 20 ⟨[.pointer a]⟩ h fun v h' => v = .slice none 0 0 ∧ Keep h h' [] := by
  have main : ∀ (n1 : Nat) (h0 : Heap), n1 = h.size → h0 = h.push (.cells ⟨[.slice none 0 0]⟩ 40 (0, 0)) → ∀ (h1 : Heap) (b1 : Nat), Blk h1 b1 [.pointer a] → Keep h0 h1 [] → NoC h1 a →
      ∀ (n2 n3 : Nat) (rec2 : LoopState → Option Code → Obj) (h2 : Heap), n3 = h1.size → n2 = h1.size + 1 → h2 = (h1.push (.deferred (some []))).push (rec2 .ready none) → CallH Try.prog 46 ⟨[yieldV n2, ptr b1]⟩ h2 fun _ h13 =>
        h13[n2]? = some (rec2 .ready none) ∧ ∀ h14, h14 = h13.setIfInBounds n2 (rec2 .exhausted none) → ∃ (p3 : Option Addr) (n10 n11 : Nat), cellAt h14 ⟨n1, 0, none⟩ = some (.slice p3 n10 n11) ∧ h14[n3]? = some (.deferred (some [])) ∧ ∀ h15, h15 = h14.setIfInBounds n3 (.deferred none) → Value.slice p3 n10 n11 = .slice none 0 0 ∧ Keep h h15 [] := by
    intro n1 h0 hn1 hh0 h1 b1 hb1 k1 hno n2 n3 rec2 h2 hn3 hn2 hh2
    have s0 : h0.size = h.size + 1 := by rw [hh0]; simp
    have s1 := k1.size
    have k0 : Keep h h0 [] := by rw [hh0]; exact Keep.push _ _ _
    have k2 : Keep h1 h2 [] := by rw [hh2]; exact (Keep.push _ _ _).trans' (Keep.push _ _ _)
    have box : Blk h2 n1 [.slice none 0 0] := by
      have : Blk h0 n1 [.slice none 0 0] := by rw [hh0, hn1]; exact Blk.new _ _ _
      exact (this.keep k1 (by simp)).keep k2 (by simp)
    have l2 : h2[n2]? = some (rec2 .ready none) := by
      rw [hh2, hn2, show h1.size + 1 = (h1.push (Obj.deferred (some []))).size by simp]; exact get_push_eq _ _
    have d2 : h2[n3]? = some (.deferred (some [])) := by
      rw [hh2, hn3, get_push_lt _ _ (by simp)]; exact get_push_eq _ _
    refine (noAll1 (hb1.keep k2 (by simp)) (hno.keep k2) n2).mono ?_
    rintro _ h2 ⟨rfl, rfl⟩
    refine ⟨l2, fun h14 hh14 => ⟨none, 0, 0, ?_, ?_, fun h15 hh15 => ⟨rfl, ?_⟩⟩⟩
    all_goals have k14 : Keep h2 h14 [n2] := by rw [hh14]; exact Keep.set _ _ _ _ (by simp)
    · exact (box.keep k14 (by simp; omega)).cell rfl
    · exact k14.get d2 (by simp; omega)
    · have k15 : Keep h14 h15 [n3] := by rw [hh15]; exact Keep.set _ _ _ _ (by simp)
      exact ((((k0.trans' k1).trans' k2).trans k14 (by simp; omega)).trans k15 (by simp; omega))
  cases n with
  | nil =>
    refine cChangedN_call fun n1 h0 hn1 hh0 => ⟨by kernel_rfl, (noAll (NoC.nil)).mono ?_⟩
    rintro _ h1 ⟨b1, rfl, hb1, k1, hno, _⟩
    exact ⟨_, rfl, by kernel_rfl, fun n2 n3 rec2 h2 hn3 hn2 _ hh2 _ => main n1 h0 hn1 hh0 h1 b1 hb1 k1 hno n2 n3 rec2 h2 hn3 hn2 hh2⟩
  | zero c hb =>
    refine cChanged_call c fun n1 h0 hn1 hh0 => ⟨by kernel_rfl, (noAll (NoC.zero c (hb.keep (F := []) (by rw [hh0]; exact Keep.push _ _ _) (by simp)))).mono ?_⟩
    rintro _ h1 ⟨b1, rfl, hb1, k1, hno, _⟩
    exact ⟨_, rfl, by kernel_rfl, fun n2 n3 rec2 h2 hn3 hn2 _ hh2 _ => main n1 h0 hn1 hh0 h1 b1 hb1 k1 hno n2 n3 rec2 h2 hn3 hn2 hh2⟩

theorem noTold {b0 : Nat} (hb : Blk h b0 [.pointer a]) (n : NoC h a) (most : Int) : CallH Try.prog 25 ⟨[.func (.func 46) #[] #[ptr b0], i64 most]⟩ h fun v h' => v = .slice none 0 0 ∧ Keep h h' [] := by
  refine told_call b0 most fun n1 ha hn1 hha n2 h0 hn2 hh0 => ⟨nofun, fun _ => ⟨by kernel_rfl, fun n3 n4 rec3 h1 hn4 hn3 _ hh1 _ => ?_⟩⟩
  have ka : Keep h ha [] := by rw [hha]; exact Keep.push _ _ _
  have k0 : Keep ha h0 [] := by rw [hh0]; exact Keep.push _ _ _
  have k1 : Keep h0 h1 [] := by rw [hh1]; exact (Keep.push _ _ _).trans' (Keep.push _ _ _)
  have k01 := (ka.trans' k0).trans' k1
  have sa : ha.size = h.size + 1 := by rw [hha]; simp
  have s0 : h0.size = ha.size + 1 := by rw [hh0]; simp
  have box : Blk h1 n2 [.slice none 0 0] := by
    have : Blk h0 n2 [.slice none 0 0] := by rw [hh0, hn2]; exact Blk.new _ _ _
    exact this.keep k1 (by simp)
  have l1 : h1[n3]? = some (rec3 .ready none) := by
    rw [hh1, hn3, show h0.size + 1 = (h0.push (Obj.deferred (some []))).size by simp]; exact get_push_eq _ _
  have d1 : h1[n4]? = some (.deferred (some [])) := by
    rw [hh1, hn4, get_push_lt _ _ (by simp)]; exact get_push_eq _ _
  refine (noAll1 (hb.keep k01 (by simp)) (n.keep k01) n3).mono ?_
  rintro _ h1 ⟨rfl, rfl⟩
  refine .inr ⟨l1, fun h14 hh14 => ⟨none, 0, 0, ?_, ?_, fun h15 hh15 => ⟨rfl, ?_⟩⟩⟩
  all_goals have k14 : Keep h1 h14 [n3] := by rw [hh14]; exact Keep.set _ _ _ _ (by simp)
  · exact (box.keep k14 (by simp; omega)).cell rfl
  · exact k14.get d1 (by simp; omega)
  · have k15 : Keep h14 h15 [n4] := by rw [hh15]; exact Keep.set _ _ _ _ (by simp)
    exact (k01.trans k14 (by simp; omega)).trans k15 (by simp; omega)

end
end Go.Proofs.Ytfapgccnhonoiaa

/- CacheNone: a cache that no call made answers ErrMade: the walk. -/
namespace Go.Proofs.Ytfapgccnhonoiaa

theorem cNewNil_ok (h : Heap) : CallH Try.prog 8 ⟨[.pointer none, i64 4]⟩ h fun v h' => v = .tuple ⟨[.pointer none, i64 2]⟩ ∧ h' = h := by
  refine cNewN_call 4 ⟨by kernel_rfl, (dPagesN_ok h).mono ?_⟩
  rintro _ _ ⟨rfl, rfl⟩
  exact ⟨0, rfl, fun _ => ⟨rfl, rfl⟩, nofun⟩

theorem cNewZero_ok (h : Heap) (a : Nat) (hb : Blk h a [.slice none 0 0, .slice none 0 0, .map none, .bool false, .bool false, i64 0, i64 0]) : CallH Try.prog 8 ⟨[ptr a, i64 4]⟩ h fun v h' => v = .tuple ⟨[.pointer none, i64 2]⟩ ∧ h' = h := by
  have hn : CallH Try.prog 48 ⟨[ptr a]⟩ h fun v h' => v = .bool true ∧ h' = h := dNone_call a ⟨nofun, fun _ => ⟨_, _, _, hb.cell rfl, rfl, rfl⟩⟩
  have hp : CallH Try.prog 27 ⟨[ptr a]⟩ h fun v h' => v = i64 0 ∧ h' = h := by
    refine dPages_call a ⟨by kernel_rfl, hn.mono ?_⟩
    rintro _ _ ⟨rfl, rfl⟩
    exact ⟨true, rfl, fun _ => ⟨rfl, rfl⟩, nofun⟩
  refine cNew_call a 4 ⟨by kernel_rfl, hp.mono ?_⟩
  rintro _ _ ⟨rfl, rfl⟩
  exact ⟨0, rfl, fun _ => ⟨rfl, rfl⟩, nofun⟩

theorem CacheNone_ok (h : Heap) (q0 : Int) (sp : Option Addr) (sl sc : Nat) : CallH Try.prog 6 ⟨[i64 q0, .slice sp sl sc]⟩ h fun v h' => v = .bool true ∧ Keep h h' [] := by
  refine CacheNone_call q0 sp sl sc ⟨by kernel_rfl, (cNewNil_ok h).mono ?_⟩
  rintro _ h ⟨rfl, rfl⟩
  refine ⟨_, _, rfl, fun n1 h1 hn1 hh1 => ⟨by kernel_rfl, ?_⟩⟩
  have k1 : Keep h h1 [] := by rw [hh1]; exact Keep.push _ _ _
  refine (cNewZero_ok h1 n1 (by rw [hh1, hn1]; exact Blk.new _ _ _)).mono ?_
  clear hh1
  rintro _ h1 ⟨rfl, rfl⟩
  refine ⟨_, _, rfl, nofun, fun _ => ⟨nofun, fun _ => ⟨nofun, fun _ => ⟨nofun, fun _ n2 h2 hn2 hh2 => ⟨⟨rfl, rfl, trivial⟩, fun n3 h3 hn3 hh3 => ?_⟩⟩⟩⟩⟩
  have k2 : Keep h1 h2 [] := by rw [hh2]; exact Keep.push _ _ _
  have k3 : Keep h2 h3 [] := by rw [hh3]; exact Keep.push _ _ _
  have z2 : Blk h2 n2 [.pointer none, i64 0, .map none, i64 0, i64 0, i64 0] := by rw [hh2, hn2]; exact Blk.new _ _ _
  have l3 : Blk h3 n3 [.pointer none, ptr n2] := by rw [hh3, hn3]; exact Blk.new _ _ _
  have z3 := z2.keep k3 (by simp)
  have k03 := (k1.trans' k2).trans' k3
  clear hh3 hh2
  refine ⟨fun i hh => 0 ≤ i ∧ i ≤ 2 ∧ Keep h hh [] ∧ Blk hh n3 [.pointer none, ptr n2] ∧ Blk hh n2 [.pointer none, i64 0, .map none, i64 0, i64 0, i64 0], fun i _ => (2 - i).toNat, ⟨by omega, by omega, k03, l3, z3⟩, ?_⟩
  rintro i h3 ⟨hi0, hi2, k3, l3, z3⟩
  refine ⟨fun e => ?_, fun e => ⟨by kernel_rfl, (live_ok h3).mono ?_⟩⟩
  · have hi : i < 2 := of_decide_eq_true e
    obtain ⟨a, hc, n⟩ : ∃ a, cellAt h3 ⟨n3, i.toNat, none⟩ = some (.pointer a) ∧ NoC h3 a := by
      by_cases h0 : i = 0
      · subst h0; exact ⟨none, l3.cell rfl, .nil⟩
      · have : i = 1 := by omega
        subst this
        exact ⟨some ⟨n2, 0, none⟩, l3.cell rfl, .zero n2 z3⟩
    refine ⟨⟨hi0, hi⟩, a, by rw [addr_add]; simpa using hc, by kernel_rfl, (noDrop n).mono ?_⟩
    rintro _ h3 ⟨rfl, rfl⟩
    refine ⟨rfl, by kernel_rfl, (noGet n q0).mono ?_⟩
    rintro _ h3 ⟨rfl, rfl⟩
    refine ⟨_, _, _, _, rfl, by kernel_rfl, (noCounts n).mono ?_⟩
    rintro _ h3 ⟨rfl, rfl⟩
    refine ⟨_, _, rfl, nofun, fun _ => ⟨nofun, fun _ => ⟨by kernel_rfl, (noPut n q0 sp sl sc).mono ?_⟩⟩⟩
    rintro _ h3 ⟨rfl, rfl⟩
    refine ⟨_, rfl, nofun, fun _ => ⟨by kernel_rfl, (noPin n q0).mono ?_⟩⟩
    rintro _ h3 ⟨rfl, rfl⟩
    refine ⟨_, rfl, nofun, fun _ => ⟨by kernel_rfl, (noUnpin n q0).mono ?_⟩⟩
    rintro _ h3 ⟨rfl, rfl⟩
    refine ⟨_, rfl, nofun, fun _ => ⟨by kernel_rfl, (noForget n q0).mono ?_⟩⟩
    rintro _ h3 ⟨rfl, rfl⟩
    refine ⟨_, rfl, nofun, fun _ => ⟨by kernel_rfl, (noFlush n).mono ?_⟩⟩
    rintro _ h4 ⟨rfl, k4⟩
    have n4 := n.keep k4
    refine ⟨_, rfl, nofun, fun _ => ⟨by kernel_rfl, (noHeld n4).mono ?_⟩⟩
    rintro _ h5 ⟨rfl, k5⟩
    have n5 := n4.keep k5
    refine ⟨_, _, _, rfl, by kernel_rfl, (noChanged n5).mono ?_⟩
    rintro _ h6 ⟨rfl, k6⟩
    have n6 := n5.keep k6
    refine ⟨_, _, _, rfl, fun e => absurd e (by decide), fun _ => ⟨by kernel_rfl, (noHas n6 q0).mono ?_⟩⟩
    rintro _ h6 ⟨rfl, rfl⟩
    refine ⟨_, rfl, nofun, fun _ => ⟨by kernel_rfl, (noAll n6).mono ?_⟩⟩
    rintro _ h7 ⟨b1, rfl, hb1, k7, n7, _⟩
    refine ⟨_, rfl, by kernel_rfl, (noTold hb1 n7 9).mono ?_⟩
    rintro _ h8 ⟨rfl, k8⟩
    have kk := (((k4.trans' k5).trans' k6).trans' k7).trans' k8
    have wi : IntKind.wrap .i64 (i + 1) = i + 1 := w64 _ (by omega) (by omega)
    refine ⟨_, _, _, rfl, nofun, fun _ => ?_⟩
    rw [wi]
    refine ⟨⟨by omega, by omega, k3.trans' kk, l3.keep kk (by simp), z3.keep kk (by simp)⟩, ?_⟩
    show (2 - (i + 1)).toNat < (2 - i).toNat
    omega
  · rintro _ h4 ⟨rfl, k4⟩
    exact ⟨true, rfl, rfl, k3.trans' k4⟩

end Go.Proofs.Ytfapgccnhonoiaa

/- From a call over heaps to a given row: what all laws' rows need. -/
namespace Go.Proofs.Ytfapgccnhonoiaa
open Go.ChangeShapes Go.WideShapes Go.ChangeAt Go.RowKit

section
variable {P : Program} {H : Type} {enc : TypeId × Value → H}

theorem below_of {W W' : World} (hs : Sm W W') (k : Keep W.heap W'.heap []) : Below W.heap.size W W' :=
  ⟨hs.os, hs.tape, hs.output, k.size, fun b hb => k.same b hb (by simp)⟩

theorem trodAll_carry {W W' : World} {sp : Nat → Bool} {held : Bool} : ∀ {ts : List TypeId} {vs : List Value} {ds : List (DataW H)} {ps : List MemPlace}, DataW.TrodAll enc P W 0 sp held ts vs ds ps → (∀ p ∈ ps, W.sameAt W' p) → DataW.TrodAll enc P W' 0 sp held ts vs ds ps
  | [], [], [], _, h, _ => h
  | [], [], _ :: _, _, h, _ => h.elim
  | [], _ :: _, _, _, h, _ => h.elim
  | _ :: _, [], _, _, h, _ => h.elim
  | _ :: _, _ :: _, [], _, h, _ => h.elim
  | t :: ts, v :: vs, d :: ds, ps, h, hs => by
    obtain ⟨p, q, ⟨n, h1⟩, h2, rfl⟩ := h
    exact ⟨p, q, ⟨n, DataW.trod_carry n t _ _ h1 fun x hx => hs x (List.mem_append_left _ hx)⟩, trodAll_carry h2 fun x hx => hs x (List.mem_append_right _ hx), rfl⟩

/-- The law's row: true, and the arguments read as before. -/
theorem post_true {f : Func} {s : ChangeSpec} {W W' : World} {args : Array Value} {ds gs : List (DataW H)} {before : List MemPlace} (hK : Kids P (· < P.types.size)) (hF : ∀ t e, t < P.types.size → P.underlying t = some (.slice e) → 0 < P.cellsOf e)
    (hT : ∀ t ∈ f.params.toList, t < P.types.size) (hv : s.vars = []) (hW : DataW.Whole enc P f.params.toList s.vars false W args.toList ds gs before) (hB : Below W.heap.size W W')
    {tb : TypeId} (hrt : f.resultTypes = #[tb]) (htb : P.underlying tb = some .bool) (hres : (s.fn H (ds ++ gs)).results = [.lit (.bool true)]) (hargs : (s.fn H (ds ++ gs)).args = ds) (hvars : (s.fn H (ds ++ gs)).vars = []) :
    s.post enc P f false true false false W args (.bool true) W' := by
  have hlt := hW.lt
  have hW2 := hW
  obtain ⟨p, q, hA, hV, rfl, _, _⟩ := hW
  refine ⟨ds, gs, p ++ q, [], p, [], hW2, ?_, ?_, ?_, hB.frame _, nofun⟩
  · rw [hres, hrt]
    exact ⟨[], [], ⟨1, by simp [DataW.trod_step, DataW.trodStep, htb, Value.cells]⟩, rfl, rfl⟩
  · rw [hargs]
    refine trodAll_carry (DataW.TrodAll.respare hK hF hT hA fun x hx => ?_) fun x hx => hB.same (hlt x (List.mem_append_left _ hx))
    simpa using hlt x (List.mem_append_left _ hx)
  · rw [hvars, hv]
    rfl

/-- The call itself. -/
theorem calls_of {f : FuncId} {args : Array Value} {W : World} (hc : CallH P f args W.heap fun v h' => v = .bool true ∧ Keep W.heap h' []) {Q : Ending → World → Prop} (hq : ∀ W', Below W.heap.size W W' → Q (.returned (.bool true)) W') : Calls P f args W Q := by
  have h : CallsIn Fence.wide 0 P f args W Q := (hc W rfl).mono fun e W' ⟨v, he, hs, hv, hk⟩ => by
    rw [he, hv]
    exact hq W' (below_of hs hk)
  exact callsIn_wide.1 h

theorem row_of_cells {W : World} {a : Addr} {n : Nat} {cs : List Value} (hn : 0 < n) (h : W.cells? 0 a n = some cs) : ∃ b o, a = ⟨b, o, none⟩ ∧ b < W.heap.size ∧ rowAt W.heap a n = some cs := by
  obtain ⟨_, hlen, hcell⟩ := World.cells?_some h
  have c0 := hcell 0 (by omega)
  have e0 : a.add 0 = a := by simp [Addr.add]
  rw [e0, List.getElem?_eq_getElem (by omega)] at c0
  obtain ⟨b, o, sp⟩ := a
  have hsp : sp = none := by
    cases sp with
    | none => rfl
    | some x =>
      have : cellAt W.heap ⟨b, o, some x⟩ = some cs[0] := c0
      unfold cellAt at this
      split at this <;> simp at this
  subst hsp
  have get : ∀ i, i < n → cellAt W.heap ⟨b, o + i, none⟩ = cs[i]? := fun i hi => by
    have := hcell i hi
    rw [addr_add] at this
    exact this
  have g0 := get 0 hn
  rw [cellAt_get, List.getElem?_eq_getElem (by omega)] at g0
  cases hb : W.heap[b]? with
  | none => rw [hb] at g0; cases g0
  | some ob =>
    cases ob with
    | cells c e f =>
      refine ⟨b, o, rfl, (Array.getElem?_eq_some_iff.1 hb).1, ?_⟩
      have each : ∀ i, i < n → c[o + i]? = cs[i]? := fun i hi => by
        have := get i hi
        rw [cellAt_get, hb] at this
        exact this
      have hsz : o + n ≤ c.size := by
        have := each (n - 1) (by omega)
        rw [List.getElem?_eq_getElem (by omega)] at this
        have := (Array.getElem?_eq_some_iff.1 this).1
        omega
      unfold rowAt
      simp only [hb]
      rw [if_pos ⟨rfl, hsz⟩]
      congr 1
      apply List.ext_getElem?
      intro i
      rw [List.getElem?_take, List.getElem?_drop]
      by_cases hi : i < n
      · rw [if_pos hi, ← each i hi]
        simp
      · rw [if_neg hi, List.getElem?_eq_none (by omega)]
    | _ => rw [hb] at g0; cases g0

end
end Go.Proofs.Ytfapgccnhonoiaa

/- The acts of a script, out of what the given row says of the arguments. -/
namespace Go.Proofs.Ytfapgccnhonoiaa
open Go.ChangeShapes Go.WideShapes Go.ChangeAt Go.RowKit

section
variable {P : Program} {H : Type} {enc : TypeId × Value → H}

theorem ops_of {W : World} {t e : TypeId} {f0 f1 f2 f3 : Field} (ht : P.underlying t = some (.slice e)) (he : P.underlying e = some (.struct #[f0, f1, f2, f3])) (ce : P.cellsOf e = 4)
    (o0 : f0.offset = 0) (o1 : f1.offset = 1) (o2 : f2.offset = 2) (o3 : f3.offset = 3) (c0 : P.cellsOf f0.type = 1) (c1 : P.cellsOf f1.type = 1) (c2 : P.cellsOf f2.type = 1) (c3 : P.cellsOf f3.type = 1)
    (u0 : P.underlying f0.type = some (.int .i64)) (u1 : P.underlying f1.type = some (.int .i64)) (u2 : P.underlying f2.type = some (.int .u8)) (u3 : P.underlying f3.type = some (.int .i64))
    {sp : Option Addr} {l c : Nat} {d : DataW H} {ps : List MemPlace} (h : DataW.Trod enc P W 0 (fun _ => true) true t (.slice sp l c) d ps) : OpsAt W.heap sp l c := by
  obtain ⟨fuel, h⟩ := h
  rcases Go.Deep.open_slice ht h with ⟨hcs, _⟩ | ⟨a, len, cap, m, n, D, Pl, hcs, _, hl, _, hm, _, hx⟩
  · simp [Value.cells] at hcs
    obtain ⟨rfl, rfl, rfl⟩ := hcs
    exact ⟨Nat.le_refl _, .inl rfl⟩
  · simp [Value.cells] at hcs
    obtain ⟨rfl, rfl, rfl⟩ := hcs
    refine ⟨hl, ?_⟩
    by_cases h0 : l = 0
    · exact .inl h0
    right
    simp only [if_true] at hm
    subst hm
    have each : ∀ i, i < l → ∃ b o, a.add (i * 4) = ⟨b, o, none⟩ ∧ b < W.heap.size ∧ ∃ d p cc n, rowAt W.heap (a.add (i * 4)) 4 = some [i64 d, i64 p, .int .u8 cc, i64 n] := by
      intro i hi
      obtain ⟨cs', h1, h2⟩ := hx i (by omega)
      rw [ce] at h1
      obtain ⟨b, o, hab, hb, hrow⟩ := row_of_cells (by omega) h1
      obtain ⟨_, hlen, _⟩ := World.cells?_some h1
      obtain ⟨xs, k, hk, hxy, _, hxl, hf⟩ := DataW.trod_struct he h2
      refine ⟨b, o, hab, hb, ?_⟩
      match xs, hxl, cs', hlen with
      | [y0, y1, y2, y3], _, [v0, v1, v2, v3], _ =>
        have g0 := hf 0 f0 rfl
        have g1 := hf 1 f1 rfl
        have g2 := hf 2 f2 rfl
        have g3 := hf 3 f3 rfl
        simp [o0, o1, o2, o3, c0, c1, c2, c3] at g0 g1 g2 g3
        obtain ⟨n0, e0, _⟩ := DataW.trod_int u0 g0
        obtain ⟨n1, e1, _⟩ := DataW.trod_int u1 g1
        obtain ⟨n2, e2, _⟩ := DataW.trod_int u2 g2
        obtain ⟨n3, e3, _⟩ := DataW.trod_int u3 g3
        simp only [List.cons.injEq, and_true] at e0 e1 e2 e3
        subst e0 e1 e2 e3
        exact ⟨n0, n1, n2, n3, hrow⟩
    obtain ⟨b, o, hab, hb, _⟩ := each 0 (by omega)
    have e0 : a.add (0 * 4) = a := by simp [Addr.add]
    rw [e0] at hab
    subst hab
    refine ⟨b, o, rfl, hb, fun i hi => ?_⟩
    obtain ⟨_, _, _, _, d, p, cc, n, hrow⟩ := each i hi
    rw [addr_add] at hrow
    exact ⟨d, p, cc, n, hrow⟩

end
end Go.Proofs.Ytfapgccnhonoiaa

/- What every row of this seat needs of the program. -/
namespace Go.Proofs.Ytfapgccnhonoiaa
open Go.ChangeShapes Go.WideShapes Go.ChangeAt Go.RowKit

theorem own0 : ownKnob Try.prog.godebug = none := by kernel_rfl
theorem kids0 : Kids Try.prog (· < Try.prog.types.size) := kids_rows (by kernel_rfl) (by kernel_rfl)
theorem full0 : ∀ t e, t < Try.prog.types.size → Try.prog.underlying t = some (.slice e) → 0 < Try.prog.cellsOf e := slices_full_of Try.prog (by kernel_rfl)

theorem u8_of {n : Int} (h : (Lit.int .u8 n).wf = true) : 0 ≤ n ∧ n < 256 := by
  simp only [Lit.wf, Bool.and_eq_true, decide_eq_true_eq] at h
  have h1 : (0 : Int) ≤ n := h.1
  have h2 : n ≤ (255 : Int) := h.2
  omega

end Go.Proofs.Ytfapgccnhonoiaa

/- CacheNone: for every input the law returns true, and its arguments read afterwards as before. No condition. -/
namespace Go.Proofs.Ytfapgccnhonoiaa
open Go.ChangeShapes Go.WideShapes Go.ChangeAt Go.RowKit

theorem paramsP : Try.f6.params = #[3, 32] := by kernel_rfl

set_option maxRecDepth 100000 in
theorem lifted (os : Os) (started : os.Started) (H : Type) (enc : TypeId × Value → H) :
    ReturnsInHanded {} Try.checked os 6 .any (Rows.cacheNoneSpec.pre6 enc Try.prog Try.f6 Rows.cacheNoneRow.domain false) (Rows.cacheNoneSpec.post enc Try.prog Try.f6 false true false false) := by
  refine returnsInHanded_of_change (C := Try.checked) own0 started (by kernel_rfl) Try.func6
    (ChangeSpec.witness6 (enc := enc) (C := Try.checked) false ⟨#[], #[.int .i64 0, .slice none 0 0], []⟩ 8 (by kernel_rfl) (by kernel_rfl) (by kernel_rfl) (by kernel_rfl)) ?_
  intro W base args ds gs before hval0 hW hcnd _
  have hval : ∀ (j : Nat) t v, Try.f6.params[j]? = some t → args[j]? = some v → Value.okWide Try.prog W .any base t v := hval0
  have hW' := hW
  obtain ⟨p, q, hA0, hV, rfl, hfz, hnd⟩ := hW
  have hA : DataW.TrodAll enc Try.prog W 0 (fun _ => true) true Try.f6.params.toList args.toList ds p := hA0
  rw [paramsP] at hA hval
  obtain ⟨v0, v1, d0, d1, p0, p1, rfl, rfl, rfl, h0, h1⟩ := trodAll_two hA
  obtain ⟨rfl, rfl⟩ := trodVars_none hV
  obtain ⟨n, rfl, rfl, rfl, wn⟩ := open_int Try.underlying3 (hval 0 3 v0 rfl rfl) h0
  obtain ⟨sp, sl, sc, rfl⟩ := okWide_slice Try.underlying32 (hval 1 32 v1 rfl rfl)
  refine calls_of (CacheNone_ok W.heap n sp sl sc) fun W' hB => ⟨_, rfl, ?_⟩
  exact post_true (tb := 4) kids0 full0 (by rw [paramsP]; decide +kernel) rfl hW' hB (by kernel_rfl) Try.underlying4 rfl rfl rfl

theorem cacheNone_holds : Rows.CacheNoneSaid :=
  OpenClaim.holds_of_wide (p := Try.pinned) (s := Rows.cacheNoneSpec) (c := Rows.cacheNoneRow) 6 Try.f6 rfl rfl rfl rfl rfl rfl rfl ⟨rfl, rfl, rfl, rfl, rfl⟩ rfl rfl rfl rfl rfl (by kernel_rfl) Try.func6 (by kernel_rfl)
    (of_decide_eq_true (by kernel_rfl)) (by unfold Func.isWrapper; first | (rw [if_pos (by decide +kernel)]; kernel_rfl) | (rw [if_neg (by decide +kernel)]; exact ⟨rfl, rfl⟩))
    (fun os started H enc _ => lifted os started H enc)

end Go.Proofs.Ytfapgccnhonoiaa

/- What each function of the reference's cache does; no condition beyond those each theorem states. -/
import Derived.Test.YtfapgccnhonoiaaGreatMh

/- The conditions of some functions of the program, as text (printed by a tool of this claim's author, wip/tool), and that they are enough for a call. -/
set_option linter.unusedVariables false
namespace Go.Proofs.YtfapgccnhonoiaaGreat

/-- incipit/incipitref05.New -/
def rcNew_vc (q0 : Nat) (q1 : Int) (h : Heap) (R : Value → Heap → Prop) : Prop :=
  (false = true → R (Value.tuple { toList := [Value.pointer none, Value.int IntKind.i64 (2 : Int)] : Array Value }) h) ∧
 (false = false →
  (decide (q1 < (2 : Int)) = true → R (Value.tuple { toList := [Value.pointer none, Value.int IntKind.i64 (1 : Int)] : Array Value }) h) ∧
   (decide (q1 < (2 : Int)) = false →
    (decide (q1 > (64 : Int)) = true → R (Value.tuple { toList := [Value.pointer none, Value.int IntKind.i64 (1 : Int)] : Array Value }) h) ∧
     (decide (q1 > (64 : Int)) = false →
      ∀ (n1 : Nat) (rec1 : Array Obj),
       n1 = Array.size h →
        rec1 = Array.push h (Obj.cells { toList := [Value.pointer (some { block := q0, off := (0 : Nat) : Addr }), Value.int IntKind.i64 q1, Value.slice none (0 : Nat) (0 : Nat), Value.int IntKind.i64 (0 : Int), Value.int IntKind.i64 (0 : Int)] : Array Value } (66 : Nat)) →
         R (Value.tuple { toList := [Value.pointer (some { block := n1, off := (0 : Nat) : Addr }), Value.int IntKind.i64 (0 : Int)] : Array Value }) rec1)))

theorem rcNew_call (q0 : Nat) (q1 : Int) {h : Heap} {R : Value → Heap → Prop} (H : rcNew_vc q0 q1 h R) : CallH Tryz.prog 8 ⟨[.pointer (some ⟨q0, 0, none⟩), .int .i64 q1]⟩ h R :=
  callH_of_dCode tabOK mixed [(.pointer (some ⟨q0, 0, none⟩), false), (.int .i64 q1, false)] Tryz.func8 (c := bodyC Tryz.f8) (by kernel_rfl) (by kernel_rfl : Tryz.f8.ntmps = 18) rfl
    (Eq.mp (by kernel_rfl : rcNew_vc q0 q1 h R = dCode Tryz.prog T ⟨[], [], [], [], []⟩ (bodyC Tryz.f8) none (dEnd T (Tryz.f8.results.toList) R) (startE 18 [(.pointer (some ⟨q0, 0, none⟩), false), (.int .i64 q1, false)]) h) H)

/-- (*incipit/incipitref05.Cache).Get -/
def rcGet_vc (q0 : Nat) (q1 : Int) (h : Heap) (R : Value → Heap → Prop) : Prop :=
  ∃ (p1 : Option Addr),
 cellAt h { block := q0, off := (0 : Nat) : Addr } = some (Value.pointer p1) ∧
  entersB Tryz.prog (50 : Nat) = true ∧
   CallH Tryz.prog (50 : Nat) { toList := [Value.pointer p1, Value.int IntKind.i64 q1] : Array Value } h fun (v1 : Value) (h1 : Heap) =>
    ∃ (t1 : Bool),
     v1 = Value.bool t1 ∧
      ((!t1) = true → R (Value.tuple { toList := [Value.slice none (0 : Nat) (0 : Nat), Value.int IntKind.i64 (1 : Int)] : Array Value }) h1) ∧
       ((!t1) = false →
        entersB Tryz.prog (41 : Nat) = true ∧
         CallH Tryz.prog (41 : Nat) { toList := [Value.pointer (some { block := q0, off := (0 : Nat) : Addr }), Value.int IntKind.i64 q1] : Array Value } h1 fun (v2 : Value) (h2 : Heap) =>
          ∃ (i1 : Int),
           v2 = Value.int IntKind.i64 i1 ∧
            (decide (i1 ≥ (0 : Int)) = true →
              ∃ (i2 : Int),
               cellAt h2 { block := q0, off := (3 : Nat) : Addr } = some (Value.int IntKind.i64 i2) ∧
                true = true ∧
                 okAt h2 { block := q0, off := (3 : Nat) : Addr } ∧
                  ∀ (h3 : Heap),
                   h3 = upd h2 { block := q0, off := (3 : Nat) : Addr } (Value.int IntKind.i64 (IntKind.wrap IntKind.i64 (i2 + (1 : Int)))) →
                    ∃ (p2 : Option Addr),
                     ∃ (n1 : Nat),
                      ∃ (n2 : Nat),
                       cellAt h3 { block := q0, off := (2 : Nat) : Addr } = some (Value.slice p2 n1 n2) ∧
                        match p2 with
                        | some a1 =>
                         ((0 : Int) ≤ i1 ∧ i1 < (↑n1 : Int)) ∧
                          ∃ (i3 : Int),
                           ∃ (p4 : Option Addr),
                            ∃ (n3 : Nat),
                             ∃ (n4 : Nat),
                              ∃ (t2 : Bool),
                               ∃ (i4 : Int),
                                rowAt h3 (Addr.add a1 (Int.toNat i1 * (4 : Nat))) (4 : Nat) = some [Value.int IntKind.i64 i3, Value.slice p4 n3 n4, Value.bool t2, Value.int IntKind.i64 i4] ∧
                                 entersB Tryz.prog (63 : Nat) = true ∧
                                  CallH Tryz.prog (63 : Nat) { toList := [Value.pointer (some { block := q0, off := (0 : Nat) : Addr }), Value.agg { toList := [Value.int IntKind.i64 i3, Value.slice p4 n3 n4, Value.bool t2, Value.int IntKind.i64 i4] : Array Value }] : Array Value } h3
                                   fun (v3 : Value) (h4 : Heap) =>
                                   v3 = Value.tuple { toList := [] : Array Value } ∧
                                    ∃ (p5 : Option Addr),
                                     ∃ (n5 : Nat),
                                      ∃ (n6 : Nat),
                                       cellAt h4 { block := q0, off := (2 : Nat) : Addr } = some (Value.slice p5 n5 n6) ∧
                                        match p5 with
                                        | some a2 =>
                                         ((0 : Int) ≤ (0 : Int) ∧ (0 : Int) < (↑n5 : Int)) ∧
                                          ∃ (p6 : Option Addr),
                                           ∃ (n7 : Nat),
                                            ∃ (n8 : Nat),
                                             cellAt h4 (Addr.add a2 (1 : Nat)) = some (Value.slice p6 n7 n8) ∧
                                              entersB Tryz.prog (51 : Nat) = true ∧
                                               CallH Tryz.prog (51 : Nat) { toList := [Value.slice none (0 : Nat) (0 : Nat), Value.slice p6 n7 n8] : Array Value } h4 fun (v4 : Value) (h5 : Heap) =>
                                                ∃ (p7 : Option Addr), ∃ (n9 : Nat), ∃ (n10 : Nat), v4 = Value.slice p7 n9 n10 ∧ R (Value.tuple { toList := [Value.slice p7 n9 n10, Value.int IntKind.i64 (0 : Int)] : Array Value }) h5
                                        | none => False
                        | none => False) ∧
             (decide (i1 ≥ (0 : Int)) = false →
              ∃ (i5 : Int),
               cellAt h2 { block := q0, off := (4 : Nat) : Addr } = some (Value.int IntKind.i64 i5) ∧
                true = true ∧
                 okAt h2 { block := q0, off := (4 : Nat) : Addr } ∧
                  ∀ (h6 : Heap),
                   h6 = upd h2 { block := q0, off := (4 : Nat) : Addr } (Value.int IntKind.i64 (IntKind.wrap IntKind.i64 (i5 + (1 : Int)))) →
                    entersB Tryz.prog (64 : Nat) = true ∧
                     CallH Tryz.prog (64 : Nat) { toList := [Value.pointer (some { block := q0, off := (0 : Nat) : Addr })] : Array Value } h6 fun (v5 : Value) (h7 : Heap) =>
                      ∃ (i6 : Int),
                       v5 = Value.int IntKind.i64 i6 ∧
                        ((i6 != (0 : Int)) = true → R (Value.tuple { toList := [Value.slice none (0 : Nat) (0 : Nat), Value.int IntKind.i64 i6] : Array Value }) h7) ∧
                         ((i6 != (0 : Int)) = false →
                          ∃ (p8 : Option Addr),
                           cellAt h7 { block := q0, off := (0 : Nat) : Addr } = some (Value.pointer p8) ∧
                            entersB Tryz.prog (14 : Nat) = true ∧
                             CallH Tryz.prog (14 : Nat) { toList := [Value.pointer p8, Value.int IntKind.i64 q1] : Array Value } h7 fun (v6 : Value) (h8 : Heap) =>
                              ∃ (p9 : Option Addr),
                               ∃ (n11 : Nat),
                                ∃ (n12 : Nat),
                                 ∃ (i7 : Int),
                                  v6 = Value.tuple { toList := [Value.slice p9 n11 n12, Value.int IntKind.i64 i7] : Array Value } ∧
                                   ((i7 != (0 : Int)) = true → R (Value.tuple { toList := [Value.slice none (0 : Nat) (0 : Nat), Value.int IntKind.i64 i7] : Array Value }) h8) ∧
                                    ((i7 != (0 : Int)) = false →
                                     entersB Tryz.prog (63 : Nat) = true ∧
                                      CallH Tryz.prog (63 : Nat) { toList := [Value.pointer (some { block := q0, off := (0 : Nat) : Addr }), Value.agg { toList := [Value.int IntKind.i64 q1, Value.slice p9 n11 n12, Value.bool false, Value.int IntKind.i64 (0 : Int)] : Array Value }] : Array Value } h8
                                       fun (v7 : Value) (h9 : Heap) =>
                                       v7 = Value.tuple { toList := [] : Array Value } ∧
                                        entersB Tryz.prog (51 : Nat) = true ∧
                                         CallH Tryz.prog (51 : Nat) { toList := [Value.slice none (0 : Nat) (0 : Nat), Value.slice p9 n11 n12] : Array Value } h9 fun (v8 : Value) (h10 : Heap) =>
                                          ∃ (p10 : Option Addr), ∃ (n13 : Nat), ∃ (n14 : Nat), v8 = Value.slice p10 n13 n14 ∧ R (Value.tuple { toList := [Value.slice p10 n13 n14, Value.int IntKind.i64 (0 : Int)] : Array Value }) h10))))

theorem rcGet_call (q0 : Nat) (q1 : Int) {h : Heap} {R : Value → Heap → Prop} (H : rcGet_vc q0 q1 h R) : CallH Tryz.prog 22 ⟨[.pointer (some ⟨q0, 0, none⟩), .int .i64 q1]⟩ h R :=
  callH_of_dCode tabOK mixed [(.pointer (some ⟨q0, 0, none⟩), false), (.int .i64 q1, false)] Tryz.func22 (c := bodyC Tryz.f22) (by kernel_rfl) (by kernel_rfl : Tryz.f22.ntmps = 79) rfl
    (Eq.mp (by kernel_rfl : rcGet_vc q0 q1 h R = dCode Tryz.prog T ⟨[], [], [], [], []⟩ (bodyC Tryz.f22) none (dEnd T (Tryz.f22.results.toList) R) (startE 79 [(.pointer (some ⟨q0, 0, none⟩), false), (.int .i64 q1, false)]) h) H)

/-- (*incipit/incipitref05.Cache).Put -/
def rcPut_vc (q0 : Nat) (q1 : Int) (q2p : Option Addr) (q2l : Nat) (q2c : Nat) (h : Heap) (R : Value → Heap → Prop) : Prop :=
  ∃ (p1 : Option Addr),
 cellAt h { block := q0, off := (0 : Nat) : Addr } = some (Value.pointer p1) ∧
  entersB Tryz.prog (50 : Nat) = true ∧
   CallH Tryz.prog (50 : Nat) { toList := [Value.pointer p1, Value.int IntKind.i64 q1] : Array Value } h fun (v1 : Value) (h1 : Heap) =>
    ∃ (t1 : Bool),
     v1 = Value.bool t1 ∧
      ((!t1) = true → R (Value.int IntKind.i64 (1 : Int)) h1) ∧
       ((!t1) = false →
        (((↑q2l : Int) != (256 : Int)) = true → R (Value.int IntKind.i64 (1 : Int)) h1) ∧
         (((↑q2l : Int) != (256 : Int)) = false →
          ∀ (n1 : Nat) (rec1 : Array Obj),
           n1 = Array.size h1 →
            rec1 = Array.push h1 (Obj.cells { toList := [Value.int IntKind.i64 (Int.ofNat (0)), Value.slice none (0) (0), Value.bool false, Value.int IntKind.i64 (Int.ofNat (0))] : Array Value } (76 : Nat)) →
             (3 : Nat) + (1 : Nat) = (4 : Nat) ∧
              (∀ (v2 : Value), v2 ∈ [Value.int IntKind.i64 q1, Value.slice none (0 : Nat) (0 : Nat), Value.bool false, Value.int IntKind.i64 (0 : Int)] → isCell v2 = true) ∧
               okRow rec1 { block := n1, off := (0 : Nat) : Addr } (4 : Nat) ∧
                TK.st [(0, 3), (1, 46), (2, 4), (3, 3)] ≠ TK.oth ∧
                 ∀ (h2 : Heap),
                  h2 = updRow rec1 { block := n1, off := (0 : Nat) : Addr } (0 : Nat) [Value.int IntKind.i64 q1, Value.slice none (0 : Nat) (0 : Nat), Value.bool false, Value.int IntKind.i64 (0 : Int)] →
                   entersB Tryz.prog (41 : Nat) = true ∧
                    CallH Tryz.prog (41 : Nat) { toList := [Value.pointer (some { block := q0, off := (0 : Nat) : Addr }), Value.int IntKind.i64 q1] : Array Value } h2 fun (v3 : Value) (h3 : Heap) =>
                     ∃ (i1 : Int),
                      v3 = Value.int IntKind.i64 i1 ∧
                       (decide (i1 ≥ (0 : Int)) = true →
                         ∃ (i2 : Int),
                          cellAt h3 { block := q0, off := (3 : Nat) : Addr } = some (Value.int IntKind.i64 i2) ∧
                           true = true ∧
                            okAt h3 { block := q0, off := (3 : Nat) : Addr } ∧
                             ∀ (h4 : Heap),
                              h4 = upd h3 { block := q0, off := (3 : Nat) : Addr } (Value.int IntKind.i64 (IntKind.wrap IntKind.i64 (i2 + (1 : Int)))) →
                               ∃ (p2 : Option Addr),
                                ∃ (n2 : Nat),
                                 ∃ (n3 : Nat),
                                  cellAt h4 { block := q0, off := (2 : Nat) : Addr } = some (Value.slice p2 n2 n3) ∧
                                   match p2 with
                                   | some a1 =>
                                    ((0 : Int) ≤ i1 ∧ i1 < (↑n2 : Int)) ∧
                                     ∃ (i3 : Int),
                                      ∃ (p4 : Option Addr),
                                       ∃ (n4 : Nat),
                                        ∃ (n5 : Nat),
                                         ∃ (t2 : Bool),
                                          ∃ (i4 : Int),
                                           rowAt h4 (Addr.add a1 (Int.toNat i1 * (4 : Nat))) (4 : Nat) = some [Value.int IntKind.i64 i3, Value.slice p4 n4 n5, Value.bool t2, Value.int IntKind.i64 i4] ∧
                                            (0 : Nat) + (1 : Nat) + (1 : Nat) + (1 : Nat) + (1 : Nat) = (4 : Nat) ∧
                                             (∀ (v4 : Value), v4 ∈ [Value.int IntKind.i64 i3, Value.slice p4 n4 n5, Value.bool t2, Value.int IntKind.i64 i4] → isCell v4 = true) ∧
                                              okRow h4 { block := n1, off := (0 : Nat) : Addr } (4 : Nat) ∧
                                               TK.st [(0, 3), (1, 46), (2, 4), (3, 3)] ≠ TK.oth ∧
                                                ∀ (h5 : Heap),
                                                 h5 = updRow h4 { block := n1, off := (0 : Nat) : Addr } (0 : Nat) [Value.int IntKind.i64 i3, Value.slice p4 n4 n5, Value.bool t2, Value.int IntKind.i64 i4] →
                                                  entersB Tryz.prog (51 : Nat) = true ∧
                                                   CallH Tryz.prog (51 : Nat) { toList := [Value.slice none (0 : Nat) (0 : Nat), Value.slice q2p q2l q2c] : Array Value } h5 fun (v5 : Value) (h6 : Heap) =>
                                                    ∃ (p5 : Option Addr),
                                                     ∃ (n6 : Nat),
                                                      ∃ (n7 : Nat),
                                                       v5 = Value.slice p5 n6 n7 ∧
                                                        true = true ∧
                                                         okAt h6 { block := n1, off := (1 : Nat) : Addr } ∧
                                                          ∀ (h7 : Heap),
                                                           h7 = upd h6 { block := n1, off := (1 : Nat) : Addr } (Value.slice p5 n6 n7) →
                                                            true = true ∧
                                                             okAt h7 { block := n1, off := (2 : Nat) : Addr } ∧
                                                              ∀ (h8 : Heap),
                                                               h8 = upd h7 { block := n1, off := (2 : Nat) : Addr } (Value.bool true) →
                                                                ∃ (i5 : Int),
                                                                 ∃ (p6 : Option Addr),
                                                                  ∃ (n8 : Nat),
                                                                   ∃ (n9 : Nat),
                                                                    ∃ (t3 : Bool),
                                                                     ∃ (i6 : Int),
                                                                      rowAt h8 { block := n1, off := (0 : Nat) : Addr } (4 : Nat) = some [Value.int IntKind.i64 i5, Value.slice p6 n8 n9, Value.bool t3, Value.int IntKind.i64 i6] ∧
                                                                       entersB Tryz.prog (63 : Nat) = true ∧
                                                                        CallH Tryz.prog (63 : Nat)
                                                                         { toList := [Value.pointer (some { block := q0, off := (0 : Nat) : Addr }), Value.agg { toList := [Value.int IntKind.i64 i5, Value.slice p6 n8 n9, Value.bool t3, Value.int IntKind.i64 i6] : Array Value }] : Array Value } h8
                                                                         fun (v6 : Value) (h9 : Heap) => v6 = Value.tuple { toList := [] : Array Value } ∧ R (Value.int IntKind.i64 (0 : Int)) h9
                                   | none => False) ∧
                        (decide (i1 ≥ (0 : Int)) = false →
                         ∃ (i7 : Int),
                          cellAt h3 { block := q0, off := (4 : Nat) : Addr } = some (Value.int IntKind.i64 i7) ∧
                           true = true ∧
                            okAt h3 { block := q0, off := (4 : Nat) : Addr } ∧
                             ∀ (h10 : Heap),
                              h10 = upd h3 { block := q0, off := (4 : Nat) : Addr } (Value.int IntKind.i64 (IntKind.wrap IntKind.i64 (i7 + (1 : Int)))) →
                               entersB Tryz.prog (64 : Nat) = true ∧
                                CallH Tryz.prog (64 : Nat) { toList := [Value.pointer (some { block := q0, off := (0 : Nat) : Addr })] : Array Value } h10 fun (v7 : Value) (h11 : Heap) =>
                                 ∃ (i8 : Int),
                                  v7 = Value.int IntKind.i64 i8 ∧
                                   ((i8 != (0 : Int)) = true → R (Value.int IntKind.i64 i8) h11) ∧
                                    ((i8 != (0 : Int)) = false →
                                     entersB Tryz.prog (51 : Nat) = true ∧
                                      CallH Tryz.prog (51 : Nat) { toList := [Value.slice none (0 : Nat) (0 : Nat), Value.slice q2p q2l q2c] : Array Value } h11 fun (v8 : Value) (h12 : Heap) =>
                                       ∃ (p7 : Option Addr),
                                        ∃ (n10 : Nat),
                                         ∃ (n11 : Nat),
                                          v8 = Value.slice p7 n10 n11 ∧
                                           true = true ∧
                                            okAt h12 { block := n1, off := (1 : Nat) : Addr } ∧
                                             ∀ (h13 : Heap),
                                              h13 = upd h12 { block := n1, off := (1 : Nat) : Addr } (Value.slice p7 n10 n11) →
                                               true = true ∧
                                                okAt h13 { block := n1, off := (2 : Nat) : Addr } ∧
                                                 ∀ (h14 : Heap),
                                                  h14 = upd h13 { block := n1, off := (2 : Nat) : Addr } (Value.bool true) →
                                                   ∃ (i9 : Int),
                                                    ∃ (p8 : Option Addr),
                                                     ∃ (n12 : Nat),
                                                      ∃ (n13 : Nat),
                                                       ∃ (t4 : Bool),
                                                        ∃ (i10 : Int),
                                                         rowAt h14 { block := n1, off := (0 : Nat) : Addr } (4 : Nat) = some [Value.int IntKind.i64 i9, Value.slice p8 n12 n13, Value.bool t4, Value.int IntKind.i64 i10] ∧
                                                          entersB Tryz.prog (63 : Nat) = true ∧
                                                           CallH Tryz.prog (63 : Nat)
                                                            { toList := [Value.pointer (some { block := q0, off := (0 : Nat) : Addr }), Value.agg { toList := [Value.int IntKind.i64 i9, Value.slice p8 n12 n13, Value.bool t4, Value.int IntKind.i64 i10] : Array Value }] : Array Value } h14
                                                            fun (v9 : Value) (h15 : Heap) => v9 = Value.tuple { toList := [] : Array Value } ∧ R (Value.int IntKind.i64 (0 : Int)) h15))))

theorem rcPut_call (q0 : Nat) (q1 : Int) (q2p : Option Addr) (q2l : Nat) (q2c : Nat) {h : Heap} {R : Value → Heap → Prop} (H : rcPut_vc q0 q1 q2p q2l q2c h R) : CallH Tryz.prog 23 ⟨[.pointer (some ⟨q0, 0, none⟩), .int .i64 q1, .slice q2p q2l q2c]⟩ h R :=
  callH_of_dCode tabOK mixed [(.pointer (some ⟨q0, 0, none⟩), false), (.int .i64 q1, false), (.slice q2p q2l q2c, false)] Tryz.func23 (c := bodyC Tryz.f23) (by kernel_rfl) (by kernel_rfl : Tryz.f23.ntmps = 64) rfl
    (Eq.mp (by kernel_rfl : rcPut_vc q0 q1 q2p q2l q2c h R = dCode Tryz.prog T ⟨[], [], [], [], []⟩ (bodyC Tryz.f23) none (dEnd T (Tryz.f23.results.toList) R) (startE 64 [(.pointer (some ⟨q0, 0, none⟩), false), (.int .i64 q1, false), (.slice q2p q2l q2c, false)]) h) H)

/-- (*incipit/incipitref05.Cache).Pin -/
def rcPin_vc (q0 : Nat) (q1 : Int) (h : Heap) (R : Value → Heap → Prop) : Prop :=
  entersB Tryz.prog (41 : Nat) = true ∧
 CallH Tryz.prog (41 : Nat) { toList := [Value.pointer (some { block := q0, off := (0 : Nat) : Addr }), Value.int IntKind.i64 q1] : Array Value } h fun (v1 : Value) (h1 : Heap) =>
  ∃ (i1 : Int),
   v1 = Value.int IntKind.i64 i1 ∧
    (decide (i1 < (0 : Int)) = true → R (Value.int IntKind.i64 (4 : Int)) h1) ∧
     (decide (i1 < (0 : Int)) = false →
      ∃ (p1 : Option Addr),
       ∃ (n1 : Nat),
        ∃ (n2 : Nat),
         cellAt h1 { block := q0, off := (2 : Nat) : Addr } = some (Value.slice p1 n1 n2) ∧
          ∃ (p2 : Option Addr),
           ∃ (n3 : Nat),
            ∃ (n4 : Nat),
             cellAt h1 { block := q0, off := (2 : Nat) : Addr } = some (Value.slice p2 n3 n4) ∧
              match p2 with
              | some a1 =>
               ((0 : Int) ≤ i1 ∧ i1 < (↑n3 : Int)) ∧
                ∃ (i2 : Int),
                 cellAt h1 (Addr.add (Addr.add a1 (Int.toNat i1 * (4 : Nat))) (3 : Nat)) = some (Value.int IntKind.i64 i2) ∧
                  match p1 with
                  | some a2 =>
                   ((0 : Int) ≤ i1 ∧ i1 < (↑n1 : Int)) ∧
                    true = true ∧
                     okAt h1 (Addr.add (Addr.add a2 (Int.toNat i1 * (4 : Nat))) (3 : Nat)) ∧ ∀ (h2 : Heap), h2 = upd h1 (Addr.add (Addr.add a2 (Int.toNat i1 * (4 : Nat))) (3 : Nat)) (Value.int IntKind.i64 (IntKind.wrap IntKind.i64 (i2 + (1 : Int)))) → R (Value.int IntKind.i64 (0 : Int)) h2
                  | none => False
              | none => False)

theorem rcPin_call (q0 : Nat) (q1 : Int) {h : Heap} {R : Value → Heap → Prop} (H : rcPin_vc q0 q1 h R) : CallH Tryz.prog 25 ⟨[.pointer (some ⟨q0, 0, none⟩), .int .i64 q1]⟩ h R :=
  callH_of_dCode tabOK mixed [(.pointer (some ⟨q0, 0, none⟩), false), (.int .i64 q1, false)] Tryz.func25 (c := bodyC Tryz.f25) (by kernel_rfl) (by kernel_rfl : Tryz.f25.ntmps = 27) rfl
    (Eq.mp (by kernel_rfl : rcPin_vc q0 q1 h R = dCode Tryz.prog T ⟨[], [], [], [], []⟩ (bodyC Tryz.f25) none (dEnd T (Tryz.f25.results.toList) R) (startE 27 [(.pointer (some ⟨q0, 0, none⟩), false), (.int .i64 q1, false)]) h) H)

/-- (*incipit/incipitref05.Cache).Unpin -/
def rcUnpin_vc (q0 : Nat) (q1 : Int) (h : Heap) (R : Value → Heap → Prop) : Prop :=
  entersB Tryz.prog (41 : Nat) = true ∧
 CallH Tryz.prog (41 : Nat) { toList := [Value.pointer (some { block := q0, off := (0 : Nat) : Addr }), Value.int IntKind.i64 q1] : Array Value } h fun (v1 : Value) (h1 : Heap) =>
  ∃ (i1 : Int),
   v1 = Value.int IntKind.i64 i1 ∧
    (decide (i1 < (0 : Int)) = true → R (Value.int IntKind.i64 (4 : Int)) h1) ∧
     (decide (i1 < (0 : Int)) = false →
      ∃ (p1 : Option Addr),
       ∃ (n1 : Nat),
        ∃ (n2 : Nat),
         cellAt h1 { block := q0, off := (2 : Nat) : Addr } = some (Value.slice p1 n1 n2) ∧
          match p1 with
          | some a1 =>
           ((0 : Int) ≤ i1 ∧ i1 < (↑n1 : Int)) ∧
            ∃ (i2 : Int),
             cellAt h1 (Addr.add (Addr.add a1 (Int.toNat i1 * (4 : Nat))) (3 : Nat)) = some (Value.int IntKind.i64 i2) ∧
              ((i2 == (0 : Int)) = true → R (Value.int IntKind.i64 (4 : Int)) h1) ∧
               ((i2 == (0 : Int)) = false →
                ∃ (p3 : Option Addr),
                 ∃ (n3 : Nat),
                  ∃ (n4 : Nat),
                   cellAt h1 { block := q0, off := (2 : Nat) : Addr } = some (Value.slice p3 n3 n4) ∧
                    ∃ (p4 : Option Addr),
                     ∃ (n5 : Nat),
                      ∃ (n6 : Nat),
                       cellAt h1 { block := q0, off := (2 : Nat) : Addr } = some (Value.slice p4 n5 n6) ∧
                        match p4 with
                        | some a2 =>
                         ((0 : Int) ≤ i1 ∧ i1 < (↑n5 : Int)) ∧
                          ∃ (i3 : Int),
                           cellAt h1 (Addr.add (Addr.add a2 (Int.toNat i1 * (4 : Nat))) (3 : Nat)) = some (Value.int IntKind.i64 i3) ∧
                            match p3 with
                            | some a3 =>
                             ((0 : Int) ≤ i1 ∧ i1 < (↑n3 : Int)) ∧
                              true = true ∧
                               okAt h1 (Addr.add (Addr.add a3 (Int.toNat i1 * (4 : Nat))) (3 : Nat)) ∧ ∀ (h2 : Heap), h2 = upd h1 (Addr.add (Addr.add a3 (Int.toNat i1 * (4 : Nat))) (3 : Nat)) (Value.int IntKind.i64 (IntKind.wrap IntKind.i64 (i3 - (1 : Int)))) → R (Value.int IntKind.i64 (0 : Int)) h2
                            | none => False
                        | none => False)
          | none => False)

theorem rcUnpin_call (q0 : Nat) (q1 : Int) {h : Heap} {R : Value → Heap → Prop} (H : rcUnpin_vc q0 q1 h R) : CallH Tryz.prog 27 ⟨[.pointer (some ⟨q0, 0, none⟩), .int .i64 q1]⟩ h R :=
  callH_of_dCode tabOK mixed [(.pointer (some ⟨q0, 0, none⟩), false), (.int .i64 q1, false)] Tryz.func27 (c := bodyC Tryz.f27) (by kernel_rfl) (by kernel_rfl : Tryz.f27.ntmps = 38) rfl
    (Eq.mp (by kernel_rfl : rcUnpin_vc q0 q1 h R = dCode Tryz.prog T ⟨[], [], [], [], []⟩ (bodyC Tryz.f27) none (dEnd T (Tryz.f27.results.toList) R) (startE 38 [(.pointer (some ⟨q0, 0, none⟩), false), (.int .i64 q1, false)]) h) H)

/-- (*incipit/incipitref05.Cache).Forget -/
def rcForget_vc (q0 : Nat) (q1 : Int) (h : Heap) (R : Value → Heap → Prop) : Prop :=
  entersB Tryz.prog (41 : Nat) = true ∧
 CallH Tryz.prog (41 : Nat) { toList := [Value.pointer (some { block := q0, off := (0 : Nat) : Addr }), Value.int IntKind.i64 q1] : Array Value } h fun (v1 : Value) (h1 : Heap) =>
  ∃ (i1 : Int),
   v1 = Value.int IntKind.i64 i1 ∧
    (decide (i1 < (0 : Int)) = true → R (Value.int IntKind.i64 (4 : Int)) h1) ∧
     (decide (i1 < (0 : Int)) = false →
      ∃ (p1 : Option Addr),
       ∃ (n1 : Nat),
        ∃ (n2 : Nat),
         cellAt h1 { block := q0, off := (2 : Nat) : Addr } = some (Value.slice p1 n1 n2) ∧
          match p1 with
          | some a1 =>
           ((0 : Int) ≤ i1 ∧ i1 < (↑n1 : Int)) ∧
            ∃ (i2 : Int),
             cellAt h1 (Addr.add (Addr.add a1 (Int.toNat i1 * (4 : Nat))) (3 : Nat)) = some (Value.int IntKind.i64 i2) ∧
              (decide (i2 > (0 : Int)) = true → R (Value.int IntKind.i64 (7 : Int)) h1) ∧
               (decide (i2 > (0 : Int)) = false →
                entersB Tryz.prog (66 : Nat) = true ∧
                 CallH Tryz.prog (66 : Nat) { toList := [Value.pointer (some { block := q0, off := (0 : Nat) : Addr }), Value.int IntKind.i64 i1] : Array Value } h1 fun (v2 : Value) (h2 : Heap) => v2 = Value.tuple { toList := [] : Array Value } ∧ R (Value.int IntKind.i64 (0 : Int)) h2)
          | none => False)

theorem rcForget_call (q0 : Nat) (q1 : Int) {h : Heap} {R : Value → Heap → Prop} (H : rcForget_vc q0 q1 h R) : CallH Tryz.prog 29 ⟨[.pointer (some ⟨q0, 0, none⟩), .int .i64 q1]⟩ h R :=
  callH_of_dCode tabOK mixed [(.pointer (some ⟨q0, 0, none⟩), false), (.int .i64 q1, false)] Tryz.func29 (c := bodyC Tryz.f29) (by kernel_rfl) (by kernel_rfl : Tryz.f29.ntmps = 23) rfl
    (Eq.mp (by kernel_rfl : rcForget_vc q0 q1 h R = dCode Tryz.prog T ⟨[], [], [], [], []⟩ (bodyC Tryz.f29) none (dEnd T (Tryz.f29.results.toList) R) (startE 23 [(.pointer (some ⟨q0, 0, none⟩), false), (.int .i64 q1, false)]) h) H)

/-- (*incipit/incipitref05.Cache).Flush -/
def rcFlush_vc (q0 : Nat) (h : Heap) (R : Value → Heap → Prop) : Prop :=
  entersB Tryz.prog (45 : Nat) = true ∧
 CallH Tryz.prog (45 : Nat) { toList := [Value.pointer (some { block := q0, off := (0 : Nat) : Addr })] : Array Value } h fun (v1 : Value) (h1 : Heap) =>
  ∃ (p1 : Option Addr),
   ∃ (n1 : Nat),
    ∃ (n2 : Nat),
     v1 = Value.slice p1 n1 n2 ∧
      ∃ (I1 : Int → Heap → Prop),
       ∃ (M1 : Int → Heap → Nat),
        I1 (0 : Int) h1 ∧
         ∀ (i1 : Int) (h2 : Heap),
          I1 i1 h2 →
           (decide (i1 < (↑n1 : Int)) = true →
             match p1 with
             | some a1 =>
              ((0 : Int) ≤ i1 ∧ i1 < (↑n1 : Int)) ∧
               ∃ (i2 : Int),
                cellAt h2 (Addr.add a1 (Int.toNat i1 * (1 : Nat))) = some (Value.int IntKind.i64 i2) ∧
                 entersB Tryz.prog (41 : Nat) = true ∧
                  CallH Tryz.prog (41 : Nat) { toList := [Value.pointer (some { block := q0, off := (0 : Nat) : Addr }), Value.int IntKind.i64 i2] : Array Value } h2 fun (v2 : Value) (h3 : Heap) =>
                   ∃ (i3 : Int),
                    v2 = Value.int IntKind.i64 i3 ∧
                     ∃ (p3 : Option Addr),
                      cellAt h3 { block := q0, off := (0 : Nat) : Addr } = some (Value.pointer p3) ∧
                       match p1 with
                       | some a2 =>
                        ((0 : Int) ≤ i1 ∧ i1 < (↑n1 : Int)) ∧
                         ∃ (i4 : Int),
                          cellAt h3 (Addr.add a2 (Int.toNat i1 * (1 : Nat))) = some (Value.int IntKind.i64 i4) ∧
                           ∃ (p4 : Option Addr),
                            ∃ (n3 : Nat),
                             ∃ (n4 : Nat),
                              cellAt h3 { block := q0, off := (2 : Nat) : Addr } = some (Value.slice p4 n3 n4) ∧
                               match p4 with
                               | some a3 =>
                                ((0 : Int) ≤ i3 ∧ i3 < (↑n3 : Int)) ∧
                                 ∃ (p5 : Option Addr),
                                  ∃ (n5 : Nat),
                                   ∃ (n6 : Nat),
                                    cellAt h3 (Addr.add (Addr.add a3 (Int.toNat i3 * (4 : Nat))) (1 : Nat)) = some (Value.slice p5 n5 n6) ∧
                                     entersB Tryz.prog (68 : Nat) = true ∧
                                      CallH Tryz.prog (68 : Nat) { toList := [Value.pointer p3, Value.int IntKind.i64 i4, Value.slice p5 n5 n6] : Array Value } h3 fun (v3 : Value) (h4 : Heap) =>
                                       ∃ (i5 : Int),
                                        v3 = Value.int IntKind.i64 i5 ∧
                                         ((i5 != (0 : Int)) = true → R (Value.int IntKind.i64 i5) h4) ∧
                                          ((i5 != (0 : Int)) = false →
                                           ∃ (p6 : Option Addr),
                                            ∃ (n7 : Nat),
                                             ∃ (n8 : Nat),
                                              cellAt h4 { block := q0, off := (2 : Nat) : Addr } = some (Value.slice p6 n7 n8) ∧
                                               match p6 with
                                               | some a4 =>
                                                ((0 : Int) ≤ i3 ∧ i3 < (↑n7 : Int)) ∧
                                                 true = true ∧
                                                  okAt h4 (Addr.add (Addr.add a4 (Int.toNat i3 * (4 : Nat))) (2 : Nat)) ∧
                                                   ∀ (h5 : Heap), h5 = upd h4 (Addr.add (Addr.add a4 (Int.toNat i3 * (4 : Nat))) (2 : Nat)) (Value.bool false) → I1 (IntKind.wrap IntKind.i64 (i1 + (1 : Int))) h5 ∧ M1 (IntKind.wrap IntKind.i64 (i1 + (1 : Int))) h5 < M1 i1 h2
                                               | none => False)
                               | none => False
                       | none => False
             | none => False) ∧
            (decide (i1 < (↑n1 : Int)) = false → R (Value.int IntKind.i64 (0 : Int)) h2)

theorem rcFlush_call (q0 : Nat) {h : Heap} {R : Value → Heap → Prop} (H : rcFlush_vc q0 h R) : CallH Tryz.prog 31 ⟨[.pointer (some ⟨q0, 0, none⟩)]⟩ h R :=
  callH_of_dCode tabOK mixed [(.pointer (some ⟨q0, 0, none⟩), false)] Tryz.func31 (c := bodyC Tryz.f31) (by kernel_rfl) (by kernel_rfl : Tryz.f31.ntmps = 48) rfl
    (Eq.mp (by kernel_rfl : rcFlush_vc q0 h R = dCode Tryz.prog T ⟨[], [(3, [(4, .int .i64)])], [], [], []⟩ (bodyC Tryz.f31) none (dEnd T (Tryz.f31.results.toList) R) (startE 48 [(.pointer (some ⟨q0, 0, none⟩), false)]) h) H)

/-- (*incipit/incipitref05.Cache).Held -/
def rcHeld_vc (q0 : Nat) (h : Heap) (R : Value → Heap → Prop) : Prop :=
  True ∧
 ∀ (n1 : Nat) (rec1 : Array Obj),
  n1 = Array.size h →
   rec1 = Array.push h (Obj.cells { toList := [] : Array Value } (3 : TypeId)) →
    ∃ (I1 : Option Addr → Nat → Nat → Int → Heap → Prop),
     ∃ (M1 : Option Addr → Nat → Nat → Int → Heap → Nat),
      I1 (some { block := n1, off := (0 : Nat) : Addr }) (0 : Nat) (0 : Nat) (0 : Int) rec1 ∧
       ∀ (p1 : Option Addr) (n2 n3 : Nat) (i1 : Int) (h1 : Heap),
        I1 p1 n2 n3 i1 h1 →
         ∃ (p2 : Option Addr),
          ∃ (n4 : Nat),
           ∃ (n5 : Nat),
            cellAt h1 { block := q0, off := (2 : Nat) : Addr } = some (Value.slice p2 n4 n5) ∧
             (decide (i1 < (↑n4 : Int)) = true →
               ∃ (p3 : Option Addr),
                ∃ (n6 : Nat),
                 ∃ (n7 : Nat),
                  cellAt h1 { block := q0, off := (2 : Nat) : Addr } = some (Value.slice p3 n6 n7) ∧
                   match p3 with
                   | some a1 =>
                    ((0 : Int) ≤ i1 ∧ i1 < (↑n6 : Int)) ∧
                     ∃ (i2 : Int),
                      cellAt h1 (Addr.add a1 (Int.toNat i1 * (4 : Nat))) = some (Value.int IntKind.i64 i2) ∧
                       ((0 : Nat) + (1 : Nat) = (1 : Nat) ∧ True) ∧
                        ∀ (n8 : Nat) (rec2 : Array Obj),
                         n8 = Array.size h1 →
                          rec2 = Array.push h1 (Obj.cells { toList := [Value.int IntKind.i64 i2] : Array Value } (3 : TypeId)) →
                           ∃ (l1 : List Value),
                            srcIs rec2 (1 : Nat) (1 : Nat) (Value.slice (some { block := n8, off := (0 : Nat) : Addr }) (1 : Nat) (1 : Nat)) l1 ∧
                             (∀ (v1 : Value), v1 ∈ l1 → isCell v1 = true) ∧
                              List.length l1 = (1 : Nat) ∧
                               (n2 + (1 : Nat) ≤ n3 →
                                 match p1 with
                                 | some a2 =>
                                  okRow rec2 (Addr.add a2 (n2 * (1 : Nat))) (List.length l1) ∧
                                   ∀ (h2 : Heap), h2 = updRow rec2 (Addr.add a2 (n2 * (1 : Nat))) (0 : Nat) l1 → I1 p1 (n2 + (1 : Nat)) n3 (IntKind.wrap IntKind.i64 (i1 + (1 : Int))) h2 ∧ M1 p1 (n2 + (1 : Nat)) n3 (IntKind.wrap IntKind.i64 (i1 + (1 : Int))) h2 < M1 p1 n2 n3 i1 h1
                                 | none => I1 p1 (n2 + (1 : Nat)) n3 (IntKind.wrap IntKind.i64 (i1 + (1 : Int))) rec2 ∧ M1 p1 (n2 + (1 : Nat)) n3 (IntKind.wrap IntKind.i64 (i1 + (1 : Int))) rec2 < M1 p1 n2 n3 i1 h1) ∧
                                (n3 < n2 + (1 : Nat) →
                                 (n2 + (1 : Nat)) * (8 : Nat) ≤ (70368744177664 : Nat) ∧
                                  (0 : Nat) < (8 : Nat) ∧
                                   ∃ (l2 : List Value),
                                    srcIs rec2 (1 : Nat) n2 (Value.slice p1 n2 n3) l2 ∧
                                     ∀ (n9 : Nat),
                                      n2 + (1 : Nat) ≤ n9 →
                                       ∀ (n10 : Nat) (rec3 : Array Obj),
                                        n10 = Array.size rec2 →
                                         rec3 = Array.push rec2 (Obj.cells { toList := List.append (List.append l2 l1) (zrow [Value.int IntKind.i64 (Int.ofNat (0))] (n9 - (n2 + (1 : Nat)))) : Array Value } (3 : TypeId)) →
                                          I1 (some { block := n10, off := (0 : Nat) : Addr }) (n2 + (1 : Nat)) n9 (IntKind.wrap IntKind.i64 (i1 + (1 : Int))) rec3 ∧
                                           M1 (some { block := n10, off := (0 : Nat) : Addr }) (n2 + (1 : Nat)) n9 (IntKind.wrap IntKind.i64 (i1 + (1 : Int))) rec3 < M1 p1 n2 n3 i1 h1)
                   | none => False) ∧
              (decide (i1 < (↑n4 : Int)) = false → R (Value.slice p1 n2 n3) h1)

theorem rcHeld_call (q0 : Nat) {h : Heap} {R : Value → Heap → Prop} (H : rcHeld_vc q0 h R) : CallH Tryz.prog 40 ⟨[.pointer (some ⟨q0, 0, none⟩)]⟩ h R :=
  callH_of_dCode tabOK mixed [(.pointer (some ⟨q0, 0, none⟩), false)] Tryz.func40 (c := bodyC Tryz.f40) (by kernel_rfl) (by kernel_rfl : Tryz.f40.ntmps = 27) rfl
    (Eq.mp (by kernel_rfl : rcHeld_vc q0 h R = dCode Tryz.prog T ⟨[], [(3, [(3, .sl), (4, .int .i64)])], [], [], []⟩ (bodyC Tryz.f40) none (dEnd T (Tryz.f40.results.toList) R) (startE 27 [(.pointer (some ⟨q0, 0, none⟩), false)]) h) H)

/-- (*incipit/incipitref05.Cache).Find -/
def rcFind_vc (q0 : Nat) (q1 : Int) (h : Heap) (R : Value → Heap → Prop) : Prop :=
  ∃ (I1 : Int → Heap → Prop),
 ∃ (M1 : Int → Heap → Nat),
  I1 (0 : Int) h ∧
   ∀ (i1 : Int) (h1 : Heap),
    I1 i1 h1 →
     ∃ (p1 : Option Addr),
      ∃ (n1 : Nat),
       ∃ (n2 : Nat),
        cellAt h1 { block := q0, off := (2 : Nat) : Addr } = some (Value.slice p1 n1 n2) ∧
         (decide (i1 < (↑n1 : Int)) = true →
           ∃ (p2 : Option Addr),
            ∃ (n3 : Nat),
             ∃ (n4 : Nat),
              cellAt h1 { block := q0, off := (2 : Nat) : Addr } = some (Value.slice p2 n3 n4) ∧
               match p2 with
               | some a1 =>
                ((0 : Int) ≤ i1 ∧ i1 < (↑n3 : Int)) ∧
                 ∃ (i2 : Int),
                  cellAt h1 (Addr.add a1 (Int.toNat i1 * (4 : Nat))) = some (Value.int IntKind.i64 i2) ∧ ((i2 == q1) = true → R (Value.int IntKind.i64 i1) h1) ∧ ((i2 == q1) = false → I1 (IntKind.wrap IntKind.i64 (i1 + (1 : Int))) h1 ∧ M1 (IntKind.wrap IntKind.i64 (i1 + (1 : Int))) h1 < M1 i1 h1)
               | none => False) ∧
          (decide (i1 < (↑n1 : Int)) = false → R (Value.int IntKind.i64 (-1 : Int)) h1)

theorem rcFind_call (q0 : Nat) (q1 : Int) {h : Heap} {R : Value → Heap → Prop} (H : rcFind_vc q0 q1 h R) : CallH Tryz.prog 41 ⟨[.pointer (some ⟨q0, 0, none⟩), .int .i64 q1]⟩ h R :=
  callH_of_dCode tabOK mixed [(.pointer (some ⟨q0, 0, none⟩), false), (.int .i64 q1, false)] Tryz.func41 (c := bodyC Tryz.f41) (by kernel_rfl) (by kernel_rfl : Tryz.f41.ntmps = 26) rfl
    (Eq.mp (by kernel_rfl : rcFind_vc q0 q1 h R = dCode Tryz.prog T ⟨[], [(2, [(5, .int .i64)])], [], [], []⟩ (bodyC Tryz.f41) none (dEnd T (Tryz.f41.results.toList) R) (startE 26 [(.pointer (some ⟨q0, 0, none⟩), false), (.int .i64 q1, false)]) h) H)

/-- (*incipit/incipitref05.Cache).Changed -/
def rcChanged_vc (q0 : Nat) (h : Heap) (R : Value → Heap → Prop) : Prop :=
  True ∧
 ∀ (n1 : Nat) (rec1 : Array Obj),
  n1 = Array.size h →
   rec1 = Array.push h (Obj.cells { toList := [] : Array Value } (3 : TypeId)) →
    ∃ (I1 : Option Addr → Nat → Nat → Int → Heap → Prop),
     ∃ (M1 : Option Addr → Nat → Nat → Int → Heap → Nat),
      I1 (some { block := n1, off := (0 : Nat) : Addr }) (0 : Nat) (0 : Nat) (0 : Int) rec1 ∧
       ∀ (p1 : Option Addr) (n2 n3 : Nat) (i1 : Int) (h1 : Heap),
        I1 p1 n2 n3 i1 h1 →
         ∃ (p2 : Option Addr),
          cellAt h1 { block := q0, off := (0 : Nat) : Addr } = some (Value.pointer p2) ∧
           match p2 with
           | some a1 =>
            ∃ (p4 : Option Addr),
             ∃ (n4 : Nat),
              ∃ (n5 : Nat),
               cellAt h1 a1 = some (Value.slice p4 n4 n5) ∧
                (decide (i1 < (↑n4 : Int)) = true →
                  entersB Tryz.prog (41 : Nat) = true ∧
                   CallH Tryz.prog (41 : Nat) { toList := [Value.pointer (some { block := q0, off := (0 : Nat) : Addr }), Value.int IntKind.i64 i1] : Array Value } h1 fun (v1 : Value) (h2 : Heap) =>
                    ∃ (i2 : Int),
                     v1 = Value.int IntKind.i64 i2 ∧
                      (decide (i2 ≥ (0 : Int)) = true →
                        ∃ (p5 : Option Addr),
                         ∃ (n6 : Nat),
                          ∃ (n7 : Nat),
                           cellAt h2 { block := q0, off := (2 : Nat) : Addr } = some (Value.slice p5 n6 n7) ∧
                            match p5 with
                            | some a2 =>
                             ((0 : Int) ≤ i2 ∧ i2 < (↑n6 : Int)) ∧
                              ∃ (t1 : Bool),
                               cellAt h2 (Addr.add (Addr.add a2 (Int.toNat i2 * (4 : Nat))) (2 : Nat)) = some (Value.bool t1) ∧
                                (t1 = true →
                                  ((0 : Nat) + (1 : Nat) = (1 : Nat) ∧ True) ∧
                                   ∀ (n8 : Nat) (rec2 : Array Obj),
                                    n8 = Array.size h2 →
                                     rec2 = Array.push h2 (Obj.cells { toList := [Value.int IntKind.i64 i1] : Array Value } (3 : TypeId)) →
                                      ∃ (l1 : List Value),
                                       srcIs rec2 (1 : Nat) (1 : Nat) (Value.slice (some { block := n8, off := (0 : Nat) : Addr }) (1 : Nat) (1 : Nat)) l1 ∧
                                        (∀ (v2 : Value), v2 ∈ l1 → isCell v2 = true) ∧
                                         List.length l1 = (1 : Nat) ∧
                                          (n2 + (1 : Nat) ≤ n3 →
                                            match p1 with
                                            | some a3 =>
                                             okRow rec2 (Addr.add a3 (n2 * (1 : Nat))) (List.length l1) ∧
                                              ∀ (h3 : Heap), h3 = updRow rec2 (Addr.add a3 (n2 * (1 : Nat))) (0 : Nat) l1 → I1 p1 (n2 + (1 : Nat)) n3 (IntKind.wrap IntKind.i64 (i1 + (1 : Int))) h3 ∧ M1 p1 (n2 + (1 : Nat)) n3 (IntKind.wrap IntKind.i64 (i1 + (1 : Int))) h3 < M1 p1 n2 n3 i1 h1
                                            | none => I1 p1 (n2 + (1 : Nat)) n3 (IntKind.wrap IntKind.i64 (i1 + (1 : Int))) rec2 ∧ M1 p1 (n2 + (1 : Nat)) n3 (IntKind.wrap IntKind.i64 (i1 + (1 : Int))) rec2 < M1 p1 n2 n3 i1 h1) ∧
                                           (n3 < n2 + (1 : Nat) →
                                            (n2 + (1 : Nat)) * (8 : Nat) ≤ (70368744177664 : Nat) ∧
                                             (0 : Nat) < (8 : Nat) ∧
                                              ∃ (l2 : List Value),
                                               srcIs rec2 (1 : Nat) n2 (Value.slice p1 n2 n3) l2 ∧
                                                ∀ (n9 : Nat),
                                                 n2 + (1 : Nat) ≤ n9 →
                                                  ∀ (n10 : Nat) (rec3 : Array Obj),
                                                   n10 = Array.size rec2 →
                                                    rec3 = Array.push rec2 (Obj.cells { toList := List.append (List.append l2 l1) (zrow [Value.int IntKind.i64 (Int.ofNat (0))] (n9 - (n2 + (1 : Nat)))) : Array Value } (3 : TypeId)) →
                                                     I1 (some { block := n10, off := (0 : Nat) : Addr }) (n2 + (1 : Nat)) n9 (IntKind.wrap IntKind.i64 (i1 + (1 : Int))) rec3 ∧
                                                      M1 (some { block := n10, off := (0 : Nat) : Addr }) (n2 + (1 : Nat)) n9 (IntKind.wrap IntKind.i64 (i1 + (1 : Int))) rec3 < M1 p1 n2 n3 i1 h1)) ∧
                                 (t1 = false → I1 p1 n2 n3 (IntKind.wrap IntKind.i64 (i1 + (1 : Int))) h2 ∧ M1 p1 n2 n3 (IntKind.wrap IntKind.i64 (i1 + (1 : Int))) h2 < M1 p1 n2 n3 i1 h1)
                            | none => False) ∧
                       (decide (i2 ≥ (0 : Int)) = false → I1 p1 n2 n3 (IntKind.wrap IntKind.i64 (i1 + (1 : Int))) h2 ∧ M1 p1 n2 n3 (IntKind.wrap IntKind.i64 (i1 + (1 : Int))) h2 < M1 p1 n2 n3 i1 h1)) ∧
                 (decide (i1 < (↑n4 : Int)) = false → R (Value.slice p1 n2 n3) h1)
           | none => False

theorem rcChanged_call (q0 : Nat) {h : Heap} {R : Value → Heap → Prop} (H : rcChanged_vc q0 h R) : CallH Tryz.prog 45 ⟨[.pointer (some ⟨q0, 0, none⟩)]⟩ h R :=
  callH_of_dCode tabOK mixed [(.pointer (some ⟨q0, 0, none⟩), false)] Tryz.func45 (c := bodyC Tryz.f45) (by kernel_rfl) (by kernel_rfl : Tryz.f45.ntmps = 39) rfl
    (Eq.mp (by kernel_rfl : rcChanged_vc q0 h R = dCode Tryz.prog T ⟨[], [(3, [(3, .sl), (4, .int .i64)])], [], [], []⟩ (bodyC Tryz.f45) none (dEnd T (Tryz.f45.results.toList) R) (startE 39 [(.pointer (some ⟨q0, 0, none⟩), false)]) h) H)

/-- (*incipit/incipitref05.Cache).use -/
def rcUse_vc (q0 : Nat) (hp : Int) (hq : Option Addr) (hl : Nat) (hc : Nat) (hch : Bool) (hpins : Int) (h : Heap) (R : Value → Heap → Prop) : Prop :=
  ∀ (n1 : Nat) (rec1 : Array Obj),
 n1 = Array.size h →
  rec1 = Array.push h (Obj.cells { toList := [Value.int IntKind.i64 hp, Value.slice hq hl hc, Value.bool hch, Value.int IntKind.i64 hpins] : Array Value } (76 : Nat)) →
   ∃ (i1 : Int),
    cellAt rec1 { block := n1, off := (0 : Nat) : Addr } = some (Value.int IntKind.i64 i1) ∧
     entersB Tryz.prog (41 : Nat) = true ∧
      CallH Tryz.prog (41 : Nat) { toList := [Value.pointer (some { block := q0, off := (0 : Nat) : Addr }), Value.int IntKind.i64 i1] : Array Value } rec1 fun (v1 : Value) (h1 : Heap) =>
       ∃ (i2 : Int),
        v1 = Value.int IntKind.i64 i2 ∧
         (decide (i2 ≥ (0 : Int)) = true →
           entersB Tryz.prog (66 : Nat) = true ∧
            CallH Tryz.prog (66 : Nat) { toList := [Value.pointer (some { block := q0, off := (0 : Nat) : Addr }), Value.int IntKind.i64 i2] : Array Value } h1 fun (v2 : Value) (h2 : Heap) =>
             v2 = Value.tuple { toList := [] : Array Value } ∧
              ∃ (i3 : Int),
               ∃ (p1 : Option Addr),
                ∃ (n2 : Nat),
                 ∃ (n3 : Nat),
                  ∃ (t1 : Bool),
                   ∃ (i4 : Int),
                    rowAt h2 { block := n1, off := (0 : Nat) : Addr } (4 : Nat) = some [Value.int IntKind.i64 i3, Value.slice p1 n2 n3, Value.bool t1, Value.int IntKind.i64 i4] ∧
                     ((0 : Nat) + (1 : Nat) + (1 : Nat) + (1 : Nat) + (1 : Nat) = (4 : Nat) ∧ True) ∧
                      ∀ (n4 : Nat) (rec2 : Array Obj),
                       n4 = Array.size h2 →
                        rec2 = Array.push h2 (Obj.cells { toList := [Value.int IntKind.i64 i3, Value.slice p1 n2 n3, Value.bool t1, Value.int IntKind.i64 i4] : Array Value } (76 : TypeId)) →
                         ∃ (p2 : Option Addr),
                          ∃ (n5 : Nat),
                           ∃ (n6 : Nat),
                            cellAt rec2 { block := q0, off := (2 : Nat) : Addr } = some (Value.slice p2 n5 n6) ∧
                             ∃ (l1 : List Value),
                              srcIs rec2 (4 : Nat) n5 (Value.slice p2 n5 n6) l1 ∧
                               (∀ (v3 : Value), v3 ∈ l1 → isCell v3 = true) ∧
                                List.length l1 = n5 * (4 : Nat) ∧
                                 ((1 : Nat) + n5 ≤ (1 : Nat) →
                                   okRow rec2 { block := n4, off := (4 : Nat) : Addr } (List.length l1) ∧
                                    ∀ (h3 : Heap),
                                     h3 = updRow rec2 { block := n4, off := (4 : Nat) : Addr } (0 : Nat) l1 →
                                      true = true ∧
                                       okAt h3 { block := q0, off := (2 : Nat) : Addr } ∧
                                        ∀ (h4 : Heap), h4 = upd h3 { block := q0, off := (2 : Nat) : Addr } (Value.slice (some { block := n4, off := (0 : Nat) : Addr }) ((1 : Nat) + n5) (1 : Nat)) → R (Value.tuple { toList := [] : Array Value }) h4) ∧
                                  ((1 : Nat) < (1 : Nat) + n5 →
                                   ((1 : Nat) + n5) * (48 : Nat) ≤ (70368744177664 : Nat) ∧
                                    (0 : Nat) < (48 : Nat) ∧
                                     ∃ (l2 : List Value),
                                      srcIs rec2 (4 : Nat) (1 : Nat) (Value.slice (some { block := n4, off := (0 : Nat) : Addr }) (1 : Nat) (1 : Nat)) l2 ∧
                                       ∀ (n7 : Nat),
                                        (1 : Nat) + n5 ≤ n7 →
                                         ∀ (n8 : Nat) (rec3 : Array Obj),
                                          n8 = Array.size rec2 →
                                           rec3 =
                                             Array.push rec2
                                              (Obj.cells
                                               { toList := List.append (List.append l2 l1) (zrow [Value.int IntKind.i64 (Int.ofNat (0)), Value.slice none (0) (0), Value.bool false, Value.int IntKind.i64 (Int.ofNat (0))] (n7 - ((1 : Nat) + n5))) : Array Value }
                                               (76 : TypeId)) →
                                            true = true ∧
                                             okAt rec3 { block := q0, off := (2 : Nat) : Addr } ∧
                                              ∀ (h5 : Heap), h5 = upd rec3 { block := q0, off := (2 : Nat) : Addr } (Value.slice (some { block := n8, off := (0 : Nat) : Addr }) ((1 : Nat) + n5) n7) → R (Value.tuple { toList := [] : Array Value }) h5)) ∧
          (decide (i2 ≥ (0 : Int)) = false →
           ∃ (i5 : Int),
            ∃ (p3 : Option Addr),
             ∃ (n9 : Nat),
              ∃ (n10 : Nat),
               ∃ (t2 : Bool),
                ∃ (i6 : Int),
                 rowAt h1 { block := n1, off := (0 : Nat) : Addr } (4 : Nat) = some [Value.int IntKind.i64 i5, Value.slice p3 n9 n10, Value.bool t2, Value.int IntKind.i64 i6] ∧
                  ((0 : Nat) + (1 : Nat) + (1 : Nat) + (1 : Nat) + (1 : Nat) = (4 : Nat) ∧ True) ∧
                   ∀ (n11 : Nat) (rec4 : Array Obj),
                    n11 = Array.size h1 →
                     rec4 = Array.push h1 (Obj.cells { toList := [Value.int IntKind.i64 i5, Value.slice p3 n9 n10, Value.bool t2, Value.int IntKind.i64 i6] : Array Value } (76 : TypeId)) →
                      ∃ (p4 : Option Addr),
                       ∃ (n12 : Nat),
                        ∃ (n13 : Nat),
                         cellAt rec4 { block := q0, off := (2 : Nat) : Addr } = some (Value.slice p4 n12 n13) ∧
                          ∃ (l3 : List Value),
                           srcIs rec4 (4 : Nat) n12 (Value.slice p4 n12 n13) l3 ∧
                            (∀ (v4 : Value), v4 ∈ l3 → isCell v4 = true) ∧
                             List.length l3 = n12 * (4 : Nat) ∧
                              ((1 : Nat) + n12 ≤ (1 : Nat) →
                                okRow rec4 { block := n11, off := (4 : Nat) : Addr } (List.length l3) ∧
                                 ∀ (h6 : Heap),
                                  h6 = updRow rec4 { block := n11, off := (4 : Nat) : Addr } (0 : Nat) l3 →
                                   true = true ∧
                                    okAt h6 { block := q0, off := (2 : Nat) : Addr } ∧ ∀ (h7 : Heap), h7 = upd h6 { block := q0, off := (2 : Nat) : Addr } (Value.slice (some { block := n11, off := (0 : Nat) : Addr }) ((1 : Nat) + n12) (1 : Nat)) → R (Value.tuple { toList := [] : Array Value }) h7) ∧
                               ((1 : Nat) < (1 : Nat) + n12 →
                                ((1 : Nat) + n12) * (48 : Nat) ≤ (70368744177664 : Nat) ∧
                                 (0 : Nat) < (48 : Nat) ∧
                                  ∃ (l4 : List Value),
                                   srcIs rec4 (4 : Nat) (1 : Nat) (Value.slice (some { block := n11, off := (0 : Nat) : Addr }) (1 : Nat) (1 : Nat)) l4 ∧
                                    ∀ (n14 : Nat),
                                     (1 : Nat) + n12 ≤ n14 →
                                      ∀ (n15 : Nat) (rec5 : Array Obj),
                                       n15 = Array.size rec4 →
                                        rec5 =
                                          Array.push rec4
                                           (Obj.cells
                                            { toList := List.append (List.append l4 l3) (zrow [Value.int IntKind.i64 (Int.ofNat (0)), Value.slice none (0) (0), Value.bool false, Value.int IntKind.i64 (Int.ofNat (0))] (n14 - ((1 : Nat) + n12))) : Array Value }
                                            (76 : TypeId)) →
                                         true = true ∧
                                          okAt rec5 { block := q0, off := (2 : Nat) : Addr } ∧
                                           ∀ (h8 : Heap), h8 = upd rec5 { block := q0, off := (2 : Nat) : Addr } (Value.slice (some { block := n15, off := (0 : Nat) : Addr }) ((1 : Nat) + n12) n14) → R (Value.tuple { toList := [] : Array Value }) h8))

theorem rcUse_call (q0 : Nat) (hp : Int) (hq : Option Addr) (hl : Nat) (hc : Nat) (hch : Bool) (hpins : Int) {h : Heap} {R : Value → Heap → Prop} (H : rcUse_vc q0 hp hq hl hc hch hpins h R) : CallH Tryz.prog 63 ⟨[.pointer (some ⟨q0, 0, none⟩), .agg ⟨[.int .i64 hp, .slice hq hl hc, .bool hch, .int .i64 hpins]⟩]⟩ h R :=
  callH_of_dCode tabOK mixed [(.pointer (some ⟨q0, 0, none⟩), false), (.agg ⟨[.int .i64 hp, .slice hq hl hc, .bool hch, .int .i64 hpins]⟩, false)] Tryz.func63 (c := bodyC Tryz.f63) (by kernel_rfl) (by kernel_rfl : Tryz.f63.ntmps = 26) rfl
    (Eq.mp (by kernel_rfl : rcUse_vc q0 hp hq hl hc hch hpins h R = dCode Tryz.prog T ⟨[], [], [], [], []⟩ (bodyC Tryz.f63) none (dEnd T (Tryz.f63.results.toList) R) (startE 26 [(.pointer (some ⟨q0, 0, none⟩), false), (.agg ⟨[.int .i64 hp, .slice hq hl hc, .bool hch, .int .i64 hpins]⟩, false)]) h) H)

/-- (*incipit/incipitref05.Cache).room -/
def rcRoom_vc (q0 : Nat) (h : Heap) (R : Value → Heap → Prop) : Prop :=
  ∃ (p1 : Option Addr),
 ∃ (n1 : Nat),
  ∃ (n2 : Nat),
   cellAt h { block := q0, off := (2 : Nat) : Addr } = some (Value.slice p1 n1 n2) ∧
    ∃ (i1 : Int),
     cellAt h { block := q0, off := (1 : Nat) : Addr } = some (Value.int IntKind.i64 i1) ∧
      (decide ((↑n1 : Int) < i1) = true → R (Value.int IntKind.i64 (0 : Int)) h) ∧
       (decide ((↑n1 : Int) < i1) = false →
        ∃ (p2 : Option Addr),
         ∃ (n3 : Nat),
          ∃ (n4 : Nat),
           cellAt h { block := q0, off := (2 : Nat) : Addr } = some (Value.slice p2 n3 n4) ∧
            ∃ (I1 : Int → Heap → Prop),
             ∃ (M1 : Int → Heap → Nat),
              I1 (IntKind.wrap IntKind.i64 ((↑n3 : Int) - (1 : Int))) h ∧
               ∀ (i2 : Int) (h1 : Heap),
                I1 i2 h1 →
                 (decide (i2 ≥ (0 : Int)) = true →
                   ∃ (p3 : Option Addr),
                    ∃ (n5 : Nat),
                     ∃ (n6 : Nat),
                      cellAt h1 { block := q0, off := (2 : Nat) : Addr } = some (Value.slice p3 n5 n6) ∧
                       match p3 with
                       | some a1 =>
                        ((0 : Int) ≤ i2 ∧ i2 < (↑n5 : Int)) ∧
                         ∃ (i3 : Int),
                          cellAt h1 (Addr.add (Addr.add a1 (Int.toNat i2 * (4 : Nat))) (3 : Nat)) = some (Value.int IntKind.i64 i3) ∧
                           (decide (i3 > (0 : Int)) = true → I1 (IntKind.wrap IntKind.i64 (i2 - (1 : Int))) h1 ∧ M1 (IntKind.wrap IntKind.i64 (i2 - (1 : Int))) h1 < M1 i2 h1) ∧
                            (decide (i3 > (0 : Int)) = false →
                             ∃ (p5 : Option Addr),
                              ∃ (n7 : Nat),
                               ∃ (n8 : Nat),
                                cellAt h1 { block := q0, off := (2 : Nat) : Addr } = some (Value.slice p5 n7 n8) ∧
                                 match p5 with
                                 | some a2 =>
                                  ((0 : Int) ≤ i2 ∧ i2 < (↑n7 : Int)) ∧
                                   ∃ (t1 : Bool),
                                    cellAt h1 (Addr.add (Addr.add a2 (Int.toNat i2 * (4 : Nat))) (2 : Nat)) = some (Value.bool t1) ∧
                                     (t1 = true →
                                       ∃ (p6 : Option Addr),
                                        cellAt h1 { block := q0, off := (0 : Nat) : Addr } = some (Value.pointer p6) ∧
                                         ∃ (p7 : Option Addr),
                                          ∃ (n9 : Nat),
                                           ∃ (n10 : Nat),
                                            cellAt h1 { block := q0, off := (2 : Nat) : Addr } = some (Value.slice p7 n9 n10) ∧
                                             match p7 with
                                             | some a3 =>
                                              ((0 : Int) ≤ i2 ∧ i2 < (↑n9 : Int)) ∧
                                               ∃ (i4 : Int),
                                                cellAt h1 (Addr.add a3 (Int.toNat i2 * (4 : Nat))) = some (Value.int IntKind.i64 i4) ∧
                                                 ∃ (p8 : Option Addr),
                                                  ∃ (n11 : Nat),
                                                   ∃ (n12 : Nat),
                                                    cellAt h1 { block := q0, off := (2 : Nat) : Addr } = some (Value.slice p8 n11 n12) ∧
                                                     match p8 with
                                                     | some a4 =>
                                                      ((0 : Int) ≤ i2 ∧ i2 < (↑n11 : Int)) ∧
                                                       ∃ (p9 : Option Addr),
                                                        ∃ (n13 : Nat),
                                                         ∃ (n14 : Nat),
                                                          cellAt h1 (Addr.add (Addr.add a4 (Int.toNat i2 * (4 : Nat))) (1 : Nat)) = some (Value.slice p9 n13 n14) ∧
                                                           entersB Tryz.prog (68 : Nat) = true ∧
                                                            CallH Tryz.prog (68 : Nat) { toList := [Value.pointer p6, Value.int IntKind.i64 i4, Value.slice p9 n13 n14] : Array Value } h1 fun (v1 : Value) (h2 : Heap) =>
                                                             ∃ (i5 : Int),
                                                              v1 = Value.int IntKind.i64 i5 ∧
                                                               ((i5 != (0 : Int)) = true → R (Value.int IntKind.i64 i5) h2) ∧
                                                                ((i5 != (0 : Int)) = false →
                                                                 entersB Tryz.prog (66 : Nat) = true ∧
                                                                  CallH Tryz.prog (66 : Nat) { toList := [Value.pointer (some { block := q0, off := (0 : Nat) : Addr }), Value.int IntKind.i64 i2] : Array Value } h2 fun (v2 : Value) (h3 : Heap) =>
                                                                   v2 = Value.tuple { toList := [] : Array Value } ∧ R (Value.int IntKind.i64 (0 : Int)) h3)
                                                     | none => False
                                             | none => False) ∧
                                      (t1 = false →
                                       entersB Tryz.prog (66 : Nat) = true ∧
                                        CallH Tryz.prog (66 : Nat) { toList := [Value.pointer (some { block := q0, off := (0 : Nat) : Addr }), Value.int IntKind.i64 i2] : Array Value } h1 fun (v3 : Value) (h4 : Heap) =>
                                         v3 = Value.tuple { toList := [] : Array Value } ∧ R (Value.int IntKind.i64 (0 : Int)) h4)
                                 | none => False)
                       | none => False) ∧
                  (decide (i2 ≥ (0 : Int)) = false → R (Value.int IntKind.i64 (6 : Int)) h1))

theorem rcRoom_call (q0 : Nat) {h : Heap} {R : Value → Heap → Prop} (H : rcRoom_vc q0 h R) : CallH Tryz.prog 64 ⟨[.pointer (some ⟨q0, 0, none⟩)]⟩ h R :=
  callH_of_dCode tabOK mixed [(.pointer (some ⟨q0, 0, none⟩), false)] Tryz.func64 (c := bodyC Tryz.f64) (by kernel_rfl) (by kernel_rfl : Tryz.f64.ntmps = 69) rfl
    (Eq.mp (by kernel_rfl : rcRoom_vc q0 h R = dCode Tryz.prog T ⟨[], [(4, [(3, .int .i64)])], [], [], []⟩ (bodyC Tryz.f64) none (dEnd T (Tryz.f64.results.toList) R) (startE 69 [(.pointer (some ⟨q0, 0, none⟩), false)]) h) H)

/-- (*incipit/incipitref05.Cache).out -/
def rcOut_vc (q0 : Nat) (q1 : Int) (h : Heap) (R : Value → Heap → Prop) : Prop :=
  True ∧
 ∀ (n1 : Nat) (rec1 : Array Obj),
  n1 = Array.size h →
   rec1 = Array.push h (Obj.cells { toList := [] : Array Value } (76 : TypeId)) →
    ∃ (I1 : Option Addr → Nat → Nat → Int → Heap → Prop),
     ∃ (M1 : Option Addr → Nat → Nat → Int → Heap → Nat),
      I1 (some { block := n1, off := (0 : Nat) : Addr }) (0 : Nat) (0 : Nat) (0 : Int) rec1 ∧
       ∀ (p1 : Option Addr) (n2 n3 : Nat) (i1 : Int) (h1 : Heap),
        I1 p1 n2 n3 i1 h1 →
         ∃ (p2 : Option Addr),
          ∃ (n4 : Nat),
           ∃ (n5 : Nat),
            cellAt h1 { block := q0, off := (2 : Nat) : Addr } = some (Value.slice p2 n4 n5) ∧
             (decide (i1 < (↑n4 : Int)) = true →
               ((i1 != q1) = true →
                 ∃ (p3 : Option Addr),
                  ∃ (n6 : Nat),
                   ∃ (n7 : Nat),
                    cellAt h1 { block := q0, off := (2 : Nat) : Addr } = some (Value.slice p3 n6 n7) ∧
                     match p3 with
                     | some a1 =>
                      ((0 : Int) ≤ i1 ∧ i1 < (↑n6 : Int)) ∧
                       ∃ (i2 : Int),
                        ∃ (p5 : Option Addr),
                         ∃ (n8 : Nat),
                          ∃ (n9 : Nat),
                           ∃ (t1 : Bool),
                            ∃ (i3 : Int),
                             rowAt h1 (Addr.add a1 (Int.toNat i1 * (4 : Nat))) (4 : Nat) = some [Value.int IntKind.i64 i2, Value.slice p5 n8 n9, Value.bool t1, Value.int IntKind.i64 i3] ∧
                              ((0 : Nat) + (1 : Nat) + (1 : Nat) + (1 : Nat) + (1 : Nat) = (4 : Nat) ∧ True) ∧
                               ∀ (n10 : Nat) (rec2 : Array Obj),
                                n10 = Array.size h1 →
                                 rec2 = Array.push h1 (Obj.cells { toList := [Value.int IntKind.i64 i2, Value.slice p5 n8 n9, Value.bool t1, Value.int IntKind.i64 i3] : Array Value } (76 : TypeId)) →
                                  ∃ (l1 : List Value),
                                   srcIs rec2 (4 : Nat) (1 : Nat) (Value.slice (some { block := n10, off := (0 : Nat) : Addr }) (1 : Nat) (1 : Nat)) l1 ∧
                                    (∀ (v1 : Value), v1 ∈ l1 → isCell v1 = true) ∧
                                     List.length l1 = (4 : Nat) ∧
                                      (n2 + (1 : Nat) ≤ n3 →
                                        match p1 with
                                        | some a2 =>
                                         okRow rec2 (Addr.add a2 (n2 * (4 : Nat))) (List.length l1) ∧
                                          ∀ (h2 : Heap), h2 = updRow rec2 (Addr.add a2 (n2 * (4 : Nat))) (0 : Nat) l1 → I1 p1 (n2 + (1 : Nat)) n3 (IntKind.wrap IntKind.i64 (i1 + (1 : Int))) h2 ∧ M1 p1 (n2 + (1 : Nat)) n3 (IntKind.wrap IntKind.i64 (i1 + (1 : Int))) h2 < M1 p1 n2 n3 i1 h1
                                        | none => I1 p1 (n2 + (1 : Nat)) n3 (IntKind.wrap IntKind.i64 (i1 + (1 : Int))) rec2 ∧ M1 p1 (n2 + (1 : Nat)) n3 (IntKind.wrap IntKind.i64 (i1 + (1 : Int))) rec2 < M1 p1 n2 n3 i1 h1) ∧
                                       (n3 < n2 + (1 : Nat) →
                                        (n2 + (1 : Nat)) * (48 : Nat) ≤ (70368744177664 : Nat) ∧
                                         (0 : Nat) < (48 : Nat) ∧
                                          ∃ (l2 : List Value),
                                           srcIs rec2 (4 : Nat) n2 (Value.slice p1 n2 n3) l2 ∧
                                            ∀ (n11 : Nat),
                                             n2 + (1 : Nat) ≤ n11 →
                                              ∀ (n12 : Nat) (rec3 : Array Obj),
                                               n12 = Array.size rec2 →
                                                rec3 =
                                                  Array.push rec2
                                                   (Obj.cells
                                                    { toList := List.append (List.append l2 l1) (zrow [Value.int IntKind.i64 (Int.ofNat (0)), Value.slice none (0) (0), Value.bool false, Value.int IntKind.i64 (Int.ofNat (0))] (n11 - (n2 + (1 : Nat)))) : Array Value }
                                                    (76 : TypeId)) →
                                                 I1 (some { block := n12, off := (0 : Nat) : Addr }) (n2 + (1 : Nat)) n11 (IntKind.wrap IntKind.i64 (i1 + (1 : Int))) rec3 ∧
                                                  M1 (some { block := n12, off := (0 : Nat) : Addr }) (n2 + (1 : Nat)) n11 (IntKind.wrap IntKind.i64 (i1 + (1 : Int))) rec3 < M1 p1 n2 n3 i1 h1)
                     | none => False) ∧
                ((i1 != q1) = false → I1 p1 n2 n3 (IntKind.wrap IntKind.i64 (i1 + (1 : Int))) h1 ∧ M1 p1 n2 n3 (IntKind.wrap IntKind.i64 (i1 + (1 : Int))) h1 < M1 p1 n2 n3 i1 h1)) ∧
              (decide (i1 < (↑n4 : Int)) = false → true = true ∧ okAt h1 { block := q0, off := (2 : Nat) : Addr } ∧ ∀ (h3 : Heap), h3 = upd h1 { block := q0, off := (2 : Nat) : Addr } (Value.slice p1 n2 n3) → R (Value.tuple { toList := [] : Array Value }) h3)

theorem rcOut_call (q0 : Nat) (q1 : Int) {h : Heap} {R : Value → Heap → Prop} (H : rcOut_vc q0 q1 h R) : CallH Tryz.prog 66 ⟨[.pointer (some ⟨q0, 0, none⟩), .int .i64 q1]⟩ h R :=
  callH_of_dCode tabOK mixed [(.pointer (some ⟨q0, 0, none⟩), false), (.int .i64 q1, false)] Tryz.func66 (c := bodyC Tryz.f66) (by kernel_rfl) (by kernel_rfl : Tryz.f66.ntmps = 33) rfl
    (Eq.mp (by kernel_rfl : rcOut_vc q0 q1 h R = dCode Tryz.prog T ⟨[], [(2, [(4, .sl), (5, .int .i64)])], [], [], []⟩ (bodyC Tryz.f66) none (dEnd T (Tryz.f66.results.toList) R) (startE 33 [(.pointer (some ⟨q0, 0, none⟩), false), (.int .i64 q1, false)]) h) H)

end Go.Proofs.YtfapgccnhonoiaaGreat

/- The reference's cache: what it is, told without places; looking for a page, leaving one out. Part 1. -/
namespace Go.Proofs.YtfapgccnhonoiaaGreat

structure Ent where
  p : Int
  b : Pg
  ch : Bool
  pins : Int

structure RCk where
  size : Int
  L : List Ent
  hits : Int
  misses : Int

structure Rq where
  lp : Option Addr
  lc : Nat
  lr : List (List Value)

def Rq.mut (q : Rq) (w : Nat) : List Nat := w :: blks q.lp

def eRow (h : Heap) (X : List Nat) (r : List Value) (e : Ent) : Prop := ∃ v, r = [i64 e.p, v, .bool e.ch, i64 e.pins] ∧ ByV h X v e.b

structure RcR (h : Heap) (w u : Nat) (K : RCk) (q : Rq) (X : List Nat) : Prop where
  blk : Blk h w [ptr u, i64 K.size, .slice q.lp K.L.length q.lc, i64 K.hits, i64 K.misses]
  lv : VecR h 4 q.lp K.L.length q.lc 0 q.lr
  lq : RowsR (eRow h (q.mut w ++ X)) q.lr K.L
  nodup : w ∉ blks q.lp
  apart : ∀ b ∈ q.mut w, b ∉ X
  few : K.L.length ≤ 1000
  keys : (K.L.map Ent.p).Nodup

def FindR (L : List Ent) (k : Int) (i : Int) : Prop := (∃ (j : Nat) (e : Ent), i = j ∧ L[j]? = some e ∧ e.p = k) ∨ (i = -1 ∧ ∀ e ∈ L, e.p ≠ k)

def without (k : Int) (L : List Ent) : List Ent := L.filter fun e => !(e.p == k)

theorem without_none {k : Int} : ∀ {L : List Ent}, (∀ e ∈ L, e.p ≠ k) → without k L = L := fun h => List.filter_eq_self.2 fun e he => by simpa using h e he

theorem erase_without : ∀ {L : List Ent} {j : Nat} {e : Ent}, (L.map Ent.p).Nodup → L[j]? = some e → L.eraseIdx j = without e.p L
  | [], _, _, _, h => by simp at h
  | x :: r, 0, e, hn, h => by
    simp only [List.getElem?_cons_zero, Option.some.injEq] at h
    subst h
    simp only [List.map_cons, List.nodup_cons, List.mem_map, not_exists, not_and] at hn
    have : without x.p (x :: r) = without x.p r := by simp [without]
    rw [this, without_none fun e he => hn.1 e he]
    rfl
  | x :: r, j + 1, e, hn, h => by
    simp only [List.getElem?_cons_succ] at h
    simp only [List.map_cons, List.nodup_cons, List.mem_map, not_exists, not_and] at hn
    have hx : x.p ≠ e.p := fun he => hn.1 e (List.mem_of_getElem? h) he.symm
    have : without e.p (x :: r) = x :: without e.p r := by simp [without, hx]
    rw [this, List.eraseIdx_cons_succ, erase_without hn.2 h]

theorem without_mem {k : Int} {L : List Ent} {e : Ent} : e ∈ without k L ↔ e ∈ L ∧ e.p ≠ k := by simp [without]

theorem without_keys (k : Int) {L : List Ent} (hn : (L.map Ent.p).Nodup) : ((without k L).map Ent.p).Nodup := by
  unfold without
  exact (List.Sublist.map _ List.filter_sublist).nodup hn

theorem without_len (k : Int) (L : List Ent) : (without k L).length ≤ L.length := List.length_filter_le _ _

section
variable {h h' : Heap} {w u : Nat} {K : RCk} {q : Rq} {X X' F : List Nat}

theorem RcR.lt (r : RcR h w u K q X) : ∀ b ∈ q.mut w, b < h.size := by
  intro b hb
  simp only [Rq.mut, List.mem_cons] at hb
  rcases hb with rfl | hb
  · exact r.blk.lt
  · exact (r.lv.lt b hb).1

theorem erows_move {h h' : Heap} {X X' F : List Nat} (k : Keep h h' F) (hF : ∀ b ∈ F, b ∈ X ∨ h.size ≤ b) (hX : ∀ b ∈ X', b ∈ X ∨ h.size ≤ b) {rs : List (List Value)} {l : List Ent} (q : RowsR (eRow h X) rs l) : RowsR (eRow h' X') rs l :=
  q.mono fun _ _ ⟨v, h1, h2⟩ => ⟨v, h1, h2.move k hF hX⟩

/-- What others do leaves it. -/
theorem RcR.frame (r : RcR h w u K q X) (k : Keep h h' F) (hF : ∀ b ∈ F, b ∈ X ∨ h.size ≤ b) (hX : ∀ b ∈ X', b ∈ X ∨ h.size ≤ b) : RcR h' w u K q X' := by
  have off : ∀ {Y : List Nat}, (∀ b ∈ Y, b ∈ X ∨ h.size ≤ b) → ∀ b ∈ q.mut w, b ∉ Y := fun hY b hb hx => (hY b hx).elim (r.apart b hb) fun h => by have := r.lt b hb; omega
  exact ⟨r.blk.keep k (off hF w (by simp [Rq.mut])), r.lv.keep k fun b hb => off hF b (by simp [Rq.mut, hb]), erows_move (X := q.mut w ++ X) (X' := q.mut w ++ X') k (fun b hb => (hF b hb).imp (List.mem_append_right _) id)
    (fun b hb => (List.mem_append.1 hb).elim (fun h => .inl (List.mem_append_left _ h)) fun h => (hX b h).imp (List.mem_append_right _) id) r.lq, r.nodup, off hX, r.few, r.keys⟩

/-- Behind a call of its own. -/
def RcPost (h h' : Heap) (w u : Nat) (q : Rq) (K' : RCk) (X : List Nat) : Prop := ∃ q', RcR h' w u K' q' X ∧ Fr h h' (q.mut w) (q'.mut w)

theorem RcPost.same (r : RcR h w u K q X) : RcPost h h w u q K X := ⟨q, r, Keep.refl _ _, fun _ hb => .inl hb⟩

theorem RcPost.via {h'' : Heap} {q' : Rq} {K'' : RCk} (f : Fr h h' (q.mut w) (q'.mut w)) (x : RcPost h' h'' w u q' K'' X) : RcPost h h'' w u q K'' X := by
  obtain ⟨p2, r, g⟩ := x
  exact ⟨p2, r, f.trans g⟩

/-- Only the counts have changed. -/
theorem RcR.counts (r : RcR h w u K q X) (hits misses : Int) (k : Keep h h' [w]) (hb : Blk h' w [ptr u, i64 K.size, .slice q.lp K.L.length q.lc, i64 hits, i64 misses]) :
    RcR h' w u { K with hits := hits, misses := misses } q X ∧ Fr h h' (q.mut w) (q.mut w) := by
  have hw : ∀ b ∈ [w], b ∈ q.mut w := fun b hb => by rw [List.mem_singleton.1 hb]; simp [Rq.mut]
  exact ⟨⟨hb, r.lv.keep k (fun x hx => by simp only [List.mem_singleton]; rintro rfl; exact r.nodup hx), erows_move (X := q.mut w ++ X) (X' := q.mut w ++ X) k (fun b hb => .inl (List.mem_append_left _ (hw b hb))) (fun b hb => .inl hb) r.lq, r.nodup, r.apart, r.few, r.keys⟩,
    ⟨k.mono fun b hb => .inl (hw b hb), fun b hb => .inl hb⟩⟩

/-- What stands at a place of the list. -/
theorem RcR.get (r : RcR h w u K q X) {j : Nat} {e : Ent} (hj : K.L[j]? = some e) : ∃ a b cap, q.lp = some ⟨a, 0, none⟩ ∧ q.lr[j]? = some [i64 e.p, .slice (some ⟨b, 0, none⟩) 256 cap, .bool e.ch, i64 e.pins] ∧ ByV h (q.mut w ++ X) (.slice (some ⟨b, 0, none⟩) 256 cap) e.b ∧
    rowAt h ⟨a, j * 4, none⟩ 4 = some [i64 e.p, .slice (some ⟨b, 0, none⟩) 256 cap, .bool e.ch, i64 e.pins] ∧ cellAt h ⟨a, j * 4, none⟩ = some (i64 e.p) ∧ cellAt h ⟨a, j * 4 + 1, none⟩ = some (.slice (some ⟨b, 0, none⟩) 256 cap) ∧ cellAt h ⟨a, j * 4 + 2, none⟩ = some (.bool e.ch) ∧ cellAt h ⟨a, j * 4 + 3, none⟩ = some (i64 e.pins) ∧ ∀ i, i < 4 → okAt h ⟨a, j * 4 + i, none⟩ := by
  obtain ⟨row, hrow, v, rfl, hv⟩ := r.lq.get hj
  obtain ⟨a, x, hp, _, _, hr, hc, hok, _⟩ := r.lv.at hrow
  obtain ⟨b, cap, rfl, _⟩ := hv.slB
  exact ⟨a, b, cap, hp, hrow, hv, hr, hc 0 _ rfl, hc 1 _ rfl, hc 2 _ rfl, hc 3 _ rfl, hok⟩

theorem rcFind_ok (r : RcR h w u K q X) (k : Int) : CallH Tryz.prog 41 ⟨[ptr w, i64 k]⟩ h fun v h' => h' = h ∧ ∃ i : Int, v = i64 i ∧ FindR K.L k i := by
  have hfew := r.few
  refine rcFind_call w k ⟨fun i hh => hh = h ∧ ∃ j : Nat, i = j ∧ j ≤ K.L.length ∧ ∀ e ∈ K.L.take j, e.p ≠ k, fun i _ => (K.L.length - i).toNat, ⟨rfl, 0, rfl, by omega, by simp⟩, ?_⟩
  rintro _ hh ⟨rfl, j, rfl, hj, hall⟩
  refine ⟨_, _, _, r.blk.cell rfl, fun e => ⟨_, _, _, r.blk.cell rfl, ?_⟩, fun e => ?_⟩
  · have hjl : j < K.L.length := by have := of_decide_eq_true e; omega
    obtain ⟨e0, he0⟩ : ∃ e, K.L[j]? = some e := ⟨_, List.getElem?_eq_getElem hjl⟩
    obtain ⟨a, b, cap, hp, _, _, _, hc, _⟩ := r.get he0
    rw [hp]
    refine ⟨⟨by omega, by omega⟩, e0.p, by rw [addr_add]; simpa using hc, fun e2 => ?_, fun e2 => ?_⟩
    · exact ⟨rfl, _, rfl, .inl ⟨j, e0, rfl, he0, by simpa using e2⟩⟩
    · have wj : IntKind.wrap .i64 ((j : Int) + 1) = ((j + 1 : Nat) : Int) := by rw [w64 _ (by omega) (by omega)]; rfl
      rw [wj]
      refine ⟨⟨rfl, j + 1, rfl, by omega, fun e he => ?_⟩, ?_⟩
      · rw [take_succ_get he0] at he
        rcases List.mem_append.1 he with h | h
        · exact hall e h
        · rw [List.mem_singleton.1 h]; simpa using e2
      · show ((K.L.length : Int) - ((j + 1 : Nat) : Int)).toNat < ((K.L.length : Int) - (j : Int)).toNat
        omega
  · have hjl : j = K.L.length := by have := of_decide_eq_false e; omega
    subst hjl
    rw [List.take_length] at hall
    exact ⟨rfl, _, rfl, .inr ⟨rfl, hall⟩⟩

theorem erase_take {α : Type} {l : List α} {i j : Nat} {a : α} (h : l[j]? = some a) : (l.take (j + 1)).eraseIdx i = if j = i then (l.take j).eraseIdx i else (l.take j).eraseIdx i ++ [a] := by
  have hj := (List.getElem?_eq_some_iff.1 h).1
  have hl : (l.take j).length = j := by rw [List.length_take]; omega
  rw [take_succ_get h]
  by_cases h1 : i < j
  · rw [if_neg (by omega), List.eraseIdx_append_of_lt_length (by omega)]
  · rw [List.eraseIdx_append_of_length_le (by omega), hl, List.eraseIdx_of_length_le (l := l.take j) (by omega)]
    by_cases h2 : j = i
    · subst h2; simp
    · rw [if_neg h2, List.eraseIdx_of_length_le (by simp; omega)]

def OutI (h : Heap) (w i : Nat) (q : Rq) (L : List Ent) (X : List Nat) (p1 : Option Addr) (n2 n3 : Nat) (x : Int) (hh : Heap) : Prop :=
  ∃ (j : Nat) (rs : List (List Value)), x = j ∧ j ≤ L.length ∧ VecR hh 4 p1 n2 n3 h.size rs ∧ n2 ≤ j ∧ RowsR (eRow hh ((q.mut w ++ blks p1) ++ X)) rs ((L.take j).eraseIdx i) ∧ Keep h hh []

/-- One place is left out. -/
theorem rcOut_ok (r : RcR h w u K q X) (hX : ∀ b ∈ X, b < h.size) (i : Nat) : CallH Tryz.prog 66 ⟨[ptr w, i64 i]⟩ h fun v h' => v = .tuple ⟨[]⟩ ∧ RcPost h h' w u q { K with L := K.L.eraseIdx i } X := by
  have hfew := r.few
  refine rcOut_call w i ⟨trivial, fun n1 h0 hn1 hh0 => ?_⟩
  have k0 : Keep h h0 [] := by rw [hh0]; exact Keep.push _ _ _
  have b0 : Blk h0 n1 ([] ++ []) := by rw [hh0, hn1]; exact Blk.new _ _ _
  refine ⟨OutI h w i q K.L X, fun _ _ _ x _ => (K.L.length - x).toNat, ⟨0, [], rfl, by omega, ⟨rfl, nofun, .inr ⟨n1, [], rfl, by omega, b0, by omega, by simp⟩⟩, by omega, by simp [RowsR], k0⟩, ?_⟩
  rintro p1 n2 n3 _ h1 ⟨j, rs, rfl, hj, v1, hn2, q1, k1⟩
  have r1 : RcR h1 w u K q X := r.frame k1 (by simp) fun b hb => .inl hb
  have b1 := r1.blk
  refine ⟨_, _, _, b1.cell rfl, fun e => ?_, fun e => ?_⟩
  · have hjl : j < K.L.length := by have := of_decide_eq_true e; omega
    obtain ⟨e0, he0⟩ : ∃ e, K.L[j]? = some e := ⟨_, List.getElem?_eq_getElem hjl⟩
    have wj : IntKind.wrap .i64 ((j : Int) + 1) = ((j + 1 : Nat) : Int) := by rw [w64 _ (by omega) (by omega)]; rfl
    have het := erase_take (i := i) he0
    have hm : ((K.L.length : Int) - ((j + 1 : Nat) : Int)).toNat < ((K.L.length : Int) - (j : Int)).toNat := by omega
    refine ⟨fun e1 => ?_, fun e1 => ?_⟩
    · have hne : j ≠ i := by
        intro h
        rw [h] at e1
        simp at e1
      obtain ⟨_, b, cap, _, hrow, hv, _⟩ := r.get he0
      obtain ⟨a, _, hp, _, _, hr, _⟩ := r1.lv.at hrow
      refine ⟨_, _, _, b1.cell rfl, ?_⟩
      rw [hp]
      refine ⟨⟨by omega, by omega⟩, _, _, _, _, _, _, by rw [addr_add]; simpa using hr, ⟨rfl, trivial⟩, fun n7 h3 hn7 hh3 => ?_⟩
      rw [wj]
      refine VecR.append v1 k1.size [i64 e0.p, .slice (some ⟨b, 0, none⟩) 256 cap, .bool e0.ch, i64 e0.pins] [.int .i64 (Int.ofNat 0), .slice none 0 0, .bool false, .int .i64 (Int.ofNat 0)] rfl rfl (by simp [isCell]) 76 48 (by omega) (by omega)
        (fun hx px cx => OutI h w i q K.L X px (n2 + 1) cx ((j + 1 : Nat) : Int) hx ∧ ((K.L.length : Int) - ((j + 1 : Nat) : Int)).toNat < ((K.L.length : Int) - (j : Int)).toNat) ?_ n7 h3 hn7 hh3
      intro hx px cx vx kx fx
      have sub : ∀ b ∈ (q.mut w ++ blks px) ++ X, b ∈ ((q.mut w ++ blks p1) ++ X) ∨ h1.size ≤ b := fun b hb => by
        simp only [List.mem_append] at hb ⊢
        rcases hb with (hb | hb) | hb
        · exact .inl (.inl (.inl hb))
        · exact (fx b hb).imp (fun h => .inl (.inr h)) id
        · exact .inl (.inr hb)
      have fsub : ∀ b ∈ blks p1, b ∈ (q.mut w ++ blks p1) ++ X ∨ h1.size ≤ b := fun b hb => .inl (by simp [hb])
      have hlt1 := fun b hb => (v1.lt b hb).2
      refine ⟨⟨j + 1, _, rfl, by omega, vx, by omega, ?_, k1.trans kx fun b hb => .inr (hlt1 b hb)⟩, hm⟩
      rw [het, if_neg hne]
      refine (erows_move kx fsub sub q1).snoc ⟨_, rfl, hv.move (F := []) (k1.trans kx fun b hb => .inr (hlt1 b hb)) (by simp) fun b hb => ?_⟩
      simp only [List.mem_append] at hb ⊢
      rcases hb with (hb | hb) | hb
      · exact .inl (.inl hb)
      · refine .inr ((fx b hb).elim (hlt1 b) fun h => ?_)
        have := k1.size; omega
      · exact .inl (.inr hb)
    · have hne : j = i := by
        have : ((j : Int) == (i : Int)) = true := by simpa [bne] using e1
        have := eq_of_beq this
        omega
      rw [wj]
      refine ⟨⟨j + 1, rs, rfl, by omega, v1, by omega, ?_, k1⟩, hm⟩
      rw [het, if_pos hne]; exact q1
  · have hjl : j = K.L.length := by have := of_decide_eq_false e; omega
    subst hjl
    rw [List.take_length] at q1
    refine ⟨rfl, b1.ok (by simp), fun h2 hh2 => ⟨rfl, ?_⟩⟩
    have k2 : Keep h1 h2 [w] := by rw [hh2]; exact Keep.upd _ _ _ _ _ (by simp)
    have b2 := b1.upd 2 (.slice p1 n2 n3)
    rw [← hh2] at b2
    have hlt1 := fun b hb => v1.lt b hb
    have hwl := r.blk.lt
    have hn2 : n2 = (K.L.eraseIdx i).length := by rw [← q1.len]; exact v1.1
    have hwp : w ∉ blks p1 := fun hm => by have := (hlt1 w hm).2; omega
    have fr : Fr h h2 (q.mut w) (({ lp := p1, lc := n3, lr := rs } : Rq).mut w) := ⟨(k1.mono (by simp)).trans' (k2.mono fun b hb => .inl (by rw [List.mem_singleton.1 hb]; simp [Rq.mut])), fun b hb => by
      simp only [Rq.mut, List.mem_cons] at hb ⊢
      rcases hb with hb | hb
      · exact .inl (.inl hb)
      · exact .inr (hlt1 b hb).2⟩
    subst hn2
    refine ⟨⟨p1, n3, rs⟩, ⟨b2, (v1.keep k2 fun x hx => by simp only [List.mem_singleton]; rintro rfl; exact hwp hx).mono (by omega), erows_move (X := (q.mut w ++ blks p1) ++ X) (X' := ({ lp := p1, lc := n3, lr := rs } : Rq).mut w ++ X) k2 (fun b hb => .inl (by rw [List.mem_singleton.1 hb]; simp [Rq.mut])) (fun b hb => .inl ?_) q1, hwp, fun b hb hx => ?_, ?_, ?_⟩, fr⟩
    · simp only [Rq.mut, List.mem_cons, List.mem_append] at hb ⊢
      rcases hb with (hb | hb) | hb
      · exact .inl (.inl (.inl hb))
      · exact .inl (.inr hb)
      · exact .inr hb
    · rcases fr.sub b hb with h | h
      · exact r.apart b h hx
      · have := hX b hx; omega
    · have := List.length_eraseIdx_le K.L i
      show (K.L.eraseIdx i).length ≤ 1000
      omega
    · exact (List.Sublist.map _ (List.eraseIdx_sublist _ _)).nodup r.keys

end
end Go.Proofs.YtfapgccnhonoiaaGreat

/- The reference's cache, part 2: a page is used. -/
namespace Go.Proofs.YtfapgccnhonoiaaGreat

def Ent.row (e : Ent) (v : Value) : List Value := [i64 e.p, v, .bool e.ch, i64 e.pins]

section
variable {h h' : Heap} {w u : Nat} {K : RCk} {q : Rq} {X X' F : List Nat}

theorem rows_cell {h : Heap} {X : List Nat} : ∀ {rs : List (List Value)} {l : List Ent}, RowsR (eRow h X) rs l → ∀ v ∈ rs.flatten, isCell v = true
  | [], [], _, v, hv => by simp at hv
  | [], _ :: _, h, _, _ => h.elim
  | _ :: _, [], h, _, _ => h.elim
  | r :: rs, e :: l, h, v, hv => by
    rw [List.flatten_cons, List.mem_append] at hv
    rcases hv with hv | hv
    · obtain ⟨x, rfl, hx⟩ := h.1
      simp only [List.mem_cons, List.not_mem_nil, or_false] at hv
      rcases hv with rfl | rfl | rfl | rfl
      · rfl
      · exact hx.isSl
      · rfl
      · rfl
    · exact rows_cell h.2 v hv

theorem VecR.src {h : Heap} {k : Nat} {p : Option Addr} {n c lo : Nat} {rs : List (List Value)} (v : VecR h k p n c lo rs) : srcIs h k n (.slice p n c) rs.flatten ∧ rs.flatten.length = n * k := by
  obtain ⟨h1, h0, h2⟩ := v
  have hfl : rs.flatten.length = n * k := by rw [flat_len k rs h0, h1]
  refine ⟨?_, hfl⟩
  rcases h2 with ⟨rfl, hc, rfl⟩ | ⟨b, x, rfl, h3, hb, hcn, hx⟩
  · rfl
  · show rowAt h ⟨b, 0, none⟩ (n * k) = some rs.flatten
    rw [hb.row (by rw [List.length_append]; omega), ← hfl]
    simp

/-- The entry and all of the list, in an array of its own. -/
theorem use_tail (r : RcR h w u K q X) (hX : ∀ b ∈ X, b < h.size) (e : Ent) {n1 b cap : Nat} (hn1 : Blk h n1 [i64 e.p, .slice (some ⟨b, 0, none⟩) 256 cap, .bool e.ch, i64 e.pins]) (hv : ByV h (q.mut w ++ X) (.slice (some ⟨b, 0, none⟩) 256 cap) e.b) (hk : ∀ x ∈ K.L, x.p ≠ e.p) (hl : K.L.length < 1000)
    (P : Heap → Prop) (hP : ∀ h', RcPost h h' w u q { K with L := e :: K.L } X → P h') :
    ∃ (i3 : Int) (p1 : Option Addr) (n2 n3 : Nat) (t1 : Bool) (i4 : Int), rowAt h ⟨n1, 0, none⟩ 4 = some [i64 i3, .slice p1 n2 n3, .bool t1, i64 i4] ∧ (0 + 1 + 1 + 1 + 1 = 4 ∧ True) ∧
      ∀ (n4 : Nat) (rec2 : Heap), n4 = h.size → rec2 = h.push (.cells ⟨[i64 i3, .slice p1 n2 n3, .bool t1, i64 i4]⟩ 76 (0, 0)) →
        ∃ (p2 : Option Addr) (n5 n6 : Nat), cellAt rec2 ⟨w, 2, none⟩ = some (.slice p2 n5 n6) ∧ ∃ l1, srcIs rec2 4 n5 (.slice p2 n5 n6) l1 ∧ (∀ v, v ∈ l1 → isCell v = true) ∧ l1.length = n5 * 4 ∧
          (1 + n5 ≤ 1 → okRow rec2 ⟨n4, 4, none⟩ l1.length ∧ ∀ h3, h3 = updRow rec2 ⟨n4, 4, none⟩ 0 l1 → true = true ∧ okAt h3 ⟨w, 2, none⟩ ∧ ∀ h4, h4 = upd h3 ⟨w, 2, none⟩ (.slice (some ⟨n4, 0, none⟩) (1 + n5) 1) → P h4) ∧
          (1 < 1 + n5 → (1 + n5) * 48 ≤ 70368744177664 ∧ 0 < 48 ∧ ∃ l2, srcIs rec2 4 1 (.slice (some ⟨n4, 0, none⟩) 1 1) l2 ∧ ∀ n7, 1 + n5 ≤ n7 → ∀ (n8 : Nat) (rec3 : Heap), n8 = rec2.size →
            rec3 = rec2.push (.cells ⟨List.append (List.append l2 l1) (zrow [.int .i64 (Int.ofNat 0), .slice none 0 0, .bool false, .int .i64 (Int.ofNat 0)] (n7 - (1 + n5)))⟩ 76 (0, 0)) →
            true = true ∧ okAt rec3 ⟨w, 2, none⟩ ∧ ∀ h5, h5 = upd rec3 ⟨w, 2, none⟩ (.slice (some ⟨n8, 0, none⟩) (1 + n5) n7) → P h5) := by
  refine ⟨_, _, _, _, _, _, by rw [hn1.row (by simp)]; rfl, ⟨rfl, trivial⟩, fun n4 rec2 hn4 hrec2 => ?_⟩
  have k2 : Keep h rec2 [] := by rw [hrec2]; exact Keep.push _ _ _
  have b4 : Blk rec2 n4 [i64 e.p, .slice (some ⟨b, 0, none⟩) 256 cap, .bool e.ch, i64 e.pins] := by rw [hrec2, hn4]; exact Blk.new _ _ _
  have r2 : RcR rec2 w u K q X := r.frame k2 (by simp) fun b hb => .inl hb
  have s2 := k2.size
  obtain ⟨src, hlen⟩ := r2.lv.src
  have hrl := r.lv.1
  have hwl := r.blk.lt
  have fin : ∀ (hx : Heap) (nb cx : Nat) (x : List Value), Keep h hx [] → Blk hx nb (([i64 e.p, .slice (some ⟨b, 0, none⟩) 256 cap, .bool e.ch, i64 e.pins] :: q.lr).flatten ++ x) → h.size ≤ nb → 1 + K.L.length ≤ cx → x.length = (cx - (1 + K.L.length)) * 4 →
      true = true ∧ okAt hx ⟨w, 2, none⟩ ∧ ∀ hy, hy = upd hx ⟨w, 2, none⟩ (.slice (some ⟨nb, 0, none⟩) (1 + K.L.length) cx) → P hy := by
    intro hx nb cx x kx bx hge hle hxl
    have bw := r.blk.keep kx (by simp)
    refine ⟨rfl, bw.ok (by simp), fun hy hhy => hP hy ?_⟩
    have ky : Keep hx hy [w] := by rw [hhy]; exact Keep.upd _ _ _ _ _ (by simp)
    have by' := bw.upd 2 (.slice (some ⟨nb, 0, none⟩) (1 + K.L.length) cx)
    rw [← hhy] at by'
    have hne : nb ≠ w := by omega
    have kxy : Keep h hy [w] := (kx.mono (by simp)).trans' ky
    have sub : ∀ b ∈ ({ lp := some ⟨nb, 0, none⟩, lc := cx, lr := [i64 e.p, .slice (some ⟨b, 0, none⟩) 256 cap, .bool e.ch, i64 e.pins] :: q.lr } : Rq).mut w, b ∈ q.mut w ∨ h.size ≤ b := fun b hb => by
      simp only [Rq.mut, blks, List.mem_cons, List.not_mem_nil, or_false] at hb ⊢
      rcases hb with hb | hb
      · exact .inl (.inl hb)
      · exact .inr (by omega)
    have sub2 : ∀ b' ∈ ({ lp := some ⟨nb, 0, none⟩, lc := cx, lr := [i64 e.p, .slice (some ⟨b, 0, none⟩) 256 cap, .bool e.ch, i64 e.pins] :: q.lr } : Rq).mut w ++ X, b' ∈ q.mut w ++ X ∨ h.size ≤ b' := fun b' hb => (List.mem_append.1 hb).elim (fun h => (sub b' h).imp (List.mem_append_left _) id) fun h => .inl (List.mem_append_right _ h)
    have hF : ∀ b ∈ [w], b ∈ q.mut w := fun b hb => by rw [List.mem_singleton.1 hb]; simp [Rq.mut]
    refine ⟨⟨some ⟨nb, 0, none⟩, cx, [i64 e.p, .slice (some ⟨b, 0, none⟩) 256 cap, .bool e.ch, i64 e.pins] :: q.lr⟩, ⟨?_, ?_, ⟨⟨_, rfl, hv.move kxy (fun b hb => .inl (List.mem_append_left _ (hF b hb))) sub2⟩, erows_move kxy (fun b hb => .inl (List.mem_append_left _ (hF b hb))) sub2 r.lq⟩, ?_, fun b hb hx => ?_, ?_, ?_⟩, kxy.mono fun b hb => .inl (hF b hb), sub⟩
    · simpa [Nat.add_comm] using by'
    · refine ⟨by simp [hrl], fun r' hr' => ?_, .inr ⟨nb, x, rfl, by omega, bx.keep ky (by simp [hne]), by simp only [List.length_cons]; omega, by simp only [List.length_cons]; rw [hxl, Nat.add_comm]⟩⟩
      rcases List.mem_cons.1 hr' with rfl | h
      · rfl
      · exact r.lv.2.1 r' h
    · simp only [blks, List.mem_singleton]; omega
    · rcases sub b hb with h | h
      · exact r.apart b h hx
      · have := hX b hx; omega
    · simp only [List.length_cons]; omega
    · simp only [List.map_cons, List.nodup_cons, List.mem_map, not_exists, not_and]
      exact ⟨fun x hx hxe => hk x hx hxe, r.keys⟩
  refine ⟨_, _, _, r2.blk.cell rfl, _, src, rows_cell r2.lq, hlen, fun hle => ?_, fun hlt => ?_⟩
  · have h0 : K.L.length = 0 := by omega
    have hr0 : q.lr = [] := List.eq_nil_of_length_eq_zero (by omega)
    have hf0 : q.lr.flatten = [] := by rw [hr0]; rfl
    rw [hf0]
    refine ⟨b4.okRow (by simp), fun h3 hh3 => fin h3 n4 1 [] (k2.trans (F' := [n4]) (by rw [hh3]; exact Keep.updRow _ _ _ _ _ (by simp)) (by simp; omega)) ?_ (by omega) (by omega) (by rw [h0]; rfl)⟩
    have := b4.updRow (k := 4) (vs := []) (by simp)
    rw [← hh3] at this
    simpa [hr0] using this
  · refine ⟨by omega, by omega, [i64 e.p, .slice (some ⟨b, 0, none⟩) 256 cap, .bool e.ch, i64 e.pins], ?_, fun n7 hn7 n8 rec3 hn8 hrec3 => fin rec3 n8 n7 (zrow [.int .i64 (Int.ofNat 0), .slice none 0 0, .bool false, .int .i64 (Int.ofNat 0)] (n7 - (1 + K.L.length))) ?_ ?_ (by omega) hn7 (by rw [zrow_len]; rfl)⟩
    · show rowAt rec2 ⟨n4, 0, none⟩ (1 * 4) = _
      rw [b4.row (by simp)]; rfl
    · exact k2.trans (F' := []) (by rw [hrec3]; exact Keep.push _ _ _) (by simp)
    · rw [hrec3, hn8]
      exact Blk.new _ _ _

theorem rcUse_ok (r : RcR h w u K q X) (hX : ∀ b ∈ X, b < h.size) (e : Ent) {b cap : Nat} (hv : ByV h (q.mut w ++ X) (.slice (some ⟨b, 0, none⟩) 256 cap) e.b) (hl : K.L.length < 1000) :
    CallH Tryz.prog 63 ⟨[ptr w, .agg ⟨[i64 e.p, .slice (some ⟨b, 0, none⟩) 256 cap, .bool e.ch, i64 e.pins]⟩]⟩ h fun v h' => v = .tuple ⟨[]⟩ ∧ RcPost h h' w u q { K with L := e :: without e.p K.L } X := by
  refine rcUse_call w e.p _ _ _ e.ch e.pins fun n1 h1 hn1 hh1 => ?_
  have k1 : Keep h h1 [] := by rw [hh1]; exact Keep.push _ _ _
  have b1 : Blk h1 n1 [i64 e.p, .slice (some ⟨b, 0, none⟩) 256 cap, .bool e.ch, i64 e.pins] := by rw [hh1, hn1]; exact Blk.new _ _ _
  have r1 : RcR h1 w u K q X := r.frame k1 (by simp) fun b hb => .inl hb
  have hv1 := hv.move k1 (by simp) fun b hb => .inl hb
  have s1 := k1.size
  have hX1 : ∀ b ∈ X, b < h1.size := fun b hb => by have := hX b hb; omega
  have f1 : Fr h h1 (q.mut w) (q.mut w) := ⟨k1.mono (by simp), fun b hb => .inl hb⟩
  refine ⟨_, b1.cell rfl, by kernel_rfl, (rcFind_ok r1 e.p).mono ?_⟩
  rintro _ _ ⟨rfl, i, rfl, hf⟩
  refine ⟨_, rfl, fun t => ?_, fun t => ?_⟩
  · have hi : 0 ≤ i := of_decide_eq_true t
    obtain ⟨j, x, rfl, hj, hx⟩ := hf.resolve_right (fun h => by omega)
    refine ⟨by kernel_rfl, (rcOut_ok r1 hX1 j).mono ?_⟩
    rintro _ h2 ⟨rfl, q2, r2, f2⟩
    have hne := erase_without r1.keys hj
    rw [hx] at hne
    rw [hne] at r2
    have s2 := f2.keep.size
    have hn1q : n1 ∉ q.mut w := fun hm => by have := r.lt n1 hm; omega
    exact ⟨rfl, use_tail r2 (fun b hb => by have := hX1 b hb; omega) e (b1.keep f2.keep hn1q) (hv1.move f2.keep (fun b hb => .inl (List.mem_append_left _ hb)) fun b hb => (List.mem_append.1 hb).elim (fun h => (f2.sub b h).imp (List.mem_append_left _) id) fun h => .inl (List.mem_append_right _ h))
      (fun y hy => (without_mem.1 hy).2) (by have := without_len e.p K.L; show (without e.p K.L).length < 1000; omega) (fun h => Value.tuple ⟨[]⟩ = .tuple ⟨[]⟩ ∧ RcPost _ h w u q { K with L := e :: without e.p K.L } X) fun h' x => ⟨rfl, RcPost.via (f1.trans f2) x⟩⟩
  · have hi : ¬ 0 ≤ i := of_decide_eq_false t
    have hnone := (hf.resolve_left (fun ⟨j, _, h, _⟩ => by omega)).2
    rw [without_none hnone]
    exact use_tail r1 hX1 e b1 hv1 hnone hl (fun h => Value.tuple ⟨[]⟩ = .tuple ⟨[]⟩ ∧ RcPost _ h w u q { K with L := e :: K.L } X) fun h' x => ⟨rfl, RcPost.via f1 x⟩

end
end Go.Proofs.YtfapgccnhonoiaaGreat

/- The reference's cache, part 3: cache and disk together; room. -/
namespace Go.Proofs.YtfapgccnhonoiaaGreat

structure Ref (h : Heap) (w u : Nat) (K : RCk) (q : Rq) (E : RDk) (p : Rp) (X : List Nat) : Prop where
  c : RcR h w u K q (p.mut u ++ X)
  d : RdR h u E p (q.mut w ++ X)
  old : ∀ b ∈ X, b < h.size

def RefPost (h h' : Heap) (w u : Nat) (q : Rq) (p : Rp) (K' : RCk) (E' : RDk) (X : List Nat) : Prop :=
  ∃ q' p', Ref h' w u K' q' E' p' X ∧ Fr h h' (q.mut w ++ p.mut u) (q'.mut w ++ p'.mut u)

section
variable {h h' : Heap} {w u : Nat} {K K' : RCk} {q : Rq} {E E' : RDk} {p : Rp} {X X' F : List Nat}

theorem Ref.hc (R : Ref h w u K q E p X) : ∀ b ∈ p.mut u ++ X, b < h.size := fun b hb => (List.mem_append.1 hb).elim (R.d.lt b) (R.old b)
theorem Ref.hd (R : Ref h w u K q E p X) : ∀ b ∈ q.mut w ++ X, b < h.size := fun b hb => (List.mem_append.1 hb).elim (R.c.lt b) (R.old b)

theorem Ref.frame (R : Ref h w u K q E p X) (k : Keep h h' F) (hF : ∀ b ∈ F, b ∈ X ∨ h.size ≤ b) (hX : ∀ b ∈ X', b ∈ X ∨ h.size ≤ b) (ho : ∀ b ∈ X', b < h'.size) : Ref h' w u K q E p X' :=
  ⟨R.c.frame k (fun b hb => (hF b hb).imp (List.mem_append_right _) id) fun b hb => (List.mem_append.1 hb).elim (fun h => .inl (List.mem_append_left _ h)) fun h => (hX b h).imp (List.mem_append_right _) id,
   R.d.frame k (fun b hb => (hF b hb).imp (List.mem_append_right _) id) fun b hb => (List.mem_append.1 hb).elim (fun h => .inl (List.mem_append_left _ h)) fun h => (hX b h).imp (List.mem_append_right _) id, ho⟩

theorem Ref.beside (R : Ref h w u K q E p X) (k : Keep h h' []) : Ref h' w u K q E p X := R.frame k (by simp) (fun b hb => .inl hb) fun b hb => Nat.lt_of_lt_of_le (R.old b hb) k.size

theorem RefPost.same (R : Ref h w u K q E p X) : RefPost h h w u q p K E X := ⟨q, p, R, Keep.refl _ _, fun _ hb => .inl hb⟩

theorem RefPost.beside (R : Ref h w u K q E p X) (k : Keep h h' []) : RefPost h h' w u q p K E X := ⟨q, p, R.beside k, k.mono (by simp), fun _ hb => .inl hb⟩

theorem RefPost.via {h'' : Heap} {q' : Rq} {p' : Rp} {K'' : RCk} {E'' : RDk} (f : Fr h h' (q.mut w ++ p.mut u) (q'.mut w ++ p'.mut u)) (x : RefPost h' h'' w u q' p' K'' E'' X) : RefPost h h'' w u q p K'' E'' X := by
  obtain ⟨q2, p2, r, g⟩ := x
  exact ⟨q2, p2, r, f.trans g⟩

theorem Fr.left {h h' : Heap} {A B : List Nat} (f : Fr h h' A B) (C : List Nat) : Fr h h' (A ++ C) (B ++ C) :=
  ⟨f.keep.mono fun b hb => .inl (List.mem_append_left _ hb), fun b hb => (List.mem_append.1 hb).elim (fun h => (f.sub b h).imp (List.mem_append_left _) id) fun h => .inl (List.mem_append_right _ h)⟩
theorem Fr.right {h h' : Heap} {A B : List Nat} (f : Fr h h' A B) (C : List Nat) : Fr h h' (C ++ A) (C ++ B) :=
  ⟨f.keep.mono fun b hb => .inl (List.mem_append_right _ hb), fun b hb => (List.mem_append.1 hb).elim (fun h => .inl (List.mem_append_left _ h)) fun h => (f.sub b h).imp (List.mem_append_right _) id⟩

theorem Ref.ofC {q' : Rq} (R : Ref h w u K q E p X) (r : RcR h' w u K' q' (p.mut u ++ X)) (f : Fr h h' (q.mut w) (q'.mut w)) : Ref h' w u K' q' E p X ∧ Fr h h' (q.mut w ++ p.mut u) (q'.mut w ++ p.mut u) :=
  ⟨⟨r, R.d.frame f.keep (fun b hb => .inl (List.mem_append_left _ hb)) (f.left X).sub, fun b hb => Nat.lt_of_lt_of_le (R.old b hb) f.keep.size⟩, f.left _⟩

theorem Ref.ofD {p' : Rp} (R : Ref h w u K q E p X) (r : RdR h' u E' p' (q.mut w ++ X)) (f : Fr h h' (p.mut u) (p'.mut u)) : Ref h' w u K q E' p' X ∧ Fr h h' (q.mut w ++ p.mut u) (q.mut w ++ p'.mut u) :=
  ⟨⟨R.c.frame f.keep (fun b hb => .inl (List.mem_append_left _ hb)) (f.left X).sub, r, fun b hb => Nat.lt_of_lt_of_le (R.old b hb) f.keep.size⟩, f.right _⟩

def RDk.wr (E : RDk) (k : Int) (pg : Pg) : RDk × Int := if E.at k 256 = 0 then E.write k pg else (E, E.at k 256)

theorem Ref.write (R : Ref h w u K q E p X) (k : Int) {s : Option Addr} {c : Nat} {pg : Pg} (hs : SlB h s 256 pg) (hb : E.W.length < 1000000) : CallH Tryz.prog 68 ⟨[ptr u, i64 k, .slice s 256 c]⟩ h fun v h' =>
    ∃ p', v = i64 (E.wr k pg).2 ∧ Ref h' w u K q (E.wr k pg).1 p' X ∧ Fr h h' (q.mut w ++ p.mut u) (q.mut w ++ p'.mut u) := by
  refine (rdWrite_ok R.d R.hd k hs (by omega) hb).mono ?_
  rintro v h' ⟨h1, h2⟩
  unfold RDk.wr
  by_cases ha : E.at k 256 = 0
  · rw [if_pos ha]
    obtain ⟨e, p', r, f⟩ := h2 ha
    obtain ⟨a, b⟩ := R.ofD r f
    exact ⟨p', e, a, b⟩
  · rw [if_neg ha]
    obtain ⟨e, rfl⟩ := h1 ha
    exact ⟨p, e, R, Keep.refl _ _, fun _ hb => .inl hb⟩

def rcRoomR (E : RDk) (K : RCk) (v : Int) (E' : RDk) (K' : RCk) : Prop :=
  ((K.L.length : Int) < K.size ∧ v = 0 ∧ E' = E ∧ K' = K) ∨
  (¬ (K.L.length : Int) < K.size ∧ (((∀ e ∈ K.L, 0 < e.pins) ∧ v = 6 ∧ E' = E ∧ K' = K) ∨
    ∃ (j : Nat) (e : Ent), K.L[j]? = some e ∧ ¬ 0 < e.pins ∧ (∀ (i : Nat) (x : Ent), j < i → K.L[i]? = some x → 0 < x.pins) ∧
      ((e.ch = false ∧ v = 0 ∧ E' = E ∧ K' = { K with L := without e.p K.L }) ∨
       (e.ch = true ∧ v = (E.wr e.p e.b).2 ∧ E' = (E.wr e.p e.b).1 ∧ K' = if v = 0 then { K with L := without e.p K.L } else K))))

theorem Ref.out (R : Ref h w u K q E p X) {j : Nat} {e : Ent} (hj : K.L[j]? = some e) : CallH Tryz.prog 66 ⟨[ptr w, i64 j]⟩ h fun v h' => v = .tuple ⟨[]⟩ ∧ RefPost h h' w u q p { K with L := without e.p K.L } E X := by
  refine (rcOut_ok R.c R.hc j).mono ?_
  rintro _ h' ⟨rfl, q', r, f⟩
  rw [erase_without R.c.keys hj] at r
  obtain ⟨a, b⟩ := R.ofC r f
  exact ⟨rfl, q', p, a, b⟩

theorem rcRoom_ok (R : Ref h w u K q E p X) (hb : E.W.length < 1000000) : CallH Tryz.prog 64 ⟨[ptr w]⟩ h fun v h' => ∃ n K' E', v = i64 n ∧ rcRoomR E K n E' K' ∧ RefPost h h' w u q p K' E' X := by
  have hfew := R.c.few
  refine rcRoom_call w ⟨_, _, _, R.c.blk.cell rfl, _, R.c.blk.cell rfl, fun e => ?_, fun e => ?_⟩
  · exact ⟨0, K, E, rfl, .inl ⟨of_decide_eq_true e, rfl, rfl, rfl⟩, RefPost.same R⟩
  have hfull : ¬ (K.L.length : Int) < K.size := of_decide_eq_false e
  refine ⟨_, _, _, R.c.blk.cell rfl, fun i hh => hh = h ∧ -1 ≤ i ∧ i < K.L.length ∧ ∀ (j : Nat) x, i < j → K.L[j]? = some x → 0 < x.pins, fun i _ => (i + 1).toNat, ?_, ?_⟩
  · rw [w64 _ (by omega) (by omega)]
    refine ⟨rfl, by omega, by omega, fun j x hj hx => ?_⟩
    have := (List.getElem?_eq_some_iff.1 hx).1
    omega
  rintro i hh ⟨rfl, hi1, hi2, hi3⟩
  refine ⟨fun e => ?_, fun e => ?_⟩
  · have hi0 : 0 ≤ i := of_decide_eq_true e
    obtain ⟨j, rfl⟩ : ∃ j : Nat, i = j := ⟨i.toNat, by omega⟩
    obtain ⟨x, hx⟩ : ∃ x, K.L[j]? = some x := ⟨_, List.getElem?_eq_getElem (by omega)⟩
    obtain ⟨a, b, cap, hp, _, hv, _, c0, c1, c2, c3, _⟩ := R.c.get hx
    have blk := R.c.blk
    rw [hp] at blk
    have hcell : ∀ n v, cellAt hh ⟨a, j * 4 + n, none⟩ = some v → cellAt hh (Addr.add (Addr.add ⟨a, 0, none⟩ ((j : Int).toNat * 4)) n) = some v := fun n v h => by rw [addr_add, addr_add]; simpa using h
    refine ⟨_, _, _, blk.cell rfl, ⟨by omega, by omega⟩, _, hcell 3 _ c3, fun t => ?_, fun t => ?_⟩
    · rw [w64 _ (by omega) (by omega)]
      refine ⟨⟨rfl, by omega, by omega, fun j' x' hj' hx' => ?_⟩, ?_⟩
      · by_cases h : (j : Int) < j'
        · exact hi3 j' x' h hx'
        · have : j' = j := by omega
          rw [this, hx] at hx'
          rw [← Option.some.inj hx']
          exact of_decide_eq_true t
      · show ((j : Int) - 1 + 1).toNat < ((j : Int) + 1).toNat
        omega
    · have hpin : ¬ 0 < x.pins := of_decide_eq_false t
      refine ⟨_, _, _, blk.cell rfl, ⟨by omega, by omega⟩, _, hcell 2 _ c2, fun tc => ?_, fun tc => ?_⟩
      · have hcell0 : cellAt hh (Addr.add ⟨a, 0, none⟩ ((j : Int).toNat * 4)) = some (i64 x.p) := by rw [addr_add]; simpa using c0
        obtain ⟨_, _, e1, _, hs, _⟩ := hv.slB
        cases e1
        refine ⟨_, blk.cell rfl, _, _, _, blk.cell rfl, ⟨by omega, by omega⟩, _, hcell0, _, _, _, blk.cell rfl, ⟨by omega, by omega⟩, _, _, _, hcell 1 _ c1, by kernel_rfl, (R.write x.p hs hb).mono ?_⟩
        rintro _ h2 ⟨p2, rfl, R2, f2⟩
        refine ⟨_, rfl, fun t0 => ?_, fun t0 => ?_⟩
        · have hne : (E.wr x.p x.b).2 ≠ 0 := by simpa using t0
          exact ⟨_, K, _, rfl, .inr ⟨hfull, .inr ⟨j, x, hx, hpin, fun i' x' h => hi3 i' x' (by omega), .inr ⟨tc, rfl, rfl, by rw [if_neg hne]⟩⟩⟩, _, p2, R2, f2⟩
        · have he : (E.wr x.p x.b).2 = 0 := by simpa using t0
          refine ⟨by kernel_rfl, (R2.out hx).mono ?_⟩
          rintro _ h3 ⟨rfl, post⟩
          exact ⟨rfl, 0, _, _, rfl, .inr ⟨hfull, .inr ⟨j, x, hx, hpin, fun i' x' h => hi3 i' x' (by omega), .inr ⟨tc, he.symm, rfl, by rw [if_pos rfl]⟩⟩⟩, RefPost.via f2 post⟩
      · refine ⟨by kernel_rfl, (R.out hx).mono ?_⟩
        rintro _ h3 ⟨rfl, post⟩
        exact ⟨rfl, 0, _, _, rfl, .inr ⟨hfull, .inr ⟨j, x, hx, hpin, fun i' x' h => hi3 i' x' (by omega), .inl ⟨tc, rfl, rfl, rfl⟩⟩⟩, post⟩
  · have hi0 : ¬ 0 ≤ i := of_decide_eq_false e
    refine ⟨6, K, E, rfl, .inr ⟨hfull, .inl ⟨fun x hx => ?_, rfl, rfl, rfl⟩⟩, RefPost.same R⟩
    obtain ⟨j, hj, rfl⟩ := List.getElem_of_mem hx
    exact hi3 j _ (by omega) (List.getElem?_eq_getElem hj)

end
end Go.Proofs.YtfapgccnhonoiaaGreat

/- The reference's cache, part 4: Get. -/
namespace Go.Proofs.YtfapgccnhonoiaaGreat

def RCk.hit (K : RCk) : RCk := { K with hits := IntKind.wrap .i64 (K.hits + 1) }
def RCk.miss (K : RCk) : RCk := { K with misses := IntKind.wrap .i64 (K.misses + 1) }
def RCk.use (K : RCk) (e : Ent) : RCk := { K with L := e :: without e.p K.L }
def RDk.has (E : RDk) (k : Int) : Prop := 0 ≤ k ∧ k < E.S.length

def rcGetR (E : RDk) (K : RCk) (k : Int) (res : Except Int Pg) (E' : RDk) (K' : RCk) : Prop :=
  (¬ E.has k ∧ res = .error 1 ∧ E' = E ∧ K' = K) ∨
  (E.has k ∧ ((∃ e ∈ K.L, e.p = k ∧ res = .ok e.b ∧ E' = E ∧ K' = K.hit.use e) ∨
    ((∀ e ∈ K.L, e.p ≠ k) ∧ ∃ n E1 K1, rcRoomR E K.miss n E1 K1 ∧
      ((n ≠ 0 ∧ res = .error n ∧ E' = E1 ∧ K' = K1) ∨
       (n = 0 ∧ E1.off = true ∧ res = .error 5 ∧ E' = E1 ∧ K' = K1) ∨
       (n = 0 ∧ E1.off = false ∧ ∃ pg, E1.showR k pg ∧ res = .ok pg ∧ E' = E1 ∧ K' = K1.use ⟨k, pg, false, 0⟩)))))

theorem RDk.wr_same (E : RDk) (k : Int) (pg : Pg) : (E.wr k pg).1.S = E.S := by
  unfold RDk.wr
  split
  · unfold RDk.write
    exact (E.lay k pg).goes_same.1
  · rfl

theorem RDk.wr_more (E : RDk) (k : Int) (pg : Pg) : (E.wr k pg).1.W.length ≤ E.W.length + 1 := by
  unfold RDk.wr
  split
  · unfold RDk.write
    have := (E.lay k pg).goes_same.2
    simp only
    rw [this]
    simp [RDk.lay]
  · simp

theorem rcRoomR.same {E E' : RDk} {K K' : RCk} {n : Int} (r : rcRoomR E K n E' K') : E'.S = E.S ∧ E'.W.length ≤ E.W.length + 1 ∧ K'.L.length ≤ K.L.length ∧ K'.size = K.size := by
  rcases r with ⟨_, _, rfl, rfl⟩ | ⟨_, ⟨_, _, rfl, rfl⟩ | ⟨j, e, _, _, _, ⟨_, _, rfl, rfl⟩ | ⟨_, rfl, rfl, rfl⟩⟩⟩
  · exact ⟨rfl, by omega, Nat.le_refl _, rfl⟩
  · exact ⟨rfl, by omega, Nat.le_refl _, rfl⟩
  · exact ⟨rfl, by omega, without_len _ _, rfl⟩
  · refine ⟨RDk.wr_same _ _ _, RDk.wr_more _ _ _, ?_, ?_⟩
    · split
      · exact without_len _ _
      · exact Nat.le_refl _
    · split <;> rfl

section
variable {h h' : Heap} {w u : Nat} {K K' : RCk} {q : Rq} {E E' : RDk} {p : Rp} {X X' F : List Nat}

theorem Ref.use (R : Ref h w u K q E p X) (e : Ent) {b cap : Nat} (hv : ByV h (q.mut w ++ (p.mut u ++ X)) (.slice (some ⟨b, 0, none⟩) 256 cap) e.b) (hl : K.L.length < 1000) :
    CallH Tryz.prog 63 ⟨[ptr w, .agg ⟨[i64 e.p, .slice (some ⟨b, 0, none⟩) 256 cap, .bool e.ch, i64 e.pins]⟩]⟩ h fun v h' => v = .tuple ⟨[]⟩ ∧ ∃ q', Ref h' w u (K.use e) q' E p X ∧ Fr h h' (q.mut w ++ p.mut u) (q'.mut w ++ p.mut u) := by
  refine (rcUse_ok R.c R.hc e hv hl).mono ?_
  rintro _ h' ⟨rfl, q', r, f⟩
  obtain ⟨a, b⟩ := R.ofC r f
  exact ⟨rfl, q', a, b⟩

theorem Ref.hit (R : Ref h w u K q E p X) (hh : h' = upd h ⟨w, 3, none⟩ (i64 (IntKind.wrap .i64 (K.hits + 1)))) : Ref h' w u K.hit q E p X ∧ Fr h h' (q.mut w ++ p.mut u) (q.mut w ++ p.mut u) := by
  have k : Keep h h' [w] := by rw [hh]; exact Keep.upd _ _ _ _ _ (by simp)
  have b := R.c.blk.upd 3 (i64 (IntKind.wrap .i64 (K.hits + 1)))
  rw [← hh] at b
  obtain ⟨r, f⟩ := R.c.counts _ K.misses k b
  exact R.ofC r f

theorem Ref.miss (R : Ref h w u K q E p X) (hh : h' = upd h ⟨w, 4, none⟩ (i64 (IntKind.wrap .i64 (K.misses + 1)))) : Ref h' w u K.miss q E p X ∧ Fr h h' (q.mut w ++ p.mut u) (q.mut w ++ p.mut u) := by
  have k : Keep h h' [w] := by rw [hh]; exact Keep.upd _ _ _ _ _ (by simp)
  have b := R.c.blk.upd 4 (i64 (IntKind.wrap .i64 (K.misses + 1)))
  rw [← hh] at b
  obtain ⟨r, f⟩ := R.c.counts K.hits _ k b
  exact R.ofC r f

theorem Fr.beside {h h' h'' : Heap} {A B : List Nat} (f : Fr h h' A B) (k : Keep h' h'' []) : Fr h h'' A B := f.trans ⟨k.mono (by simp), fun _ hb => .inl hb⟩

def Told (h h' : Heap) (v : Value) (res : Except Int Pg) (F : List Nat) : Prop :=
  match res with
  | .error n => v = .tuple ⟨[.slice none 0 0, i64 n]⟩
  | .ok pg => okPage pg ∧ ∃ b cap x, v = .tuple ⟨[.slice (some ⟨b, 0, none⟩) 256 cap, i64 0]⟩ ∧ Blk h' b (pg ++ x) ∧ h.size ≤ b ∧ b ∉ F

theorem rcGet_ok (R : Ref h w u K q E p X) (hb : E.W.length < 1000000) (hl : K.L.length < 1000) (k : Int) : CallH Tryz.prog 22 ⟨[ptr w, i64 k]⟩ h fun v h' =>
    ∃ res K' E' q' p', rcGetR E K k res E' K' ∧ Told h h' v res (q'.mut w ++ p'.mut u) ∧ Ref h' w u K' q' E' p' X ∧ Fr h h' (q.mut w ++ p.mut u) (q'.mut w ++ p'.mut u) := by
  refine rcGet_call w k ⟨_, R.c.blk.cell rfl, by kernel_rfl, (rdIs_ok R.d k).mono ?_⟩
  rintro _ h1 ⟨rfl, rfl⟩
  refine ⟨_, rfl, fun e => ?_, fun e => ?_⟩
  · have hk : ¬ E.has k := by
      intro hk
      simp [show 0 ≤ k ∧ k < E.S.length from hk] at e
    exact ⟨.error 1, K, E, q, p, .inl ⟨hk, rfl, rfl, rfl⟩, rfl, R, Keep.refl _ _, fun _ hb => .inl hb⟩
  have hk : 0 ≤ k ∧ k < E.S.length := by simpa using e
  have hk : E.has k := hk
  refine ⟨by kernel_rfl, (rcFind_ok R.c k).mono ?_⟩
  rintro _ _ ⟨rfl, i, rfl, hf⟩
  refine ⟨_, rfl, fun t => ?_, fun t => ?_⟩
  · have hi : 0 ≤ i := of_decide_eq_true t
    obtain ⟨j, x, rfl, hj, hx⟩ := hf.resolve_right (fun h => by omega)
    have hjl := (List.getElem?_eq_some_iff.1 hj).1
    refine ⟨_, R.c.blk.cell rfl, rfl, R.c.blk.ok (by simp), fun h3 hh3 => ?_⟩
    obtain ⟨R3, f3⟩ := R.hit hh3
    obtain ⟨a, b, cap, hp, _, hv, hr, _⟩ := R3.c.get hj
    refine ⟨_, _, _, R3.c.blk.cell rfl, ?_⟩
    rw [hp]
    refine ⟨⟨by omega, by show (j : Int) < (K.L.length : Nat); omega⟩, _, _, _, _, _, _, by rw [addr_add]; simpa using hr, by kernel_rfl, (R3.use x hv hl).mono ?_⟩
    rintro _ h4 ⟨rfl, q4, R4, f4⟩
    obtain ⟨a4, b4, cap4, hp4, _, hv4, _, _, c4, _⟩ := R4.c.get (j := 0) (e := x) rfl
    obtain ⟨ho4, _, _, x4, e4, hb4, hx4, _⟩ := hv4
    cases e4
    refine ⟨rfl, _, _, _, R4.c.blk.cell rfl, ?_⟩
    rw [hp4]
    have hs : SlB h4 (some ⟨b4, 0, none⟩) 256 x.b := ⟨ho4.2, ho4.1, .inr ⟨b4, 0, rfl, hb4.lt, by rw [hb4.row (by rw [List.length_append, ho4.1]; omega), List.drop_zero, List.take_append_of_le_length (by rw [ho4.1]; omega), List.take_of_length_le (by rw [ho4.1]; omega)]⟩⟩
    refine ⟨⟨by omega, by simp only [RCk.use, List.length_cons]; omega⟩, _, _, _, by rw [addr_add]; simpa using c4, by kernel_rfl, (rJoin_ok (c1 := 0) (c2 := cap4) (SlB.nil h4) hs (by omega)).mono ?_⟩
    rintro _ h5 ⟨b5, cap5, x5, rfl, hb5, hx5, hge, k5⟩
    have s4 := (f3.trans f4).keep.size
    have hb5n : b5 ∉ q4.mut w ++ p.mut u := fun hm => by
      rcases List.mem_append.1 hm with h | h
      · have := R4.c.lt b5 h; omega
      · have := R4.d.lt b5 h; omega
    refine ⟨_, _, _, rfl, .ok x.b, _, E, q4, p, .inr ⟨hk, .inl ⟨x, List.mem_of_getElem? hj, hx, rfl, rfl, rfl⟩⟩, ⟨ho4, b5, cap5, x5, by rw [Nat.zero_add], by simpa using hb5, by omega, hb5n⟩, R4.beside k5, (f3.trans f4).beside k5⟩
  · have hi : ¬ 0 ≤ i := of_decide_eq_false t
    have hnone := (hf.resolve_left (fun ⟨j, _, h, _⟩ => by omega)).2
    refine ⟨_, R.c.blk.cell rfl, rfl, R.c.blk.ok (by simp), fun h6 hh6 => ?_⟩
    obtain ⟨R6, f6⟩ := R.miss hh6
    refine ⟨by kernel_rfl, (rcRoom_ok R6 hb).mono ?_⟩
    rintro _ h7 ⟨n, K7, E7, rfl, room, q7, p7, R7, f7⟩
    obtain ⟨sS, sW, sL, _⟩ := room.same
    refine ⟨_, rfl, fun t0 => ?_, fun t0 => ?_⟩
    · have hne : n ≠ 0 := by simpa using t0
      exact ⟨.error n, K7, E7, q7, p7, .inr ⟨hk, .inr ⟨hnone, n, E7, K7, room, .inl ⟨hne, rfl, rfl, rfl⟩⟩⟩, rfl, R7, f6.trans f7⟩
    · have hn0 : n = 0 := by simpa using t0
      refine ⟨_, R7.c.blk.cell rfl, by kernel_rfl, (rdRead_ok R7.d k).mono ?_⟩
      rintro v8 h8 ⟨k8, _, r2, r3⟩
      have hk7 : 0 ≤ k ∧ k < E7.S.length := by rw [sS]; exact hk
      have R8 := R7.beside k8
      have f8 : Fr h7 h8 (q7.mut w ++ p7.mut u) (q7.mut w ++ p7.mut u) := ⟨k8.mono (by simp), fun b hb => .inl hb⟩
      cases ho : E7.off with
      | true =>
        refine ⟨_, _, _, _, r2 hk7 ho, fun _ => ?_, fun t1 => absurd t1 (by decide)⟩
        exact ⟨.error 5, K7, E7, q7, p7, .inr ⟨hk, .inr ⟨hnone, n, E7, K7, room, .inr (.inl ⟨hn0, ho, rfl, rfl, rfl⟩)⟩⟩, rfl, R8, (f6.trans f7).trans f8⟩
      | false =>
        obtain ⟨pg, b, cap, x, hsh, hok, hv, hb8, hx8, hge⟩ := r3 hk7 ho
        refine ⟨_, _, _, _, hv, fun t1 => absurd t1 (by decide), fun _ => ?_⟩
        have hnew : b ∉ q7.mut w ++ (p7.mut u ++ X) := fun hm => by
          rcases List.mem_append.1 hm with h | h
          · have := R7.c.lt b h; omega
          · have := R7.hc b h; omega
        have hlK : K7.L.length < 1000 := by
          have : K.miss.L.length = K.L.length := rfl
          omega
        refine ⟨by kernel_rfl, (R8.use ⟨k, pg, false, 0⟩ ⟨hok, b, cap, x, rfl, hb8, hx8, hnew⟩ hlK).mono ?_⟩
        rintro _ h9 ⟨rfl, q9, R9, f9⟩
        have hb9 : Blk h9 b (pg ++ x) := hb8.keep f9.keep fun hm => hnew (by
          rcases List.mem_append.1 hm with h | h
          · exact List.mem_append_left _ h
          · exact List.mem_append_right _ (List.mem_append_left _ h))
        have hs : SlB h9 (some ⟨b, 0, none⟩) 256 pg := ⟨hok.2, hok.1, .inr ⟨b, 0, rfl, hb9.lt, by rw [hb9.row (by rw [List.length_append, hok.1]; omega), List.drop_zero, List.take_append_of_le_length (by rw [hok.1]; omega), List.take_of_length_le (by rw [hok.1]; omega)]⟩⟩
        refine ⟨rfl, by kernel_rfl, (rJoin_ok (c1 := 0) (c2 := cap) (SlB.nil h9) hs (by omega)).mono ?_⟩
        rintro _ h10 ⟨b5, cap5, x5, rfl, hb5, hx5, hge5, k5⟩
        have s4 := (((f6.trans f7).trans f8).trans f9).keep.size
        have hb5n : b5 ∉ q9.mut w ++ p7.mut u := fun hm => by
          rcases List.mem_append.1 hm with h | h
          · have := R9.c.lt b5 h; omega
          · have := R9.d.lt b5 h; omega
        exact ⟨_, _, _, rfl, .ok pg, _, E7, q9, p7, .inr ⟨hk, .inr ⟨hnone, n, E7, K7, room, .inr (.inr ⟨hn0, ho, pg, hsh, rfl, rfl, rfl⟩)⟩⟩, ⟨hok, b5, cap5, x5, by rw [Nat.zero_add], by simpa using hb5, by omega, hb5n⟩, R9.beside k5, (((f6.trans f7).trans f8).trans f9).beside k5⟩

end
end Go.Proofs.YtfapgccnhonoiaaGreat

/- The reference's cache, part 5: Put. -/
namespace Go.Proofs.YtfapgccnhonoiaaGreat

def rcPutR (E : RDk) (K : RCk) (k l : Int) (pg : Pg) (n : Int) (E' : RDk) (K' : RCk) : Prop :=
  ((¬ E.has k ∨ l ≠ 256) ∧ n = 1 ∧ E' = E ∧ K' = K) ∨
  (E.has k ∧ l = 256 ∧ ((∃ e ∈ K.L, e.p = k ∧ n = 0 ∧ E' = E ∧ K' = K.hit.use ⟨e.p, pg, true, e.pins⟩) ∨
    ((∀ e ∈ K.L, e.p ≠ k) ∧ ∃ K1, rcRoomR E K.miss n E' K1 ∧ K' = if n = 0 then K1.use ⟨k, pg, true, 0⟩ else K1)))

section
variable {h h' : Heap} {w u : Nat} {K K' : RCk} {q : Rq} {E E' : RDk} {p : Rp} {X X' F : List Nat}

theorem Ref.less {n1 : Nat} (R : Ref h w u K q E p (n1 :: X)) : Ref h w u K q E p X :=
  R.frame (Keep.refl _ []) (by simp) (fun b hb => .inl (List.mem_cons_of_mem _ hb)) fun b hb => R.old b (List.mem_cons_of_mem _ hb)

theorem Fr.cons {h h' : Heap} {A B : List Nat} (f : Fr h h' A B) (n : Nat) : Fr h h' (n :: A) (n :: B) :=
  ⟨f.keep.mono fun b hb => .inl (List.mem_cons_of_mem _ hb), fun b hb => (List.mem_cons.1 hb).elim (fun h => .inl (by rw [h]; simp)) fun h => (f.sub b h).imp (List.mem_cons_of_mem _) id⟩

theorem Fr.start {h h2 h' : Heap} {A B : List Nat} {n : Nat} (hn : h.size ≤ n) (k : Keep h h2 []) (f : Fr h2 h' (n :: A) (n :: B)) : Fr h h' A B :=
  ⟨(k.mono (by simp)).trans f.keep fun b hb => (List.mem_cons.1 hb).elim (fun h => .inr (by omega)) .inl,
   fun b hb => (f.sub b (List.mem_cons_of_mem _ hb)).elim (fun h => (List.mem_cons.1 h).elim (fun h => .inr (by omega)) .inl) fun h => .inr (by have := k.size; omega)⟩

theorem Blk.slB {h : Heap} {b : Nat} {pg : Pg} {x : List Value} (hb : Blk h b (pg ++ x)) (ho : okPage pg) : SlB h (some ⟨b, 0, none⟩) 256 pg :=
  ⟨ho.2, ho.1, .inr ⟨b, 0, rfl, hb.lt, by rw [hb.row (by rw [List.length_append, ho.1]; omega), List.drop_zero, List.take_append_of_le_length (by rw [ho.1]; omega), List.take_of_length_le (by rw [ho.1]; omega)]⟩⟩

/-- The bytes are copied into the entry, and it is used. -/
theorem put_tail {n1 : Nat} (R : Ref h w u K q E p (n1 :: X)) (hl : K.L.length < 1000) {kk pins : Int} {c0 : Bool} {v0 : Value} (b1 : Blk h n1 [i64 kk, v0, .bool c0, i64 pins]) {s : Option Addr} {pg : Pg} (hs : SlB h s 256 pg) (cap : Nat)
    (P : Heap → Prop) (hP : ∀ h' q', Ref h' w u (K.use ⟨kk, pg, true, pins⟩) q' E p (n1 :: X) → Fr h h' (n1 :: (q.mut w ++ p.mut u)) (n1 :: (q'.mut w ++ p.mut u)) → P h') :
    entersB Tryz.prog 51 = true ∧ CallH Tryz.prog 51 ⟨[.slice none 0 0, .slice s 256 cap]⟩ h fun v5 h6 => ∃ p5 n6 n7, v5 = .slice p5 n6 n7 ∧ true = true ∧ okAt h6 ⟨n1, 1, none⟩ ∧ ∀ h7, h7 = upd h6 ⟨n1, 1, none⟩ (.slice p5 n6 n7) →
      true = true ∧ okAt h7 ⟨n1, 2, none⟩ ∧ ∀ h8, h8 = upd h7 ⟨n1, 2, none⟩ (.bool true) → ∃ (i5 : Int) (p6 : Option Addr) (n8 n9 : Nat) (t3 : Bool) (i6 : Int), rowAt h8 ⟨n1, 0, none⟩ 4 = some [i64 i5, .slice p6 n8 n9, .bool t3, i64 i6] ∧
        entersB Tryz.prog 63 = true ∧ CallH Tryz.prog 63 ⟨[ptr w, .agg ⟨[i64 i5, .slice p6 n8 n9, .bool t3, i64 i6]⟩]⟩ h8 fun v6 h9 => v6 = .tuple ⟨[]⟩ ∧ P h9 := by
  have hok : okPage pg := ⟨hs.2.1, hs.1⟩
  refine ⟨by kernel_rfl, (rJoin_ok (c1 := 0) (c2 := cap) (SlB.nil h) hs (by omega)).mono ?_⟩
  rintro _ h6 ⟨b, cp, x, rfl, hb, hx, hge, k6⟩
  simp only [List.nil_append] at hb
  have b6 := b1.keep k6 (by simp)
  have R6 := R.beside k6
  refine ⟨_, _, _, rfl, rfl, b6.ok (by simp), fun h7 hh7 => ?_⟩
  have k7 : Keep h6 h7 [n1] := by rw [hh7]; exact Keep.upd _ _ _ _ _ (by simp)
  have b7 := b6.upd 1 (.slice (some ⟨b, 0, none⟩) (0 + 256) cp)
  rw [← hh7] at b7
  refine ⟨rfl, b7.ok (by simp), fun h8 hh8 => ?_⟩
  have k8 : Keep h7 h8 [n1] := by rw [hh8]; exact Keep.upd _ _ _ _ _ (by simp)
  have b8 := b7.upd 2 (.bool true)
  rw [← hh8] at b8
  have k68 := k7.trans' k8
  have hin : ∀ x ∈ [n1], x ∈ n1 :: X := fun x hx => by rw [List.mem_singleton.1 hx]; simp
  have s68 := k68.size
  have R8 : Ref h8 w u K q E p (n1 :: X) := R6.frame k68 (fun x hx => .inl (hin x hx)) (fun b hb => .inl hb) fun b hb => by have := R6.old b hb; omega
  have hnew : b ∉ q.mut w ++ (p.mut u ++ n1 :: X) := fun hm => by
    rcases List.mem_append.1 hm with h | h
    · have := R.c.lt b h; omega
    · have := R.hc b h; omega
  have hne : b ≠ n1 := fun h => hnew (by rw [h]; simp)
  have hb8 : Blk h8 b (pg ++ x) := hb.keep k68 (by simpa using hne)
  refine ⟨_, _, _, _, _, _, by rw [b8.row (by simp)]; rfl, by kernel_rfl, ?_⟩
  rw [Nat.zero_add]
  refine (R8.use ⟨kk, pg, true, pins⟩ ⟨hok, b, cp, x, rfl, hb8, by omega, hnew⟩ hl).mono ?_
  rintro _ h9 ⟨rfl, q9, R9, f9⟩
  have f8 : Fr h h8 (n1 :: (q.mut w ++ p.mut u)) (n1 :: (q.mut w ++ p.mut u)) := ⟨(k6.mono (by simp)).trans' (k68.mono fun x hx => .inl (by rw [List.mem_singleton.1 hx]; simp)), fun b hb => .inl hb⟩
  exact ⟨rfl, hP h9 q9 R9 (f8.trans (f9.cons n1))⟩

theorem rcPut_ok (R : Ref h w u K q E p X) (hb : E.W.length < 1000000) (hl : K.L.length < 1000) (k : Int) {s : Option Addr} {l cp : Nat} {pg : Pg} (hs : SlAt h s l pg (q.mut w ++ p.mut u)) : CallH Tryz.prog 23 ⟨[ptr w, i64 k, .slice s l cp]⟩ h fun v h' =>
    ∃ n K' E', rcPutR E K k l pg n E' K' ∧ v = i64 n ∧ RefPost h h' w u q p K' E' X := by
  refine rcPut_call w k s l cp ⟨_, R.c.blk.cell rfl, by kernel_rfl, (rdIs_ok R.d k).mono ?_⟩
  rintro _ h1 ⟨rfl, rfl⟩
  refine ⟨_, rfl, fun e => ?_, fun e => ⟨fun e2 => ?_, fun e2 n1 h2' hn1 hh2' => ⟨rfl, by simp [isCell], ?_, nofun, fun h2 hh2 => ?_⟩⟩⟩
  · have hk : ¬ E.has k := by
      intro hk
      simp [show 0 ≤ k ∧ k < E.S.length from hk] at e
    exact ⟨1, K, E, .inl ⟨.inl hk, rfl, rfl, rfl⟩, rfl, RefPost.same R⟩
  · have hl2 : (l : Int) ≠ 256 := by simpa using e2
    exact ⟨1, K, E, .inl ⟨.inr hl2, rfl, rfl, rfl⟩, rfl, RefPost.same R⟩
  · rw [hh2', hn1]
    exact (Blk.new _ _ _).okRow (by simp)
  have hk : 0 ≤ k ∧ k < E.S.length := by simpa using e
  have hk : E.has k := hk
  have hl2 : l = 256 := by
    have : (l : Int) = 256 := by simpa using e2
    omega
  subst hl2
  have k2 : Keep h1 h2 [] := by
    rw [hh2, hh2', hn1]
    exact (Keep.push _ _ []).trans (F' := [h1.size]) (Keep.updRow _ _ _ _ _ (by simp)) (by simp)
  have b2 : Blk h2 n1 [i64 k, .slice none 0 0, .bool false, i64 0] := by
    have b0 : Blk h2' n1 [.int .i64 (Int.ofNat 0), .slice none 0 0, .bool false, .int .i64 (Int.ofNat 0)] := by rw [hh2', hn1]; exact Blk.new _ _ _
    have := b0.updRow (k := 0) (vs := [i64 k, .slice none 0 0, .bool false, i64 0]) (by simp)
    rw [← hh2] at this
    exact this
  have s2 := k2.size
  have hn1lt := b2.lt
  have R2 : Ref h2 w u K q E p (n1 :: X) := R.frame k2 (by simp) (fun b hb => (List.mem_cons.1 hb).elim (fun h => .inr (by omega)) .inl) fun b hb => (List.mem_cons.1 hb).elim (fun h => by omega) fun h => by have := R.old b h; omega
  have hs2 : SlAt h2 s 256 pg (n1 :: (q.mut w ++ p.mut u)) := hs.over (k2.mono (by simp)) fun b hb => (List.mem_cons.1 hb).elim (fun h => .inr (by omega)) .inl
  have hn1m : ∀ {h : Heap} {q : Rq} {p : Rp} {K : RCk} {E : RDk}, Ref h w u K q E p (n1 :: X) → n1 ∉ q.mut w ++ p.mut u := fun R hm => by
    rcases List.mem_append.1 hm with h | h
    · exact R.c.apart n1 h (by simp)
    · exact R.d.apart n1 h (by simp)
  refine ⟨by kernel_rfl, (rcFind_ok R2.c k).mono ?_⟩
  rintro _ _ ⟨rfl, i, rfl, hf⟩
  refine ⟨_, rfl, fun t => ?_, fun t => ?_⟩
  · have hi : 0 ≤ i := of_decide_eq_true t
    obtain ⟨j, x, rfl, hj, hx⟩ := hf.resolve_right (fun h => by omega)
    have hjl := (List.getElem?_eq_some_iff.1 hj).1
    refine ⟨_, R2.c.blk.cell rfl, rfl, R2.c.blk.ok (by simp), fun h4 hh4 => ?_⟩
    obtain ⟨R4, f4⟩ := R2.hit hh4
    obtain ⟨a, b, cap, hp, _, hv, hr, _⟩ := R4.c.get hj
    have b4 := b2.keep f4.keep (hn1m R2)
    refine ⟨_, _, _, R4.c.blk.cell rfl, ?_⟩
    rw [hp]
    refine ⟨⟨by omega, by show (j : Int) < (K.L.length : Nat); omega⟩, _, _, _, _, _, _, by rw [addr_add]; simpa using hr, rfl, by simp [isCell], b4.okRow (by simp), nofun, fun h5 hh5 => ?_⟩
    have k5 : Keep h4 h5 [n1] := by rw [hh5]; exact Keep.updRow _ _ _ _ _ (by simp)
    have b5 := b4.updRow (k := 0) (vs := [i64 x.p, .slice (some ⟨b, 0, none⟩) 256 cap, .bool x.ch, i64 x.pins]) (by simp)
    rw [← hh5] at b5
    have s5 := k5.size
    have R5 : Ref h5 w u K.hit q E p (n1 :: X) := R4.frame k5 (fun x hx => .inl (by rw [List.mem_singleton.1 hx]; simp)) (fun b hb => .inl hb) fun b hb => by have := R4.old b hb; omega
    have f5 : Fr h4 h5 (n1 :: (q.mut w ++ p.mut u)) (n1 :: (q.mut w ++ p.mut u)) := ⟨k5.mono fun x hx => .inl (by rw [List.mem_singleton.1 hx]; simp), fun b hb => .inl hb⟩
    have f45 := (f4.cons n1).trans f5
    have hs5 := hs2.over f45.keep f45.sub
    exact put_tail R5 hl b5 (hs5.b (by omega)) cp (fun h' => ∃ n K' E', rcPutR E K k (256 : Nat) pg n E' K' ∧ i64 0 = i64 n ∧ RefPost h1 h' w u q p K' E' X) fun h' q' R' f' =>
      ⟨0, _, E, .inr ⟨hk, rfl, .inl ⟨x, List.mem_of_getElem? hj, hx, rfl, rfl, rfl⟩⟩, rfl, q', p, R'.less, Fr.start (by omega) k2 (f45.trans f')⟩
  · have hi : ¬ 0 ≤ i := of_decide_eq_false t
    have hnone := (hf.resolve_left (fun ⟨j, _, h, _⟩ => by omega)).2
    refine ⟨_, R2.c.blk.cell rfl, rfl, R2.c.blk.ok (by simp), fun h6 hh6 => ?_⟩
    obtain ⟨R6, f6⟩ := R2.miss hh6
    refine ⟨by kernel_rfl, (rcRoom_ok R6 hb).mono ?_⟩
    rintro _ h7 ⟨n, K7, E7, rfl, room, q7, p7, R7, f7⟩
    obtain ⟨sS, sW, sL, _⟩ := room.same
    have f67 := (f6.trans f7).cons n1
    refine ⟨_, rfl, fun t0 => ?_, fun t0 => ?_⟩
    · have hne : n ≠ 0 := by simpa using t0
      exact ⟨n, K7, E7, .inr ⟨hk, rfl, .inr ⟨hnone, K7, room, by rw [if_neg hne]⟩⟩, rfl, q7, p7, R7.less, Fr.start (by omega) k2 f67⟩
    · have hn0 : n = 0 := by simpa using t0
      have b7 := b2.keep (f6.trans f7).keep (hn1m R2)
      have hs7 := hs2.over f67.keep f67.sub
      have hlK : K7.L.length < 1000 := by
        have : K.miss.L.length = K.L.length := rfl
        omega
      exact put_tail R7 hlK b7 (hs7.b (by omega)) cp (fun h' => ∃ n K' E', rcPutR E K k (256 : Nat) pg n E' K' ∧ i64 0 = i64 n ∧ RefPost h1 h' w u q p K' E' X) fun h' q' R' f' =>
        ⟨0, _, E7, .inr ⟨hk, rfl, .inr ⟨hnone, K7, by rw [hn0] at room; exact room, by rw [if_pos rfl]⟩⟩, rfl, q', p7, R'.less, Fr.start (by omega) k2 (f67.trans f')⟩

end
end Go.Proofs.YtfapgccnhonoiaaGreat

/- The reference's cache, part 6: New, Pin, Unpin, Forget, Held. -/
namespace Go.Proofs.YtfapgccnhonoiaaGreat

def modE (k : Int) (f : Ent → Ent) (L : List Ent) : List Ent := L.map fun e => if e.p = k then f e else e

theorem modE_none {k : Int} {f : Ent → Ent} : ∀ {L : List Ent}, (∀ e ∈ L, e.p ≠ k) → modE k f L = L
  | [], _ => rfl
  | x :: r, h => by
    have := modE_none (f := f) fun e he => h e (List.mem_cons_of_mem _ he)
    simp only [modE, List.map_cons] at this ⊢
    rw [this, if_neg (h x List.mem_cons_self)]

theorem set_mod (f : Ent → Ent) : ∀ {L : List Ent} {j : Nat} {e : Ent}, (L.map Ent.p).Nodup → L[j]? = some e → L.set j (f e) = modE e.p f L
  | [], _, _, _, h => by simp at h
  | x :: r, 0, e, hn, h => by
    simp only [List.getElem?_cons_zero, Option.some.injEq] at h
    subst h
    simp only [List.map_cons, List.nodup_cons, List.mem_map, not_exists, not_and] at hn
    have := modE_none (f := f) fun e he => hn.1 e he
    simp only [modE, List.map_cons] at this ⊢
    rw [this, List.set_cons_zero, if_pos trivial]
  | x :: r, j + 1, e, hn, h => by
    simp only [List.getElem?_cons_succ] at h
    simp only [List.map_cons, List.nodup_cons, List.mem_map, not_exists, not_and] at hn
    have hx : x.p ≠ e.p := fun he => hn.1 e (List.mem_of_getElem? h) he.symm
    have := set_mod f hn.2 h
    simp only [modE, List.map_cons] at this ⊢
    rw [List.set_cons_succ, this, if_neg hx]

theorem modE_keys (k : Int) (f : Ent → Ent) (hf : ∀ e, (f e).p = e.p) (L : List Ent) : (modE k f L).map Ent.p = L.map Ent.p := by
  unfold modE
  rw [List.map_map]
  refine List.map_congr_left fun e _ => ?_
  simp only [Function.comp]
  split
  · exact hf e
  · rfl

def Ent.pin (d : Int) (e : Ent) : Ent := { e with pins := IntKind.wrap .i64 (e.pins + d) }
def Ent.clean (e : Ent) : Ent := { e with ch := false }

def rcPinR (K : RCk) (k : Int) (n : Int) (K' : RCk) : Prop :=
  ((∀ e ∈ K.L, e.p ≠ k) ∧ n = 4 ∧ K' = K) ∨ (∃ e ∈ K.L, e.p = k ∧ n = 0 ∧ K' = { K with L := modE k (Ent.pin 1) K.L })
def rcUnpinR (K : RCk) (k : Int) (n : Int) (K' : RCk) : Prop :=
  ((∀ e ∈ K.L, e.p ≠ k) ∧ n = 4 ∧ K' = K) ∨ (∃ e ∈ K.L, e.p = k ∧ ((e.pins = 0 ∧ n = 4 ∧ K' = K) ∨ (e.pins ≠ 0 ∧ n = 0 ∧ K' = { K with L := modE k (Ent.pin (-1)) K.L })))
def rcForgetR (K : RCk) (k : Int) (n : Int) (K' : RCk) : Prop :=
  ((∀ e ∈ K.L, e.p ≠ k) ∧ n = 4 ∧ K' = K) ∨ (∃ e ∈ K.L, e.p = k ∧ ((0 < e.pins ∧ n = 7 ∧ K' = K) ∨ (¬ 0 < e.pins ∧ n = 0 ∧ K' = { K with L := without k K.L })))

section
variable {h h' : Heap} {w u : Nat} {K K' : RCk} {q : Rq} {E E' : RDk} {p : Rp} {X X' F : List Nat}

theorem RcR.mod (r : RcR h w u K q X) {j : Nat} {e : Ent} (hj : K.L[j]? = some e) (f : Ent → Ent) (hp' : ∀ e, (f e).p = e.p) (hb' : (f e).b = e.b) {i : Nat} {v : Value} (hi : i < 4) (hrow : ∀ s, [i64 e.p, s, .bool e.ch, i64 e.pins].set i v = [i64 (f e).p, s, .bool (f e).ch, i64 (f e).pins]) {a : Nat} (hpa : q.lp = some ⟨a, 0, none⟩) (hh : h' = upd h ⟨a, j * 4 + i, none⟩ v) :
    RcPost h h' w u q { K with L := modE e.p f K.L } X := by
  obtain ⟨row, hr, s, rfl, hv⟩ := r.lq.get hj
  have kk : Keep h h' [a] := by rw [hh]; exact Keep.upd _ _ _ _ _ (by simp)
  have ha : a ∈ q.mut w := by simp [Rq.mut, hpa, blks]
  have haw : w ≠ a := fun h => r.nodup (by rw [h]; simp [hpa, blks])
  have hF : ∀ b ∈ [a], b ∈ q.mut w ++ X ∨ h.size ≤ b := fun b hb => .inl (List.mem_append_left _ (by rw [List.mem_singleton.1 hb]; exact ha))
  have lv' := r.lv.set (h' := h') hr hi v hpa hh
  rw [hrow s] at lv'
  have hset := set_mod f r.keys hj
  have hlen : (modE e.p f K.L).length = K.L.length := List.length_map _
  refine ⟨{ q with lr := q.lr.set j [i64 (f e).p, s, .bool (f e).ch, i64 (f e).pins] }, ⟨?_, by rw [hlen]; exact lv', ?_, r.nodup, r.apart, by rw [hlen]; exact r.few, by rw [modE_keys _ _ hp']; exact r.keys⟩, kk.mono fun b hb => .inl (by rw [List.mem_singleton.1 hb]; exact ha), fun b hb => .inl hb⟩
  · rw [hlen]; exact r.blk.keep kk (by simpa using haw)
  · show RowsR _ _ (modE e.p f K.L)
    rw [← hset]
    refine RowsR.set (erows_move kk hF (fun b hb => .inl hb) r.lq) j ⟨s, rfl, ?_⟩
    rw [hb']
    exact hv.move kk hF fun b hb => .inl hb

/-- Nothing is held any more. -/
theorem RcR.clear (r : RcR h w u K q X) (hh : h' = upd h ⟨w, 2, none⟩ (.slice none 0 0)) : RcPost h h' w u q { K with L := [] } X := by
  have k : Keep h h' [w] := by rw [hh]; exact Keep.upd _ _ _ _ _ (by simp)
  have b := r.blk.upd 2 (.slice none 0 0)
  rw [← hh] at b
  refine ⟨⟨none, 0, []⟩, ⟨b, VecR.nil _ _ _, trivial, by simp [blks], fun x hx => ?_, by simp, by simp⟩, k.mono fun x hx => .inl (by rw [List.mem_singleton.1 hx]; simp [Rq.mut]), fun x hx => .inl ?_⟩
  · simp only [Rq.mut, blks, List.mem_singleton] at hx
    rw [hx]; exact r.apart w (by simp [Rq.mut])
  · simp only [Rq.mut, blks, List.mem_singleton] at hx
    rw [hx]; simp [Rq.mut]

theorem Ref.ofPost (R : Ref h w u K q E p X) (x : RcPost h h' w u q K' (p.mut u ++ X)) : RefPost h h' w u q p K' E X := by
  obtain ⟨q', r, f⟩ := x
  obtain ⟨a, b⟩ := R.ofC r f
  exact ⟨q', p, a, b⟩

theorem rcNew_ok (d : RdR h u E p X) (hX : ∀ b ∈ X, b < h.size) (n : Int) (h2 : 2 ≤ n) (h64 : n ≤ 64) : CallH Tryz.prog 8 ⟨[ptr u, i64 n]⟩ h fun v h' => ∃ w, v = .tuple ⟨[ptr w, i64 0]⟩ ∧ h.size ≤ w ∧ Ref h' w u ⟨n, [], 0, 0⟩ ⟨none, 0, []⟩ E p X ∧ Keep h h' [] := by
  refine rcNew_call u n ⟨nofun, fun _ => ⟨fun t => absurd (of_decide_eq_true t) (by omega), fun _ => ⟨fun t => absurd (of_decide_eq_true t) (by omega), fun _ w h1 hw hh1 => ?_⟩⟩⟩
  have k1 : Keep h h1 [] := by rw [hh1]; exact Keep.push _ _ _
  have b1 : Blk h1 w [ptr u, i64 n, .slice none 0 0, i64 0, i64 0] := by rw [hh1, hw]; exact Blk.new _ _ _
  have s1 := k1.size
  refine ⟨w, rfl, by omega, ⟨⟨b1, VecR.nil _ _ _, trivial, by simp [blks], fun b hb hx => ?_, by simp, by simp⟩, d.frame k1 (by simp) fun b hb => ?_, fun b hb => by have := hX b hb; omega⟩, k1⟩
  · simp only [Rq.mut, blks, List.mem_singleton] at hb
    rcases List.mem_append.1 hx with hx | hx
    · have := d.lt b hx; omega
    · have := hX b hx; omega
  · simp only [Rq.mut, blks, List.cons_append, List.nil_append, List.mem_cons] at hb
    exact hb.elim (fun h => .inr (by omega)) .inl

theorem rcPin_ok (R : Ref h w u K q E p X) (k : Int) : CallH Tryz.prog 25 ⟨[ptr w, i64 k]⟩ h fun v h' => ∃ n K', v = i64 n ∧ rcPinR K k n K' ∧ RefPost h h' w u q p K' E X := by
  refine rcPin_call w k ⟨by kernel_rfl, (rcFind_ok R.c k).mono ?_⟩
  rintro _ _ ⟨rfl, i, rfl, hf⟩
  refine ⟨_, rfl, fun t => ?_, fun t => ?_⟩
  · have hi : i < 0 := of_decide_eq_true t
    have hnone := (hf.resolve_left (fun ⟨j, _, h, _⟩ => by omega)).2
    exact ⟨4, K, rfl, .inl ⟨hnone, rfl, rfl⟩, RefPost.same R⟩
  · have hi : ¬ i < 0 := of_decide_eq_false t
    obtain ⟨j, x, rfl, hj, hx⟩ := hf.resolve_right (fun h => by omega)
    have hjl := (List.getElem?_eq_some_iff.1 hj).1
    obtain ⟨a, b, cap, hp, _, hv, hr, _, _, _, c3, hok⟩ := R.c.get hj
    have blk := R.c.blk
    rw [hp] at blk
    refine ⟨_, _, _, blk.cell rfl, _, _, _, blk.cell rfl, ⟨by omega, by omega⟩, _, by rw [addr_add, addr_add]; simpa using c3, ⟨by omega, by omega⟩, rfl, by rw [addr_add, addr_add]; simpa using hok 3 (by omega), fun h2 hh2 => ?_⟩
    rw [addr_add, addr_add] at hh2
    simp only [Nat.zero_add, Int.toNat_natCast] at hh2
    refine ⟨0, _, rfl, .inr ⟨x, List.mem_of_getElem? hj, hx, rfl, rfl⟩, R.ofPost ?_⟩
    have := R.c.mod hj (Ent.pin 1) (fun _ => rfl) rfl (i := 3) (by omega) (fun s => rfl) hp hh2
    rw [hx] at this
    exact this

theorem rcUnpin_ok (R : Ref h w u K q E p X) (k : Int) : CallH Tryz.prog 27 ⟨[ptr w, i64 k]⟩ h fun v h' => ∃ n K', v = i64 n ∧ rcUnpinR K k n K' ∧ RefPost h h' w u q p K' E X := by
  refine rcUnpin_call w k ⟨by kernel_rfl, (rcFind_ok R.c k).mono ?_⟩
  rintro _ _ ⟨rfl, i, rfl, hf⟩
  refine ⟨_, rfl, fun t => ?_, fun t => ?_⟩
  · have hi : i < 0 := of_decide_eq_true t
    have hnone := (hf.resolve_left (fun ⟨j, _, h, _⟩ => by omega)).2
    exact ⟨4, K, rfl, .inl ⟨hnone, rfl, rfl⟩, RefPost.same R⟩
  · have hi : ¬ i < 0 := of_decide_eq_false t
    obtain ⟨j, x, rfl, hj, hx⟩ := hf.resolve_right (fun h => by omega)
    have hjl := (List.getElem?_eq_some_iff.1 hj).1
    obtain ⟨a, b, cap, hp, _, hv, hr, _, _, _, c3, hok⟩ := R.c.get hj
    have blk := R.c.blk
    rw [hp] at blk
    refine ⟨_, _, _, blk.cell rfl, ⟨by omega, by omega⟩, _, by rw [addr_add, addr_add]; simpa using c3, fun t0 => ?_, fun t0 => ?_⟩
    · have h0 : x.pins = 0 := by simpa using t0
      exact ⟨4, K, rfl, .inr ⟨x, List.mem_of_getElem? hj, hx, .inl ⟨h0, rfl, rfl⟩⟩, RefPost.same R⟩
    · have h0 : x.pins ≠ 0 := by simpa using t0
      refine ⟨_, _, _, blk.cell rfl, _, _, _, blk.cell rfl, ⟨by omega, by omega⟩, _, by rw [addr_add, addr_add]; simpa using c3, ⟨by omega, by omega⟩, rfl, by rw [addr_add, addr_add]; simpa using hok 3 (by omega), fun h2 hh2 => ?_⟩
      rw [addr_add, addr_add] at hh2
      simp only [Nat.zero_add, Int.toNat_natCast] at hh2
      refine ⟨0, _, rfl, .inr ⟨x, List.mem_of_getElem? hj, hx, .inr ⟨h0, rfl, rfl⟩⟩, R.ofPost ?_⟩
      have := R.c.mod hj (Ent.pin (-1)) (fun _ => rfl) rfl (i := 3) (by omega) (fun s => rfl) hp hh2
      rw [hx] at this
      exact this

theorem rcForget_ok (R : Ref h w u K q E p X) (k : Int) : CallH Tryz.prog 29 ⟨[ptr w, i64 k]⟩ h fun v h' => ∃ n K', v = i64 n ∧ rcForgetR K k n K' ∧ RefPost h h' w u q p K' E X := by
  refine rcForget_call w k ⟨by kernel_rfl, (rcFind_ok R.c k).mono ?_⟩
  rintro _ _ ⟨rfl, i, rfl, hf⟩
  refine ⟨_, rfl, fun t => ?_, fun t => ?_⟩
  · have hi : i < 0 := of_decide_eq_true t
    have hnone := (hf.resolve_left (fun ⟨j, _, h, _⟩ => by omega)).2
    exact ⟨4, K, rfl, .inl ⟨hnone, rfl, rfl⟩, RefPost.same R⟩
  · have hi : ¬ i < 0 := of_decide_eq_false t
    obtain ⟨j, x, rfl, hj, hx⟩ := hf.resolve_right (fun h => by omega)
    have hjl := (List.getElem?_eq_some_iff.1 hj).1
    obtain ⟨a, b, cap, hp, _, hv, hr, _, _, _, c3, hok⟩ := R.c.get hj
    have blk := R.c.blk
    rw [hp] at blk
    refine ⟨_, _, _, blk.cell rfl, ⟨by omega, by omega⟩, _, by rw [addr_add, addr_add]; simpa using c3, fun t0 => ?_, fun t0 => ⟨by kernel_rfl, (R.out hj).mono ?_⟩⟩
    · exact ⟨7, K, rfl, .inr ⟨x, List.mem_of_getElem? hj, hx, .inl ⟨of_decide_eq_true t0, rfl, rfl⟩⟩, RefPost.same R⟩
    · rintro _ h2 ⟨rfl, post⟩
      rw [hx] at post
      exact ⟨rfl, 0, _, rfl, .inr ⟨x, List.mem_of_getElem? hj, hx, .inr ⟨of_decide_eq_false t0, rfl, rfl⟩⟩, post⟩

def HeldI (h : Heap) (L : List Ent) (p1 : Option Addr) (n2 n3 : Nat) (x : Int) (hh : Heap) : Prop :=
  ∃ j : Nat, x = j ∧ j ≤ L.length ∧ Vec hh p1 n2 n3 h.size (ints ((L.take j).map Ent.p)) ∧ n2 = j ∧ Keep h hh []

theorem rcHeld_ok (R : Ref h w u K q E p X) : CallH Tryz.prog 40 ⟨[ptr w]⟩ h fun v h' => ∃ s n cap, v = .slice s n cap ∧ Vec h' s n cap h.size (ints (K.L.map Ent.p)) ∧ Keep h h' [] := by
  have hfew := R.c.few
  refine rcHeld_call w ⟨trivial, fun n1 h0 hn1 hh0 => ?_⟩
  have k0 : Keep h h0 [] := by rw [hh0]; exact Keep.push _ _ _
  have b0 : Blk h0 n1 ([] ++ []) := by rw [hh0, hn1]; exact Blk.new _ _ _
  refine ⟨HeldI h K.L, fun _ _ _ x _ => (K.L.length - x).toNat, ⟨0, rfl, by omega, ⟨rfl, .inr ⟨n1, [], rfl, by omega, b0, rfl⟩⟩, rfl, k0⟩, ?_⟩
  rintro p1 n2 n3 _ h1 ⟨j, rfl, hj, v1, hn2, k1⟩
  have R1 := R.beside k1
  have blk := R1.c.blk
  refine ⟨_, _, _, blk.cell rfl, fun e => ?_, fun e => ?_⟩
  · have hjl : j < K.L.length := by have := of_decide_eq_true e; omega
    obtain ⟨x, hx⟩ : ∃ x, K.L[j]? = some x := ⟨_, List.getElem?_eq_getElem hjl⟩
    obtain ⟨a, b, cap, hp, _, _, _, c0, _⟩ := R1.c.get hx
    have wj : IntKind.wrap .i64 ((j : Int) + 1) = ((j + 1 : Nat) : Int) := by rw [w64 _ (by omega) (by omega)]; rfl
    rw [hp] at blk
    refine ⟨_, _, _, blk.cell rfl, ⟨by omega, by omega⟩, x.p, by rw [addr_add]; simpa using c0, ⟨rfl, trivial⟩, fun n7 h3 hn7 hh3 => ?_⟩
    rw [wj]
    refine Vec.append v1 k1.size (i64 x.p) (.int .i64 (Int.ofNat 0)) rfl 3 8 (by omega) (by omega)
      (fun hx px cx => HeldI h K.L px (n2 + 1) cx ((j + 1 : Nat) : Int) hx ∧ ((K.L.length : Int) - ((j + 1 : Nat) : Int)).toNat < ((K.L.length : Int) - (j : Int)).toNat) ?_ n7 h3 hn7 hh3
    intro hy px cx vx kx fx
    refine ⟨⟨j + 1, rfl, by omega, ?_, by omega, k1.trans kx fun b hb => .inr (v1.lt b hb).2⟩, by omega⟩
    rw [take_succ_get hx, List.map_append]
    show Vec hy px (n2 + 1) cx h.size (ints ((K.L.take j).map Ent.p ++ [x.p]))
    rw [← ints_snoc]
    exact vx
  · have hjl : j = K.L.length := by have := of_decide_eq_false e; omega
    subst hjl
    rw [List.take_length] at v1
    exact ⟨_, _, _, rfl, v1, k1⟩

end
end Go.Proofs.YtfapgccnhonoiaaGreat

/- The reference's cache, part 7: Changed, Flush. -/
namespace Go.Proofs.YtfapgccnhonoiaaGreat

def chE (L : List Ent) (k : Int) : Bool := L.any fun e => e.p == k && e.ch

theorem chE_none {L : List Ent} {k : Int} (h : ∀ e ∈ L, e.p ≠ k) : chE L k = false := by
  simp only [chE, List.any_eq_false, Bool.and_eq_true, beq_iff_eq, not_and]
  exact fun e he hp => absurd hp (h e he)

theorem chE_some {L : List Ent} {e : Ent} (hn : (L.map Ent.p).Nodup) (he : e ∈ L) : chE L e.p = e.ch := by
  induction L with
  | nil => cases he
  | cons x r ih =>
    simp only [List.map_cons, List.nodup_cons, List.mem_map, not_exists, not_and] at hn
    rcases List.mem_cons.1 he with rfl | he
    · have := chE_none (k := e.p) fun y hy => hn.1 y hy
      simp only [chE, List.any_cons, beq_self_eq_true, Bool.true_and] at this ⊢
      rw [this, Bool.or_false]
    · have hne : x.p ≠ e.p := fun h => hn.1 e he h.symm
      have := ih hn.2 he
      simp only [chE, List.any_cons] at this ⊢
      rw [this, show (x.p == e.p) = false by simpa using hne, Bool.false_and, Bool.false_or]

def upto (n : Nat) : List Int := (List.range n).map Int.ofNat

theorem upto_succ (n : Nat) : upto (n + 1) = upto n ++ [(n : Int)] := by simp [upto, List.range_succ]

theorem upto_mem {n : Nat} {x : Int} : x ∈ upto n ↔ 0 ≤ x ∧ x < n := by
  simp only [upto, List.mem_map, List.mem_range]
  constructor
  · rintro ⟨i, hi, rfl⟩; exact ⟨by simp, by simpa using hi⟩
  · rintro ⟨h0, h1⟩; exact ⟨x.toNat, by omega, by simp; omega⟩

def flushE : List Int → RDk → RCk → RDk × RCk × Int
  | [], E, K => (E, K, 0)
  | k :: r, E, K => match K.L.find? (fun e => e.p == k) with
    | none => (E, K, 0)
    | some e => if (E.wr k e.b).2 ≠ 0 then ((E.wr k e.b).1, K, (E.wr k e.b).2) else flushE r (E.wr k e.b).1 { K with L := modE k Ent.clean K.L }

theorem find_of {L : List Ent} {e : Ent} (hn : (L.map Ent.p).Nodup) (he : e ∈ L) : L.find? (fun x => x.p == e.p) = some e := by
  induction L with
  | nil => cases he
  | cons x r ih =>
    simp only [List.map_cons, List.nodup_cons, List.mem_map, not_exists, not_and] at hn
    rcases List.mem_cons.1 he with rfl | he
    · simp
    · rw [List.find?_cons_of_neg (by simpa using fun h => hn.1 e he h.symm)]
      exact ih hn.2 he

section
variable {h h' : Heap} {w u : Nat} {K K' : RCk} {q : Rq} {E E' : RDk} {p : Rp} {X X' F : List Nat}

def RChgI (h : Heap) (n : Nat) (L : List Ent) (p1 : Option Addr) (n2 n3 : Nat) (x : Int) (hh : Heap) : Prop :=
  ∃ j : Nat, x = j ∧ j ≤ n ∧ Vec hh p1 n2 n3 h.size (ints ((upto j).filter (chE L))) ∧ n2 ≤ j ∧ Keep h hh []

theorem rcChanged_ok (R : Ref h w u K q E p X) : CallH Tryz.prog 45 ⟨[ptr w]⟩ h fun v h' => ∃ s n cap, v = .slice s n cap ∧ Vec h' s n cap h.size (ints ((upto E.S.length).filter (chE K.L))) ∧ Keep h h' [] := by
  have hfew := R.d.few.1
  have hfewL := R.c.few
  refine rcChanged_call w ⟨trivial, fun n1 h0 hn1 hh0 => ?_⟩
  have k0 : Keep h h0 [] := by rw [hh0]; exact Keep.push _ _ _
  have b0 : Blk h0 n1 ([] ++ []) := by rw [hh0, hn1]; exact Blk.new _ _ _
  refine ⟨RChgI h E.S.length K.L, fun _ _ _ x _ => (E.S.length - x).toNat, ⟨0, rfl, by omega, ⟨rfl, .inr ⟨n1, [], rfl, by omega, b0, rfl⟩⟩, by omega, k0⟩, ?_⟩
  rintro p1 n2 n3 _ h1 ⟨j, rfl, hj, v1, hn2, k1⟩
  have R1 := R.beside k1
  refine ⟨_, R1.c.blk.cell rfl, _, _, _, R1.d.blk.cell rfl, fun e => ⟨by kernel_rfl, (rcFind_ok R1.c j).mono ?_⟩, fun e => ?_⟩
  · have hjl : j < E.S.length := by have := of_decide_eq_true e; omega
    have wj : IntKind.wrap .i64 ((j : Int) + 1) = ((j + 1 : Nat) : Int) := by rw [w64 _ (by omega) (by omega)]; rfl
    have hm : ((E.S.length : Int) - ((j + 1 : Nat) : Int)).toNat < ((E.S.length : Int) - (j : Int)).toNat := by omega
    rintro _ h1 ⟨rfl, i, rfl, hf⟩
    rw [wj]
    have skip : chE K.L j = false → RChgI h E.S.length K.L p1 n2 n3 ((j + 1 : Nat) : Int) h1 := fun hc => ⟨j + 1, rfl, by omega, by
      rw [upto_succ, List.filter_append]
      simp only [List.filter_cons, hc, List.filter_nil]
      rw [if_neg (by simp), List.append_nil]
      exact v1, by omega, k1⟩
    refine ⟨_, rfl, fun t => ?_, fun t => ⟨skip ?_, hm⟩⟩
    · have hi : 0 ≤ i := of_decide_eq_true t
      obtain ⟨m, x, rfl, hm', hx⟩ := hf.resolve_right (fun h => by omega)
      have hml := (List.getElem?_eq_some_iff.1 hm').1
      obtain ⟨a, b, cap, hp, _, _, _, _, _, c2, _⟩ := R1.c.get hm'
      have blk := R1.c.blk
      rw [hp] at blk
      have hch : chE K.L j = x.ch := by rw [← hx]; exact chE_some R1.c.keys (List.mem_of_getElem? hm')
      refine ⟨_, _, _, blk.cell rfl, ⟨by omega, by omega⟩, _, by rw [addr_add, addr_add]; simpa using c2, fun tc => ⟨⟨rfl, trivial⟩, fun n7 h3 hn7 hh3 => ?_⟩, fun tc => ⟨skip (by rw [hch, tc]), hm⟩⟩
      refine Vec.append v1 k1.size (i64 j) (.int .i64 (Int.ofNat 0)) rfl 3 8 (by omega) (by omega)
        (fun hx px cx => RChgI h E.S.length K.L px (n2 + 1) cx ((j + 1 : Nat) : Int) hx ∧ ((E.S.length : Int) - ((j + 1 : Nat) : Int)).toNat < ((E.S.length : Int) - (j : Int)).toNat) ?_ n7 h3 hn7 hh3
      intro hy px cx vx kx fx
      refine ⟨⟨j + 1, rfl, by omega, ?_, by omega, k1.trans kx fun b hb => .inr (v1.lt b hb).2⟩, hm⟩
      rw [upto_succ, List.filter_append]
      simp only [List.filter_cons, hch, tc, List.filter_nil]
      rw [if_pos trivial, ← ints_snoc]
      exact vx
    · have hi : ¬ 0 ≤ i := of_decide_eq_false t
      exact chE_none (hf.resolve_left (fun ⟨j, _, h, _⟩ => by omega)).2
  · have hjl : j = E.S.length := by have := of_decide_eq_false e; omega
    subst hjl
    exact ⟨_, _, _, rfl, v1, k1⟩

theorem rcFlush_ok (R : Ref h w u K q E p X) (hb : E.W.length + E.S.length < 1000000) : CallH Tryz.prog 31 ⟨[ptr w]⟩ h fun v h' =>
    v = i64 (flushE ((upto E.S.length).filter (chE K.L)) E K).2.2 ∧ RefPost h h' w u q p (flushE ((upto E.S.length).filter (chE K.L)) E K).2.1 (flushE ((upto E.S.length).filter (chE K.L)) E K).1 X := by
  refine rcFlush_call w ⟨by kernel_rfl, (rcChanged_ok R).mono ?_⟩
  rintro _ h1 ⟨s, n, cap, rfl, v1, k1⟩
  generalize hds : (upto E.S.length).filter (chE K.L) = ds at v1 ⊢
  have hn : n = ds.length := by have := v1.1; rwa [ints_len] at this
  have hdl : ds.length ≤ E.S.length := by
    rw [← hds]
    have := List.length_filter_le (chE K.L) (upto E.S.length)
    simp only [upto, List.length_map, List.length_range] at this ⊢
    exact this
  have hsz : E.S.length ≤ 2048 := R.d.few.1
  have hmem : ∀ k ∈ ds, ∃ e ∈ K.L, e.p = k := fun k hk => by
    rw [← hds] at hk
    have := (List.mem_filter.1 hk).2
    simp only [chE, List.any_eq_true, Bool.and_eq_true, beq_iff_eq] at this
    obtain ⟨e, he, hp, _⟩ := this
    exact ⟨e, he, hp⟩
  have hslt : ∀ b ∈ blks s, h.size ≤ b := fun b hb => (v1.lt b hb).2
  have hqlt : ∀ b ∈ q.mut w ++ p.mut u, b < h.size := fun b hb => (List.mem_append.1 hb).elim (R.c.lt b) (R.d.lt b)
  -- the state when some pages are done
  refine ⟨_, _, _, rfl, fun i hh => ∃ (j : Nat) (K1 : RCk) (E1 : RDk) (q1 : Rq) (p1 : Rp), i = j ∧ j ≤ ds.length ∧ flushE (ds.drop j) E1 K1 = flushE ds E K ∧ Ref hh w u K1 q1 E1 p1 (blks s ++ X) ∧ Vec hh s n cap h.size (ints ds) ∧
      Fr h hh (q.mut w ++ p.mut u) (q1.mut w ++ p1.mut u) ∧ K1.L.map Ent.p = K.L.map Ent.p ∧ E1.W.length ≤ E.W.length + j ∧ E1.S.length = E.S.length, fun i _ => (ds.length - i).toNat, ⟨0, K, E, q, p, rfl, by omega, by simp, ?_, v1, ⟨k1.mono (by simp), fun b hb => .inl hb⟩, rfl, by omega, rfl⟩, ?_⟩
  · refine R.frame k1 (by simp) (fun b hb => (List.mem_append.1 hb).elim (fun h => .inr (hslt b h)) .inl) fun b hb => (List.mem_append.1 hb).elim (fun h => (v1.lt b h).1) fun h => ?_
    have := R.old b h
    have := k1.size
    omega
  rintro _ h2 ⟨j, K1, E1, q1, p1, rfl, hj, hfl, R1, v2, f2, hkeys, hW, hS⟩
  refine ⟨fun e => ?_, fun e => ?_⟩
  · have hjl : j < ds.length := by have := of_decide_eq_true e; omega
    obtain ⟨k, hk⟩ : ∃ k, ds[j]? = some k := ⟨_, List.getElem?_eq_getElem hjl⟩
    obtain ⟨b, rfl, _, _, hc⟩ := v2.cell (i := j) (w := i64 k) (by rw [ints_get, hk]; rfl)
    have wj : IntKind.wrap .i64 ((j : Int) + 1) = ((j + 1 : Nat) : Int) := by rw [w64 _ (by omega) (by omega)]; rfl
    have hc' : cellAt h2 (Addr.add ⟨b, 0, none⟩ ((j : Int).toNat * 1)) = some (i64 k) := by rw [addr_add]; simpa using hc
    refine ⟨⟨by omega, by omega⟩, k, hc', by kernel_rfl, (rcFind_ok R1.c k).mono ?_⟩
    rintro _ _ ⟨rfl, i, rfl, hf⟩
    obtain ⟨x0, hx0, hxp⟩ := hmem k (List.mem_of_getElem? hk)
    have hin : ∃ e ∈ K1.L, e.p = k := by
      have : k ∈ K1.L.map Ent.p := by rw [hkeys, ← hxp]; exact List.mem_map_of_mem hx0
      obtain ⟨e, he, hp⟩ := List.mem_map.1 this
      exact ⟨e, he, hp⟩
    obtain ⟨m, x, rfl, hm, hx⟩ := hf.resolve_right (fun h => by obtain ⟨e, he, hp⟩ := hin; exact h.2 e he hp)
    have hml := (List.getElem?_eq_some_iff.1 hm).1
    obtain ⟨a, b2, cap2, hp, _, hv, _, _, c1, _, _, _⟩ := R1.c.get hm
    have blk := R1.c.blk
    rw [hp] at blk
    obtain ⟨_, _, e1, _, hs, _⟩ := hv.slB
    cases e1
    refine ⟨_, rfl, _, blk.cell rfl, ⟨by omega, by omega⟩, k, hc', _, _, _, blk.cell rfl, ⟨by omega, by omega⟩, _, _, _, by rw [addr_add, addr_add]; simpa using c1, by kernel_rfl, (R1.write k hs (by omega)).mono ?_⟩
    rintro _ h4 ⟨p4, rfl, R4, f4⟩
    have hfind : K1.L.find? (fun e => e.p == k) = some x := by rw [← hx]; exact find_of R1.c.keys (List.mem_of_getElem? hm)
    have hd : ds.drop j = k :: ds.drop (j + 1) := by
      rw [List.drop_eq_getElem_cons hjl]
      congr 1
      exact Option.some.inj ((List.getElem?_eq_getElem hjl).symm.trans hk)
    rw [hd] at hfl
    simp only [flushE, hfind] at hfl
    have lessR : ∀ {h q E p K}, Ref h w u K q E p (blks (some ⟨b, 0, none⟩) ++ X) → Ref h w u K q E p X := fun R => by simpa [blks] using (show Ref _ w u _ _ _ _ (b :: X) by simpa [blks] using R).less
    refine ⟨_, rfl, fun t0 => ?_, fun t0 => ?_⟩
    · have hne : (E1.wr k x.b).2 ≠ 0 := by simpa using t0
      rw [if_pos hne] at hfl
      rw [← hfl]
      exact ⟨rfl, q1, p4, lessR R4, f2.trans f4⟩
    · have he : (E1.wr k x.b).2 = 0 := by simpa using t0
      rw [if_neg (by simp [he])] at hfl
      obtain ⟨a', b', cap', hp', hrow', _, _, _, _, _, _, hok⟩ := R4.c.get hm
      have blk4 := R4.c.blk
      rw [hp] at hp'
      cases hp'
      rw [hp] at blk4
      refine ⟨_, _, _, blk4.cell rfl, ⟨by omega, by omega⟩, rfl, by rw [addr_add, addr_add]; simpa using hok 2 (by omega), fun h5 hh5 => ?_⟩
      rw [addr_add, addr_add] at hh5
      simp only [Nat.zero_add, Int.toNat_natCast] at hh5
      have post := R4.ofPost (R4.c.mod hm Ent.clean (fun _ => rfl) rfl (i := 2) (by omega) (fun s => rfl) hp hh5)
      rw [hx] at post
      obtain ⟨q5, p5, R5, f5⟩ := post
      have hbn : ∀ {q p K E h}, Ref h w u K q E p (blks (some ⟨b, 0, none⟩) ++ X) → b ∉ q.mut w ++ p.mut u := fun R hm => by
        rcases List.mem_append.1 hm with h | h
        · exact R.c.apart b h (by simp [blks])
        · exact R.d.apart b h (by simp [blks])
      rw [wj]
      refine ⟨⟨j + 1, _, _, q5, p5, rfl, by omega, hfl, R5, (v2.keep f4.keep fun c hc => ?_).keep f5.keep fun c hc => ?_, (f2.trans f4).trans f5, ?_, ?_, ?_⟩, ?_⟩
      · simp only [blks, List.mem_singleton] at hc; rw [hc]; exact hbn R1
      · simp only [blks, List.mem_singleton] at hc; rw [hc]; exact hbn R4
      · rw [← hkeys]; exact modE_keys k Ent.clean (fun _ => rfl) _
      · have := RDk.wr_more E1 k x.b; omega
      · rw [RDk.wr_same]; exact hS
      · show ((ds.length : Int) - ((j + 1 : Nat) : Int)).toNat < ((ds.length : Int) - (j : Int)).toNat
        omega
  · have hjl : j = ds.length := by have := of_decide_eq_false e; omega
    subst hjl
    rw [List.drop_length] at hfl
    rw [← hfl]
    refine ⟨rfl, q1, p1, ?_, f2⟩
    exact R1.frame (Keep.refl _ []) (by simp) (fun b hb => .inl (List.mem_append_right _ hb)) fun b hb => R1.old b (List.mem_append_right _ hb)

end
end Go.Proofs.YtfapgccnhonoiaaGreat

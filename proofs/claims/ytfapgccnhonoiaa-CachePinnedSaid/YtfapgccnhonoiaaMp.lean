/- CachePinned: for every input the law returns true, and its arguments read afterwards as before; no condition. -/
import Derived.Test.YtfapgccnhonoiaaMf
import Derived.WalkKit
import Derived.ProofKit
import Derived.ReadAgain
import Derived.Below
import Derived.JoinedOf
import Derived.Deep.Slices
import Derived.Test.YtfapgccnhonoiaaRows

/- The conditions of some functions of the program, as text (printed by a tool of this claim's author, wip/tool), and that they are enough for a call. -/
set_option linter.unusedVariables false
namespace Go.Proofs.Ytfapgccnhonoiaa

/-- incipit/incipitlaw05.live -/
def live_vc (h : Heap) (R : Value → Heap → Prop) : Prop :=
  entersB Try.prog 7 = true ∧
 CallH Try.prog 7 { toList := [Value.int IntKind.i64 8] : Array Value } h fun (v1 : Value) (h1 : Heap) =>
  ∃ (p1 : Option Addr),
   ∃ (i1 : Int),
    v1 = Value.tuple { toList := [Value.pointer p1, Value.int IntKind.i64 i1] : Array Value } ∧
     entersB Try.prog 8 = true ∧
      CallH Try.prog 8 { toList := [Value.pointer p1, Value.int IntKind.i64 2] : Array Value } h1 fun (v2 : Value) (h2 : Heap) =>
       ∃ (p2 : Option Addr),
        ∃ (i2 : Int),
         v2 = Value.tuple { toList := [Value.pointer p2, Value.int IntKind.i64 i2] : Array Value } ∧
          ((i1 != 0) = true → R (Value.bool false) h2) ∧
           ((i1 != 0) = false →
            ((i2 != 0) = true → R (Value.bool false) h2) ∧
             ((i2 != 0) = false →
              (Option.isNone p1 = true → R (Value.bool false) h2) ∧
               (Option.isNone p1 = false →
                (Option.isNone p2 = true → R (Value.bool false) h2) ∧
                 (Option.isNone p2 = false →
                  entersB Try.prog 11 = true ∧
                   CallH Try.prog 11 { toList := [Value.int IntKind.u8 7] : Array Value } h2 fun (v3 : Value) (h3 : Heap) =>
                    ∃ (p3 : Option Addr),
                     ∃ (n1 : Nat),
                      ∃ (n2 : Nat),
                       v3 = Value.slice p3 n1 n2 ∧
                        entersB Try.prog 10 = true ∧
                         CallH Try.prog 10 { toList := [Value.pointer p2, Value.int IntKind.i64 0, Value.slice p3 n1 n2] : Array Value } h3 fun (v4 : Value) (h4 : Heap) =>
                          ∃ (i3 : Int),
                           v4 = Value.int IntKind.i64 i3 ∧
                            entersB Try.prog 11 = true ∧
                             CallH Try.prog 11 { toList := [Value.int IntKind.u8 8] : Array Value } h4 fun (v5 : Value) (h5 : Heap) =>
                              ∃ (p4 : Option Addr),
                               ∃ (n3 : Nat),
                                ∃ (n4 : Nat),
                                 v5 = Value.slice p4 n3 n4 ∧
                                  entersB Try.prog 10 = true ∧
                                   CallH Try.prog 10 { toList := [Value.pointer p2, Value.int IntKind.i64 1, Value.slice p4 n3 n4] : Array Value } h5 fun (v6 : Value) (h6 : Heap) =>
                                    ∃ (i4 : Int),
                                     v6 = Value.int IntKind.i64 i4 ∧
                                      entersB Try.prog 13 = true ∧
                                       CallH Try.prog 13 { toList := [Value.pointer p2, Value.int IntKind.i64 2] : Array Value } h6 fun (v7 : Value) (h7 : Heap) =>
                                        ∃ (p5 : Option Addr),
                                         ∃ (n5 : Nat),
                                          ∃ (n6 : Nat),
                                           ∃ (i5 : Int),
                                            v7 = Value.tuple { toList := [Value.slice p5 n5 n6, Value.int IntKind.i64 i5] : Array Value } ∧
                                             entersB Try.prog 21 = true ∧
                                              CallH Try.prog 21 { toList := [Value.pointer p1, Value.int IntKind.i64 0] : Array Value } h7 fun (v8 : Value) (h8 : Heap) =>
                                               ∃ (p6 : Option Addr),
                                                ∃ (n7 : Nat),
                                                 ∃ (n8 : Nat),
                                                  ∃ (i6 : Int),
                                                   v8 = Value.tuple { toList := [Value.slice p6 n7 n8, Value.int IntKind.i64 i6] : Array Value } ∧
                                                    ((i3 == 0) = true →
                                                      ((i4 == 0) = true →
                                                        ((i5 == 0) = true →
                                                          ((i6 == 0) = true →
                                                            entersB Try.prog 11 = true ∧
                                                             CallH Try.prog 11 { toList := [Value.int IntKind.u8 7] : Array Value } h8 fun (v9 : Value) (h9 : Heap) =>
                                                              ∃ (p7 : Option Addr),
                                                               ∃ (n9 : Nat),
                                                                ∃ (n10 : Nat),
                                                                 v9 = Value.slice p7 n9 n10 ∧
                                                                  entersB Try.prog 17 = true ∧
                                                                   CallH Try.prog 17 { toList := [Value.slice p6 n7 n8, Value.slice p7 n9 n10] : Array Value } h9 fun (v10 : Value) (h10 : Heap) =>
                                                                    ∃ (t1 : Bool),
                                                                     v10 = Value.bool t1 ∧
                                                                      (t1 = true →
                                                                        entersB Try.prog 15 = true ∧
                                                                         CallH Try.prog 15 { toList := [Value.pointer p2] : Array Value } h10 fun (v11 : Value) (h11 : Heap) =>
                                                                          ∃ (p8 : Option Addr),
                                                                           ∃ (n11 : Nat),
                                                                            ∃ (n12 : Nat),
                                                                             v11 = Value.slice p8 n11 n12 ∧
                                                                              (1 = 1 ∧ 1 = 1 ∧ True) ∧
                                                                               ∀ (n13 : Nat) (rec1 : Array Obj),
                                                                                n13 = Array.size h11 →
                                                                                 rec1 = Array.push h11 (Obj.cells { toList := [Value.int IntKind.i64 2, Value.int IntKind.i64 1] : Array Value } 3) →
                                                                                  entersB Try.prog 28 = true ∧
                                                                                   CallH Try.prog 28 { toList := [Value.slice p8 n11 n12, Value.slice (some { block := n13, off := 0 : Addr }) 2 2] : Array Value } rec1 fun (v12 : Value) (h12 : Heap) =>
                                                                                    ∃ (t2 : Bool), v12 = Value.bool t2 ∧ R (Value.bool t2) h12) ∧
                                                                       (t1 = false → R (Value.bool false) h10)) ∧
                                                           ((i6 == 0) = false → R (Value.bool false) h8)) ∧
                                                         ((i5 == 0) = false → R (Value.bool false) h8)) ∧
                                                       ((i4 == 0) = false → R (Value.bool false) h8)) ∧
                                                     ((i3 == 0) = false → R (Value.bool false) h8)))))

theorem live_call  {h : Heap} {R : Value → Heap → Prop} (H : live_vc  h R) : CallH Try.prog 9 ⟨[]⟩ h R :=
  callH_of_dCode tabOK mixed [] Try.func9 (c := bodyC Try.f9) (by kernel_rfl) (by kernel_rfl : Try.f9.ntmps = 75) rfl
    (Eq.mp (by kernel_rfl : live_vc  h R = dCode Try.prog T ⟨[], [], [], [], []⟩ (bodyC Try.f9) none (dEnd T (Try.f9.results.toList) R) (startE 75 []) h) H)

/-- incipit/incipitlaw05.CachePinned -/
def CachePinned_vc (q0 : Int) (q1p : Option Addr) (q1l : Nat) (q1c : Nat) (h : Heap) (R : Value → Heap → Prop) : Prop :=
  (4 : Int) ≠ (0 : Int) ∧
 entersB Try.prog (7 : Nat) = true ∧
  CallH Try.prog (7 : Nat) { toList := [Value.int IntKind.i64 (12 : Int)] : Array Value } h fun (v1 : Value) (h1 : Heap) =>
   ∃ (p1 : Option Addr),
    ∃ (i1 : Int),
     v1 = Value.tuple { toList := [Value.pointer p1, Value.int IntKind.i64 i1] : Array Value } ∧
      entersB Try.prog (8 : Nat) = true ∧
       CallH Try.prog (8 : Nat) { toList := [Value.pointer p1, Value.int IntKind.i64 (IntKind.wrap IntKind.i64 ((2 : Int) + Int.tmod (IntKind.wrap IntKind.i64 q0) (4 : Int)))] : Array Value } h1 fun (v2 : Value) (h2 : Heap) =>
        ∃ (p2 : Option Addr),
         ∃ (i2 : Int),
          v2 = Value.tuple { toList := [Value.pointer p2, Value.int IntKind.i64 i2] : Array Value } ∧
           entersB Try.prog (9 : Nat) = true ∧
            CallH Try.prog (9 : Nat) { toList := [] : Array Value } h2 fun (v3 : Value) (h3 : Heap) =>
             ∃ (t1 : Bool),
              v3 = Value.bool t1 ∧
               ((!t1) = true → R (Value.bool false) h3) ∧
                ((!t1) = false →
                 ((i1 != (0 : Int)) = true → R (Value.bool false) h3) ∧
                  ((i1 != (0 : Int)) = false →
                   ((i2 != (0 : Int)) = true → R (Value.bool false) h3) ∧
                    ((i2 != (0 : Int)) = false →
                     (Option.isNone p1 = true → R (Value.bool false) h3) ∧
                      (Option.isNone p1 = false →
                       (Option.isNone p2 = true → R (Value.bool false) h3) ∧
                        (Option.isNone p2 = false →
                         entersB Try.prog (11 : Nat) = true ∧
                          CallH Try.prog (11 : Nat) { toList := [Value.int IntKind.u8 (5 : Int)] : Array Value } h3 fun (v4 : Value) (h4 : Heap) =>
                           ∃ (p3 : Option Addr),
                            ∃ (n1 : Nat),
                             ∃ (n2 : Nat),
                              v4 = Value.slice p3 n1 n2 ∧
                               entersB Try.prog (10 : Nat) = true ∧
                                CallH Try.prog (10 : Nat) { toList := [Value.pointer p2, Value.int IntKind.i64 (0 : Int), Value.slice p3 n1 n2] : Array Value } h4 fun (v5 : Value) (h5 : Heap) =>
                                 ∃ (i3 : Int),
                                  v5 = Value.int IntKind.i64 i3 ∧
                                   ((i3 != (0 : Int)) = true → R (Value.bool false) h5) ∧
                                    ((i3 != (0 : Int)) = false →
                                     entersB Try.prog (12 : Nat) = true ∧
                                      CallH Try.prog (12 : Nat) { toList := [Value.pointer p2, Value.int IntKind.i64 (0 : Int)] : Array Value } h5 fun (v6 : Value) (h6 : Heap) =>
                                       ∃ (i4 : Int),
                                        v6 = Value.int IntKind.i64 i4 ∧
                                         ((i4 != (0 : Int)) = true → R (Value.bool false) h6) ∧
                                          ((i4 != (0 : Int)) = false →
                                           minI [Value.int IntKind.i64 (↑q1l : Int), Value.int IntKind.i64 (40 : Int)] fun (x1 : Value × Bool) =>
                                            match x1.1 with
                                            | Value.int x2 i5 =>
                                             ((0 : Int) ≤ i5 ∧ i5 ≤ (↑q1c : Int)) ∧
                                              ∃ (I1 : Int → Heap → Prop),
                                               ∃ (M1 : Int → Heap → Nat),
                                                I1 (0 : Int) h6 ∧
                                                 ∀ (i6 : Int) (h7 : Heap),
                                                  I1 i6 h7 →
                                                   (decide (i6 < (↑(Int.toNat i5) : Int)) = true →
                                                     match q1p with
                                                     | some a1 =>
                                                      ((0 : Int) ≤ i6 ∧ i6 < (↑(Int.toNat i5) : Int)) ∧
                                                       ∃ (i7 : Int),
                                                        ∃ (i8 : Int),
                                                         ∃ (i9 : Int),
                                                          ∃ (i10 : Int),
                                                           rowAt h7 (Addr.add a1 (Int.toNat i6 * (4 : Nat))) (4 : Nat) = some [Value.int IntKind.i64 i7, Value.int IntKind.i64 i8, Value.int IntKind.u8 i9, Value.int IntKind.i64 i10] ∧
                                                            ∀ (n3 : Nat) (rec1 : Array Obj),
                                                             n3 = Array.size h7 →
                                                              rec1 =
                                                                Array.push h7
                                                                 (Obj.cells { toList := [Value.int IntKind.i64 (Int.ofNat (0)), Value.int IntKind.i64 (Int.ofNat (0)), Value.int IntKind.u8 (Int.ofNat (0)), Value.int IntKind.i64 (Int.ofNat (0))] : Array Value }
                                                                  (36 : Nat)) →
                                                               (0 : Nat) + (1 : Nat) + (1 : Nat) + (1 : Nat) + (1 : Nat) = (4 : Nat) ∧
                                                                (∀ (v8 : Value), v8 ∈ [Value.int IntKind.i64 i7, Value.int IntKind.i64 i8, Value.int IntKind.u8 i9, Value.int IntKind.i64 i10] → isCell v8 = true) ∧
                                                                 okRow rec1 { block := n3, off := (0 : Nat) : Addr } (4 : Nat) ∧
                                                                  TK.st [(0, 3), (1, 3), (2, 5), (3, 3)] ≠ TK.oth ∧
                                                                   ∀ (h8 : Heap),
                                                                    h8 = updRow rec1 { block := n3, off := (0 : Nat) : Addr } (0 : Nat) [Value.int IntKind.i64 i7, Value.int IntKind.i64 i8, Value.int IntKind.u8 i9, Value.int IntKind.i64 i10] →
                                                                     ∃ (I2 : Int → Heap → Prop),
                                                                      (∃ (i11 : Int),
                                                                        cellAt h8 { block := n3, off := (1 : Nat) : Addr } = some (Value.int IntKind.i64 i11) ∧
                                                                         (decide (i11 > (0 : Int)) = true →
                                                                           ∃ (i12 : Int), cellAt h8 { block := n3, off := (1 : Nat) : Addr } = some (Value.int IntKind.i64 i12) ∧ (11 : Int) ≠ (0 : Int) ∧ I2 (IntKind.wrap IntKind.i64 ((1 : Int) + Int.tmod i12 (11 : Int))) h8) ∧
                                                                          (decide (i11 > (0 : Int)) = false → I2 (1 : Int) h8)) ∧
                                                                       ∀ (i13 : Int) (h9 : Heap),
                                                                        I2 i13 h9 →
                                                                         ∃ (I3 : Int → Heap → Prop),
                                                                          (∃ (i14 : Int),
                                                                            cellAt h9 { block := n3, off := (2 : Nat) : Addr } = some (Value.int IntKind.u8 i14) ∧
                                                                             entersB Try.prog (11 : Nat) = true ∧
                                                                              CallH Try.prog (11 : Nat) { toList := [Value.int IntKind.u8 i14] : Array Value } h9 fun (v9 : Value) (h10 : Heap) =>
                                                                               ∃ (p5 : Option Addr),
                                                                                ∃ (n4 : Nat),
                                                                                 ∃ (n5 : Nat),
                                                                                  v9 = Value.slice p5 n4 n5 ∧
                                                                                   entersB Try.prog (10 : Nat) = true ∧
                                                                                    CallH Try.prog (10 : Nat) { toList := [Value.pointer p2, Value.int IntKind.i64 i13, Value.slice p5 n4 n5] : Array Value } h10 fun (v10 : Value) (h11 : Heap) =>
                                                                                     ∃ (i15 : Int), v10 = Value.int IntKind.i64 i15 ∧ I3 i15 h11) ∧
                                                                           ∀ (i16 : Int) (h12 : Heap),
                                                                            I3 i16 h12 →
                                                                             ∃ (I4 : Int → Heap → Prop),
                                                                              (∃ (i17 : Int),
                                                                                cellAt h12 { block := n3, off := (0 : Nat) : Addr } = some (Value.int IntKind.i64 i17) ∧
                                                                                 ((i17 == (0 : Int)) = true →
                                                                                   entersB Try.prog (13 : Nat) = true ∧
                                                                                    CallH Try.prog (13 : Nat) { toList := [Value.pointer p2, Value.int IntKind.i64 i13] : Array Value } h12 fun (v11 : Value) (h13 : Heap) =>
                                                                                     ∃ (p6 : Option Addr), ∃ (n6 : Nat), ∃ (n7 : Nat), ∃ (i18 : Int), v11 = Value.tuple { toList := [Value.slice p6 n6 n7, Value.int IntKind.i64 i18] : Array Value } ∧ I4 i18 h13) ∧
                                                                                  ((i17 == (0 : Int)) = false → I4 i16 h12)) ∧
                                                                               ∀ (i19 : Int) (h14 : Heap),
                                                                                I4 i19 h14 →
                                                                                 ((i19 != (0 : Int)) = true → R (Value.bool false) h14) ∧
                                                                                  ((i19 != (0 : Int)) = false →
                                                                                   entersB Try.prog (14 : Nat) = true ∧
                                                                                    CallH Try.prog (14 : Nat) { toList := [Value.pointer p2, Value.int IntKind.i64 (0 : Int)] : Array Value } h14 fun (v12 : Value) (h15 : Heap) =>
                                                                                     ∃ (t2 : Bool),
                                                                                      v12 = Value.bool t2 ∧
                                                                                       ((!t2) = true → R (Value.bool false) h15) ∧
                                                                                        ((!t2) = false →
                                                                                         entersB Try.prog (15 : Nat) = true ∧
                                                                                          CallH Try.prog (15 : Nat) { toList := [Value.pointer p2] : Array Value } h15 fun (v13 : Value) (h16 : Heap) =>
                                                                                           ∃ (p7 : Option Addr),
                                                                                            ∃ (n8 : Nat),
                                                                                             ∃ (n9 : Nat),
                                                                                              v13 = Value.slice p7 n8 n9 ∧
                                                                                               (decide ((↑n8 : Int) > IntKind.wrap IntKind.i64 ((2 : Int) + Int.tmod (IntKind.wrap IntKind.i64 q0) (4 : Int))) = true → R (Value.bool false) h16) ∧
                                                                                                (decide ((↑n8 : Int) > IntKind.wrap IntKind.i64 ((2 : Int) + Int.tmod (IntKind.wrap IntKind.i64 q0) (4 : Int))) = false →
                                                                                                 I1 (IntKind.wrap IntKind.i64 (i6 + (1 : Int))) h16 ∧ M1 (IntKind.wrap IntKind.i64 (i6 + (1 : Int))) h16 < M1 i6 h7)))
                                                     | none => False) ∧
                                                    (decide (i6 < (↑(Int.toNat i5) : Int)) = false →
                                                     entersB Try.prog (16 : Nat) = true ∧
                                                      CallH Try.prog (16 : Nat) { toList := [Value.pointer p2, Value.int IntKind.i64 (0 : Int)] : Array Value } h7 fun (v14 : Value) (h17 : Heap) =>
                                                       ∃ (i20 : Int),
                                                        v14 = Value.int IntKind.i64 i20 ∧
                                                         ((i20 != (7 : Int)) = true → R (Value.bool false) h17) ∧
                                                          ((i20 != (7 : Int)) = false →
                                                           ∃ (I5 : Int → Heap → Prop),
                                                            ∃ (M2 : Int → Heap → Nat),
                                                             I5 (1 : Int) h17 ∧
                                                              ∀ (i21 : Int) (h18 : Heap),
                                                               I5 i21 h18 →
                                                                (decide (i21 < IntKind.wrap IntKind.i64 ((2 : Int) + Int.tmod (IntKind.wrap IntKind.i64 q0) (4 : Int))) = true →
                                                                  entersB Try.prog (13 : Nat) = true ∧
                                                                   CallH Try.prog (13 : Nat) { toList := [Value.pointer p2, Value.int IntKind.i64 i21] : Array Value } h18 fun (v15 : Value) (h19 : Heap) =>
                                                                    ∃ (p8 : Option Addr),
                                                                     ∃ (n10 : Nat),
                                                                      ∃ (n11 : Nat),
                                                                       ∃ (i22 : Int),
                                                                        v15 = Value.tuple { toList := [Value.slice p8 n10 n11, Value.int IntKind.i64 i22] : Array Value } ∧
                                                                         ((i22 != (0 : Int)) = true → R (Value.bool false) h19) ∧
                                                                          ((i22 != (0 : Int)) = false →
                                                                           entersB Try.prog (12 : Nat) = true ∧
                                                                            CallH Try.prog (12 : Nat) { toList := [Value.pointer p2, Value.int IntKind.i64 i21] : Array Value } h19 fun (v16 : Value) (h20 : Heap) =>
                                                                             ∃ (i23 : Int),
                                                                              v16 = Value.int IntKind.i64 i23 ∧
                                                                               ((i23 != (0 : Int)) = true → R (Value.bool false) h20) ∧ ((i23 != (0 : Int)) = false → I5 (IntKind.wrap IntKind.i64 (i21 + (1 : Int))) h20 ∧ M2 (IntKind.wrap IntKind.i64 (i21 + (1 : Int))) h20 < M2 i21 h18))) ∧
                                                                 (decide (i21 < IntKind.wrap IntKind.i64 ((2 : Int) + Int.tmod (IntKind.wrap IntKind.i64 q0) (4 : Int))) = false →
                                                                  entersB Try.prog (13 : Nat) = true ∧
                                                                   CallH Try.prog (13 : Nat) { toList := [Value.pointer p2, Value.int IntKind.i64 (11 : Int)] : Array Value } h18 fun (v17 : Value) (h21 : Heap) =>
                                                                    ∃ (p9 : Option Addr),
                                                                     ∃ (n12 : Nat),
                                                                      ∃ (n13 : Nat),
                                                                       ∃ (i24 : Int),
                                                                        v17 = Value.tuple { toList := [Value.slice p9 n12 n13, Value.int IntKind.i64 i24] : Array Value } ∧
                                                                         entersB Try.prog (13 : Nat) = true ∧
                                                                          CallH Try.prog (13 : Nat) { toList := [Value.pointer p2, Value.int IntKind.i64 (0 : Int)] : Array Value } h21 fun (v18 : Value) (h22 : Heap) =>
                                                                           ∃ (p10 : Option Addr),
                                                                            ∃ (n14 : Nat),
                                                                             ∃ (n15 : Nat),
                                                                              ∃ (i25 : Int),
                                                                               v18 = Value.tuple { toList := [Value.slice p10 n14 n15, Value.int IntKind.i64 i25] : Array Value } ∧
                                                                                ((i24 == (6 : Int)) = true →
                                                                                  ((i25 == (0 : Int)) = true →
                                                                                    entersB Try.prog (11 : Nat) = true ∧
                                                                                     CallH Try.prog (11 : Nat) { toList := [Value.int IntKind.u8 (5 : Int)] : Array Value } h22 fun (v19 : Value) (h23 : Heap) =>
                                                                                      ∃ (p11 : Option Addr),
                                                                                       ∃ (n16 : Nat),
                                                                                        ∃ (n17 : Nat),
                                                                                         v19 = Value.slice p11 n16 n17 ∧
                                                                                          entersB Try.prog (17 : Nat) = true ∧
                                                                                           CallH Try.prog (17 : Nat) { toList := [Value.slice p10 n14 n15, Value.slice p11 n16 n17] : Array Value } h23 fun (v20 : Value) (h24 : Heap) =>
                                                                                            ∃ (t3 : Bool),
                                                                                             v20 = Value.bool t3 ∧
                                                                                              (t3 = true →
                                                                                                entersB Try.prog (18 : Nat) = true ∧
                                                                                                 CallH Try.prog (18 : Nat) { toList := [Value.pointer p2, Value.int IntKind.i64 (0 : Int)] : Array Value } h24 fun (v21 : Value) (h25 : Heap) =>
                                                                                                  ∃ (i26 : Int),
                                                                                                   v21 = Value.int IntKind.i64 i26 ∧
                                                                                                    ((i26 == (0 : Int)) = true →
                                                                                                      entersB Try.prog (18 : Nat) = true ∧
                                                                                                       CallH Try.prog (18 : Nat) { toList := [Value.pointer p2, Value.int IntKind.i64 (0 : Int)] : Array Value } h25 fun (v22 : Value) (h26 : Heap) =>
                                                                                                        ∃ (i27 : Int),
                                                                                                         v22 = Value.int IntKind.i64 i27 ∧
                                                                                                          ((i27 == (4 : Int)) = true →
                                                                                                            entersB Try.prog (16 : Nat) = true ∧
                                                                                                             CallH Try.prog (16 : Nat) { toList := [Value.pointer p2, Value.int IntKind.i64 (0 : Int)] : Array Value } h26 fun (v23 : Value) (h27 : Heap) =>
                                                                                                              ∃ (i28 : Int),
                                                                                                               v23 = Value.int IntKind.i64 i28 ∧
                                                                                                                ((i28 == (0 : Int)) = true →
                                                                                                                  entersB Try.prog (14 : Nat) = true ∧
                                                                                                                   CallH Try.prog (14 : Nat) { toList := [Value.pointer p2, Value.int IntKind.i64 (0 : Int)] : Array Value } h27 fun (v24 : Value) (h28 : Heap) =>
                                                                                                                    ∃ (t4 : Bool), v24 = Value.bool t4 ∧ R (Value.bool !t4) h28) ∧
                                                                                                                 ((i28 == (0 : Int)) = false → R (Value.bool false) h27)) ∧
                                                                                                           ((i27 == (4 : Int)) = false → R (Value.bool false) h26)) ∧
                                                                                                     ((i26 == (0 : Int)) = false → R (Value.bool false) h25)) ∧
                                                                                               (t3 = false → R (Value.bool false) h24)) ∧
                                                                                   ((i25 == (0 : Int)) = false → R (Value.bool false) h22)) ∧
                                                                                 ((i24 == (6 : Int)) = false → R (Value.bool false) h22))))
                                            | v25 => False)))))))

theorem CachePinned_call (q0 : Int) (q1p : Option Addr) (q1l : Nat) (q1c : Nat) {h : Heap} {R : Value → Heap → Prop} (H : CachePinned_vc q0 q1p q1l q1c h R) : CallH Try.prog 3 ⟨[.int .u8 q0, .slice q1p q1l q1c]⟩ h R :=
  callH_of_dCode tabOK mixed [(.int .u8 q0, false), (.slice q1p q1l q1c, false)] Try.func3 (c := bodyC Try.f3) (by kernel_rfl) (by kernel_rfl : Try.f3.ntmps = 172) rfl
    (Eq.mp (by kernel_rfl : CachePinned_vc q0 q1p q1l q1c h R = dCode Try.prog T ⟨[], [(23, [(14, .int .i64)]), (9, [(68, .int .i64)])], [(14, [(12, .int .i64)]), (15, [(13, .int .i64)]), (17, [(13, .int .i64)])], [], []⟩ (bodyC Try.f3) none (dEnd T (Try.f3.results.toList) R) (startE 172 [(.int .u8 q0, false), (.slice q1p q1l q1c, false)]) h) H)

end Go.Proofs.Ytfapgccnhonoiaa

/- The laws' first check: does a changed page go, and is it written? -/
namespace Go.Proofs.Ytfapgccnhonoiaa

section
variable {D D' : Dk} {K K' : Ck} {n t : Nat}

theorem roomR_free {v : Int} (h : (K.l.length : Int) < K.size) (r : roomR D K v D' K') : v = 0 ∧ D' = D ∧ K' = K := by
  rcases r with ⟨_, h2, h3, h4⟩ | ⟨h1, _⟩
  · exact ⟨h2, h3, h4⟩
  · exact absurd h h1

theorem PutR.fresh {k : Int} (hm : D.may k (256 : Nat) = 0) (hk : efind k K.l = none) (hl : (K.l.length : Int) < K.size) {pg : List Value} {m : Int} (r : PutR D K k (256 : Nat) pg m D' K') :
    m = 0 ∧ D' = D ∧ K' = K.miss.enter ⟨k, pg, true, 0, IntKind.wrap .i64 (K.clock + 1)⟩ := by
  cases r with
  | bad h => exact absurd hm h
  | held e h he => rw [hk] at he; cases he
  | full _ _ _ h he hr hn => exact absurd (roomR_free (K := K.miss) hl hr).1 hn
  | new _ K1 h he hr =>
    obtain ⟨_, rfl, rfl⟩ := roomR_free (K := K.miss) hl hr
    exact ⟨rfl, rfl, rfl⟩

theorem perm_two {a b : Int} {ds : List Int} (h : ds.Perm [a, b]) : ds = [a, b] ∨ ds = [b, a] := by
  have hl := h.length_eq
  match ds, hl with
  | [x, y], _ =>
    by_cases hx : x = a
    · subst hx
      have := (List.perm_cons x).1 h
      rw [List.perm_singleton.1 this]
      exact .inl rfl
    · have hm : x ∈ [a, b] := h.subset List.mem_cons_self
      have hxb : x = b := by simpa [hx] using hm
      subst hxb
      have h2 : [x, y].Perm [x, a] := h.trans (List.Perm.swap x a [])
      have := (List.perm_cons x).1 h2
      rw [List.perm_singleton.1 this]
      exact .inr rfl

end

def liveE0 : En := ⟨0, bytePg 7, true, 0, 1⟩
def liveE1 : En := ⟨1, bytePg 8, true, 0, 2⟩
def liveK : Ck := ⟨2, 2, 0, 2, [liveE0, liveE1]⟩

theorem live_get {D' : Dk} {K' : Ck} {res : Except Int (List Value)} (r : GetR (Dk.new 8) liveK 2 res D' K') (g : Good (Dk.new 8) liveK 8 4) :
    ∃ pg, res = .ok pg ∧ Good D' K' 8 6 ∧ D'.show 0 = bytePg 7 ∧ K'.l = [liveE1, ⟨2, pg, false, 0, 3⟩] := by
  have hfree : liveK.free := .inr ⟨liveE0, by simp [liveK], by simp [liveE0]⟩
  obtain ⟨hres, g', _, _⟩ := g.get (by omega) (by omega) (by omega) (.inl hfree) r
  have roomK : ∀ {v D1 K1}, roomR (Dk.new 8) liveK.miss v D1 K1 → D1.show 0 = bytePg 7 ∧ K1.l = [liveE1] ∧ K1.clock = 2 := by
    intro v D1 K1 hr
    rcases hr with ⟨h, _⟩ | ⟨_, b, hold, ⟨hb, _⟩ | ⟨hb, e, he, hm, hr⟩⟩
    · exact absurd h (by simp [liveK, Ck.miss])
    · exfalso
      rcases hold with ⟨_, ha⟩ | ⟨e, he, hep, _⟩
      · have := ha liveE0 (by simp [liveK, Ck.miss]); simp [liveE0] at this
      · simp only [liveK, Ck.miss, List.mem_cons, List.not_mem_nil, or_false] at he
        rcases he with rfl | rfl <;> simp only [liveE0, liveE1] at hep <;> omega
    · have hb0 : b = 0 := by
        rcases hold with ⟨hb1, _⟩ | ⟨e', he', hep, _, hmin⟩
        · omega
        · simp only [liveK, Ck.miss, List.mem_cons, List.not_mem_nil, or_false] at he'
          rcases he' with rfl | rfl
          · exact hep.symm
          · have := hmin liveE0 (by simp [liveK, Ck.miss]) (by simp [liveE0])
            simp [liveE0, liveE1] at this
      subst hb0
      have he0 : e = liveE0 := by
        have : efind 0 liveK.miss.l = some liveE0 := rfl
        rw [this] at he
        exact (Option.some.inj he).symm
      subst he0
      rcases hr with ⟨hc, _⟩ | ⟨_, hat, _⟩ | ⟨_, hat, hv, rfl, rfl⟩
      · cases hc
      · exact absurd (g.at_zero (k := 0) (by omega) (by omega)) hat
      · obtain ⟨w1, _, _, _, _, _, w7⟩ := Dk.write_calm (i := 0) g.ok g.calm (by omega) (by have := g.pages; omega) (bytePg_ok 7) (by have := g.few; omega)
        have hv0 : v = 0 := by rw [hv]; exact w1
        rw [if_pos hv0]
        exact ⟨(w7 0).trans (if_pos rfl), rfl, rfl⟩
  cases r with
  | bad h => cases hres
  | held e h he => exact nomatch he
  | full _ _ _ h he hr hn => cases hres
  | off _ _ h he hr ha => cases hres
  | new D1 K1 h he hr ha =>
    obtain ⟨h1, h2, h3⟩ := roomK hr
    refine ⟨_, rfl, g', h1, ?_⟩
    show K1.l ++ [_] = _
    rw [h2, h3]
    rfl

theorem live_ok (h : Heap) : CallH Try.prog 9 ⟨[]⟩ h fun v h' => v = .bool true ∧ Keep h h' [] := by
  refine live_call ⟨by kernel_rfl, (new_ok h 8 2 (by omega) (by omega) (by omega) (by omega)).mono ?_⟩
  rintro _ h1 ⟨da, rfl, hc⟩
  refine ⟨_, _, rfl, by kernel_rfl, hc.mono ?_⟩
  rintro _ h2 ⟨c, p, q, rfl, o⟩
  have g := Good.start (n := 8) (s := 2) (by omega) (by omega) (by omega)
  refine ⟨_, _, rfl, nofun, fun _ => ⟨nofun, fun _ => ⟨nofun, fun _ => ⟨nofun, fun _ => ⟨by kernel_rfl, (pg_ok h2 7).mono ?_⟩⟩⟩⟩⟩
  rintro _ h3 ⟨n3, rfl, hb3, hn3, k3⟩
  have o3 := o.beside k3
  refine ⟨_, _, _, rfl, by kernel_rfl, (o3.put g (by omega) 0 _ 256 256 _ (pg_sl hb3 hn3 o.cd.lt)).mono ?_⟩
  rintro _ h4 ⟨m, D4, K4, p4, q4, rfl, r4, o4, _⟩
  obtain ⟨rfl, g4, _, _, _, _⟩ := g.put (by omega) (by omega) (by omega) (.inl (.inl (by show (0 : Int) < 2; decide))) (bytePg_ok 7) r4
  obtain ⟨-, rfl, e4⟩ := PutR.fresh (g.may_zero (by omega) (by omega)) rfl (by show (0 : Int) < 2; decide) r4
  refine ⟨0, rfl, by kernel_rfl, (pg_ok h4 8).mono ?_⟩
  rintro _ h5 ⟨n5, rfl, hb5, hn5, k5⟩
  have o5 := o4.beside k5
  refine ⟨_, _, _, rfl, by kernel_rfl, (o5.put g4 (by omega) 1 _ 256 256 _ (pg_sl hb5 hn5 o4.cd.lt)).mono ?_⟩
  rintro _ h6 ⟨m, D6, K6, p6, q6, rfl, r6, o6, _⟩
  have l4 : K4.l = [liveE0] := by rw [e4]; rfl
  have hfr : (K4.l.length : Int) < K4.size := by rw [l4, e4]; exact (by decide : (1 : Int) < 2)
  obtain ⟨rfl, g6, _, _, _, _⟩ := g4.put (by omega) (by omega) (by omega) (.inl (.inl hfr)) (bytePg_ok 8) r6
  obtain ⟨-, rfl, e6⟩ := PutR.fresh (g4.may_zero (by omega) (by omega)) (by rw [l4]; rfl) hfr r6
  have hK : K6 = liveK := by rw [e6, e4]; rfl
  subst hK
  refine ⟨0, rfl, by kernel_rfl, (o6.get g6 (by omega) 2).mono ?_⟩
  rintro v7 h7 ⟨res, D7, K7, p7, q7, r7, got7, o7, _⟩
  obtain ⟨pg, rfl, g7, show0, hl7⟩ := live_get r7 g6
  obtain ⟨b7, cap7, rfl, _, _⟩ := gotR_sl got7
  refine ⟨_, _, _, 0, rfl, by kernel_rfl, (dRead_ok o7.cd.dk 0).mono ?_⟩
  rintro v8 h8 ⟨hv8, _⟩
  obtain ⟨b8, p8, rfl, hn8, hb8, hf8, rd8, kd8, sd8⟩ := hv8 (g7.at_zero (by omega) (by omega))
  rw [show0] at hb8
  obtain ⟨p8', q8, o8⟩ := o7.post (o7.cd.disk ⟨p8, rd8, kd8, sd8⟩)
  refine ⟨_, _, _, 0, rfl, fun _ => ⟨fun _ => ⟨fun _ => ⟨fun _ => ⟨by kernel_rfl, (pg_ok h8 7).mono ?_⟩, nofun⟩, nofun⟩, nofun⟩, nofun⟩
  rintro _ h9 ⟨n9, rfl, hb9, hn9, k9⟩
  have o9 := o8.beside k9
  have s8 : SlAt h9 (some ⟨b8, 0, none⟩) 256 (bytePg 7) [] := blk_sl (bytePg_ok 7) (hb8.keep k9 (by simp)) (by simp)
  refine ⟨_, _, _, rfl, by kernel_rfl, (rSame_ok s8 (pg_sl (F := []) hb9 hn9 (by simp)) 256 256 (by omega)).mono ?_⟩
  rintro _ h9 ⟨t, rfl, ht, rfl⟩
  have ht1 : t = true := ht.2 rfl
  subst ht1
  refine ⟨true, rfl, fun _ => ⟨by kernel_rfl, (cHeld_ok o9.cd.ck (fun e he => ?_) (by rw [hl7]; show 2 ≤ 12; omega)).mono ?_⟩, nofun⟩
  · have h1 := g7.used e he
    have h2 := g7.clock
    omega
  rintro _ h11 ⟨p8, n11, c11, ds, rfl, hv, ⟨hp, hs⟩, k11⟩
  refine ⟨_, _, _, rfl, ⟨rfl, rfl, trivial⟩, fun n13 h12 hn13 hh12 => ⟨by kernel_rfl, ?_⟩⟩
  have k12 : Keep h11 h12 [] := by rw [hh12]; exact Keep.push _ _ _
  have hds : ds = [2, 1] := by
    rw [hl7] at hp
    rcases perm_two hp with h | h
    · rw [h] at hs
      have := (List.pairwise_cons.1 hs).1 2 (by simp)
      unfold Ck.usedOf at this
      rw [hl7] at this
      exact absurd (show (3 : Int) ≤ 2 from this) (by decide)
    · exact h
  subst hds
  have v12 : Vec h12 (some ⟨n13, 0, none⟩) 2 2 0 (ints [2, 1]) := by
    refine ⟨rfl, .inr ⟨n13, [], rfl, by omega, ?_, rfl⟩⟩
    rw [hh12, hn13, List.append_nil]
    exact Blk.new _ _ _
  refine (rInts_ok (hv.keep k12 (by simp)) v12 (by have := hv.1; rw [this]; decide)).mono ?_
  rintro _ h13 ⟨rfl, rfl⟩
  exact ⟨_, rfl, by simp, (o9.keep.trans' k11).trans' k12⟩

end Go.Proofs.Ytfapgccnhonoiaa

/- More on what stays true: which pages are held where pins are known. -/
namespace Go.Proofs.Ytfapgccnhonoiaa

section
variable {h0 h h' : Heap} {c da : Nat} {D D' : Dk} {K K' : Ck} {p p' : Pl} {q q' : Cp} {n t : Nat}

theorem pinned_held {k : Int} (h : K.pinOf k ≠ 0) : ∃ e, efind k K.l = some e ∧ e.pins = K.pinOf k := by
  unfold Ck.pinOf at h ⊢
  cases he : efind k K.l with
  | none => rw [he] at h; exact absurd rfl h
  | some e => exact ⟨e, rfl, rfl⟩

theorem Good.pinE (g : Good D K n t) {e : En} (he : e ∈ K.l) : K.pinOf e.p = e.pins := by
  unfold Ck.pinOf; rw [g.find he]

theorem nat_keys (g : Good D K n t) : (K.l.map fun e => e.p.toNat).Nodup := by
  have := g.nodup
  have key : ∀ (l : List En), (∀ e ∈ l, 0 ≤ e.p) → (l.map (·.p)).Nodup → (l.map fun e => e.p.toNat).Nodup := by
    intro l
    induction l with
    | nil => intro _ _; exact List.nodup_nil
    | cons x r ih =>
      intro h1 h2
      simp only [List.map_cons, List.nodup_cons] at h2 ⊢
      refine ⟨fun hm => ?_, ih (fun e he => h1 e (List.mem_cons_of_mem _ he)) h2.2⟩
      obtain ⟨y, hy, hyx⟩ := List.mem_map.1 hm
      have e1 := h1 y (List.mem_cons_of_mem _ hy)
      have e2 := h1 x List.mem_cons_self
      exact h2.1 (List.mem_map.2 ⟨y, hy, by omega⟩)
  exact key K.l (fun e he => (g.keys e he).1) this

/-- Fewer pages are pinned than there is room. -/
theorem Good.free_of (g : Good D K n t) (m : Nat) (hm : (m : Int) < K.size) (hp : ∀ j, 0 < K.pinOf j → 0 ≤ j ∧ j < m) : K.free := by
  by_cases hl : (K.l.length : Int) < K.size
  · exact .inl hl
  right
  apply Classical.byContradiction
  intro hall
  have hall : ∀ e ∈ K.l, 0 < e.pins := fun e he => by
    apply Classical.byContradiction
    intro hn
    exact hall ⟨e, he, hn⟩
  have := nodup_le (K.l.map fun e => e.p.toNat) (List.range m) (nat_keys g) fun k hk => by
    obtain ⟨e, he, rfl⟩ := List.mem_map.1 hk
    have h1 := hp e.p (by rw [g.pinE he]; exact hall e he)
    exact List.mem_range.2 (by omega)
  simp only [List.length_map, List.length_range] at this
  omega

/-- All pages up to the room's size are pinned: no other one is held. -/
theorem Good.just (g : Good D K n t) (m : Nat) (hm : K.size = m) (hp : ∀ j : Int, 0 ≤ j → j < m → K.pinOf j ≠ 0) : ¬ (K.l.length : Int) < K.size ∧ ∀ e ∈ K.l, 0 ≤ e.p ∧ e.p < m := by
  have hin : ∀ i ∈ List.range m, i ∈ K.l.map fun e => e.p.toNat := fun i hi => by
    have := List.mem_range.1 hi
    obtain ⟨e, he, _⟩ := pinned_held (hp i (by omega) (by omega))
    obtain ⟨h1, h2⟩ := efind_mem he
    exact List.mem_map.2 ⟨e, h1, by omega⟩
  have h1 := nodup_le (List.range m) (K.l.map fun e => e.p.toNat) List.nodup_range hin
  simp only [List.length_map, List.length_range] at h1
  refine ⟨by omega, fun e he => ⟨(g.keys e he).1, ?_⟩⟩
  apply Classical.byContradiction
  intro hn
  have h0 := (g.keys e he).1
  have h2 := nodup_le (e.p.toNat :: List.range m) (K.l.map fun e => e.p.toNat) (List.nodup_cons.2 ⟨fun hm => by have := List.mem_range.1 hm; omega, List.nodup_range⟩) fun i hi => by
    rcases List.mem_cons.1 hi with rfl | hi
    · exact List.mem_map.2 ⟨e, he, rfl⟩
    · exact hin i hi
  simp only [List.length_cons, List.length_map, List.length_range] at h2
  have := g.room
  omega

theorem Own.pin (o : Own h0 h c da D K p q) (k : Int) : CallH Try.prog 12 ⟨[ptr c, i64 k]⟩ h fun v h' => v = i64 (K.pin k).2 ∧ ∃ p' q', Own h0 h' c da D (K.pin k).1 p' q' := by
  refine (cPin_ok o.cd.ck k).mono ?_
  rintro v h' ⟨rfl, r⟩
  exact ⟨rfl, o.post (o.cd.cache r)⟩

theorem Own.unpin (o : Own h0 h c da D K p q) (k : Int) : CallH Try.prog 18 ⟨[ptr c, i64 k]⟩ h fun v h' => v = i64 (K.unpin k).2 ∧ ∃ p' q', Own h0 h' c da D (K.unpin k).1 p' q' := by
  refine (cUnpin_ok o.cd.ck k).mono ?_
  rintro v h' ⟨rfl, r⟩
  exact ⟨rfl, o.post (o.cd.cache r)⟩

theorem Own.forget (o : Own h0 h c da D K p q) (k : Int) : CallH Try.prog 16 ⟨[ptr c, i64 k]⟩ h fun v h' => v = i64 (K.forget k).2 ∧ ∃ p' q', Own h0 h' c da D (K.forget k).1 p' q' := by
  refine (cForget_ok o.cd.ck k).mono ?_
  rintro v h' ⟨rfl, r⟩
  exact ⟨rfl, o.post (o.cd.cache r)⟩

theorem Own.held (o : Own h0 h c da D K p q) (g : Good D K n t) (ht : t < 1000000) (hn : K.l.length ≤ 12) : CallH Try.prog 15 ⟨[ptr c]⟩ h fun v h' => ∃ s m cap ds, v = .slice s m cap ∧ Vec h' s m cap h.size (ints ds) ∧ K.heldR ds ∧ Own h0 h' c da D K p q := by
  refine (cHeld_ok o.cd.ck (fun e he => ?_) hn).mono ?_
  · have h1 := g.used e he
    have h2 := g.clock
    omega
  rintro v h' ⟨s, m, cap, ds, rfl, hv, hd, k⟩
  exact ⟨s, m, cap, ds, rfl, hv, hd, o.beside k⟩

end

/-- The acts of a script, as the call finds them. -/
def OpsAt (h : Heap) (sp : Option Addr) (l c : Nat) : Prop :=
  l ≤ c ∧ (l = 0 ∨ ∃ b o, sp = some ⟨b, o, none⟩ ∧ b < h.size ∧ ∀ i < l, ∃ d p cc n, rowAt h ⟨b, o + i * 4, none⟩ 4 = some [i64 d, i64 p, .int .u8 cc, i64 n])

theorem OpsAt.at {h h' : Heap} {sp : Option Addr} {l c : Nat} (s : OpsAt h sp l c) (k : Keep h h' []) {i : Nat} (hi : i < l) : ∃ a d p cc n, sp = some a ∧ rowAt h' (a.add (i * 4)) 4 = some [i64 d, i64 p, .int .u8 cc, i64 n] := by
  obtain ⟨b, o, rfl, hb, hr⟩ := s.2.resolve_left (by omega)
  obtain ⟨d, p, cc, n, hrow⟩ := hr i hi
  refine ⟨_, d, p, cc, n, rfl, ?_⟩
  rw [addr_add, rowAt_same (k.same b hb (by simp))]
  exact hrow

end Go.Proofs.Ytfapgccnhonoiaa

/- CachePinned: a page that is pinned stays held: the walk. -/
namespace Go.Proofs.Ytfapgccnhonoiaa

/-- Just the pages up to m are pinned, each once, and the first of them shows its byte. -/
def PinSt (h hh : Heap) (c da : Nat) (s : Int) (m t : Nat) (X : List Nat) : Prop :=
  ∃ D K p q, Own h hh c da D K p q ∧ Good D K 12 t ∧ K.size = s ∧ (∀ j : Int, 0 ≤ j → j < m → K.pinOf j = 1) ∧ (∀ j : Int, ¬ (0 ≤ j ∧ j < m) → K.pinOf j = 0) ∧ viewOf D K 0 = bytePg 5 ∧ ∀ x ∈ X, x ∉ cdFoot c da p q

theorem CachePinned_ok (h : Heap) (q0 : Int) (h0 : 0 ≤ q0) (h1 : q0 < 256) (sp : Option Addr) (sl sc : Nat) (hs : OpsAt h sp sl sc) :
    CallH Try.prog 3 ⟨[.int .u8 q0, .slice sp sl sc]⟩ h fun v h' => v = .bool true ∧ Keep h h' [] := by
  have hw0 : IntKind.wrap .i64 q0 = q0 := w64 _ (by omega) (by omega)
  have hsz : ∃ s : Int, IntKind.wrap .i64 (2 + Int.tmod (IntKind.wrap .i64 q0) 4) = s ∧ 2 ≤ s ∧ s ≤ 5 := by
    rw [hw0, Int.tmod_eq_emod_of_nonneg h0]
    refine ⟨2 + q0 % 4, w64 _ (by omega) (by omega), by omega, by omega⟩
  obtain ⟨s, hse, hs2, hs5⟩ := hsz
  refine CachePinned_call q0 sp sl sc ?_
  unfold CachePinned_vc
  rw [hse]
  refine ⟨by decide, by kernel_rfl, (new_ok h 12 s (by omega) (by omega) (by omega) (by omega)).mono ?_⟩
  rintro _ h1 ⟨da, rfl, hc⟩
  refine ⟨_, _, rfl, by kernel_rfl, hc.mono ?_⟩
  rintro _ h2 ⟨c, p, q, rfl, o2⟩
  refine ⟨_, _, rfl, by kernel_rfl, (live_ok h2).mono ?_⟩
  rintro _ h3 ⟨rfl, kl⟩
  have o3 := o2.beside kl
  have g3 := Good.start (n := 12) (s := s) (by omega) (by omega) hs2
  refine ⟨true, rfl, nofun, fun _ => ⟨nofun, fun _ => ⟨nofun, fun _ => ⟨nofun, fun _ => ⟨nofun, fun _ => ⟨by kernel_rfl, (pg_ok h3 5).mono ?_⟩⟩⟩⟩⟩⟩
  rintro _ h4 ⟨n4, rfl, hb4, hn4, k4⟩
  have o4 := o3.beside k4
  refine ⟨_, _, _, rfl, by kernel_rfl, (o4.put g3 (by omega) 0 _ 256 256 _ (pg_sl hb4 hn4 o3.cd.lt)).mono ?_⟩
  rintro _ h5 ⟨m, D5, K5, p5, q5, rfl, r5, o5, _⟩
  obtain ⟨rfl, g5, v5, pin5, s5, i5⟩ := g3.put (by omega) (by omega) (by omega) (.inl (.inl (by show (0 : Int) < s; omega))) (bytePg_ok 5) r5
  have pin0 : ∀ j, K5.pinOf j = 0 := fun j => (pin5 j).trans rfl
  refine ⟨0, rfl, nofun, fun _ => ⟨by kernel_rfl, (o5.pin 0).mono ?_⟩⟩
  rintro _ h6 ⟨rfl, p6, q6, o6⟩
  obtain ⟨e5, he5⟩ := Option.isSome_iff_exists.1 i5
  have hp5 : e5.pins = 0 := by
    have := pin0 0
    unfold Ck.pinOf at this
    rw [he5] at this
    exact this
  obtain ⟨z6, g6, v6, pin6, s6, _, i6⟩ := g5.pin he5 (by omega)
  have st6 : PinSt h h6 c da s 1 2 [] := ⟨_, _, p6, q6, o6, g6, by rw [s6, s5]; rfl, fun j j0 j1 => by rw [pin6, if_pos (by omega), pin0]; rfl, fun j hj => by rw [pin6, if_neg (by omega), pin0], by rw [v6, v5, if_pos rfl], by simp⟩
  rw [z6]
  refine ⟨0, rfl, nofun, fun _ => ?_⟩
  -- the script
  obtain ⟨m, hm, hml⟩ : ∃ m : Nat, (if (40 : Int) < (sl : Int) then (40 : Int) else (sl : Int)) = m ∧ m ≤ 40 ∧ m ≤ sl := by
    by_cases h40 : (40 : Int) < (sl : Int)
    · exact ⟨40, by rw [if_pos h40]; rfl, by omega, by omega⟩
    · exact ⟨sl, by rw [if_neg h40], by omega, by omega⟩
  show _ ∧ _
  rw [hm]
  have hcap := hs.1
  refine ⟨⟨by omega, by omega⟩, fun i hh => ∃ i' : Nat, i = i' ∧ i' ≤ m ∧ PinSt h hh c da s 1 (2 + 4 * i') [], fun i _ => (m - i).toNat, ⟨0, rfl, by omega, st6⟩, ?_⟩
  rintro _ h7 ⟨i, rfl, him, st7⟩
  simp only [Int.toNat_natCast]
  refine ⟨fun e => ?_, fun e => ?_⟩
  · have hi : i < m := by have := of_decide_eq_true e; omega
    obtain ⟨D7, K7, p7, q7, o7, g7, s7, pa7, pb7, v7, _⟩ := st7
    obtain ⟨a, xd, xp, xc, xn, rfl, hrow⟩ := hs.at o7.keep (i := i) (by omega)
    refine ⟨⟨by omega, by omega⟩, xd, xp, xc, xn, hrow, fun n8 h8 hn8 hh8 => ⟨trivial, by simp [isCell], ?_, by simp, fun h9 hh9 => ?_⟩⟩
    · have : Blk h8 n8 [i64 0, i64 0, .int .u8 0, i64 0] := by rw [hh8, hn8]; exact Blk.new _ _ _
      exact this.okRow (by simp)
    have op9 : Blk h9 n8 [i64 xd, i64 xp, .int .u8 xc, i64 xn] := by
      have : Blk h8 n8 [i64 0, i64 0, .int .u8 0, i64 0] := by rw [hh8, hn8]; exact Blk.new _ _ _
      have := this.updRow (k := 0) (vs := [i64 xd, i64 xp, .int .u8 xc, i64 xn]) (by simp)
      rw [← hh9] at this
      exact this
    have k9 : Keep h7 h9 [] := by
      have k8 : Keep h7 h8 [] := by rw [hh8]; exact Keep.push _ _ _
      have k89 : Keep h8 h9 [n8] := by rw [hh9]; exact Keep.updRow _ _ _ _ _ (by simp)
      exact k8.trans k89 (by simp; omega)
    have o9 := o7.beside k9
    have nf9 : n8 ∉ cdFoot c da p7 q7 := fun hx => by have := o7.cd.lt n8 hx; omega
    clear hh9 hh8
    refine ⟨fun j hh => hh = h9 ∧ 1 ≤ j ∧ j < 12, ⟨xp, op9.cell rfl, fun e => ⟨xp, op9.cell rfl, by decide, rfl, ?_⟩, fun e => ⟨rfl, by omega, by omega⟩⟩, ?_⟩
    · have hx : 0 < xp := of_decide_eq_true e
      rw [Int.tmod_eq_emod_of_nonneg (by omega), w64 _ (by omega) (by omega)]
      omega
    rintro k hh ⟨rfl, hk1, hk2⟩
    have free7 : K7.free := g7.free_of 1 (by omega) fun j hj => by
      apply Classical.byContradiction
      intro hn
      rw [pb7 j (by omega)] at hj
      omega
    refine ⟨fun e hh => e = 0 ∧ PinSt h hh c da s 1 (2 + 4 * i + 2) [n8] ∧ Blk hh n8 [i64 xd, i64 xp, .int .u8 xc, i64 xn], ⟨xc, op9.cell rfl, by kernel_rfl, (pg_ok hh xc).mono ?_⟩, ?_⟩
    · rintro _ h10 ⟨n10, rfl, hb10, hn10, k10⟩
      have o10 := o9.beside k10
      refine ⟨_, _, _, rfl, by kernel_rfl, (o10.put g7 (by omega) k _ 256 256 _ (pg_sl hb10 hn10 o9.cd.lt)).mono ?_⟩
      rintro _ h11 ⟨m, D11, K11, p11, q11, rfl, r11, o11, f11⟩
      obtain ⟨rfl, g11, v11, pin11, s11, _⟩ := g7.put (by omega) (by omega) (by omega) (.inl free7) (bytePg_ok xc) r11
      refine ⟨0, rfl, rfl, ⟨D11, K11, p11, q11, o11, g11, by rw [s11, s7], fun j a b => by rw [pin11]; exact pa7 j a b, fun j a => by rw [pin11]; exact pb7 j a, by rw [v11, if_neg (by omega)]; exact v7, fun x hx => ?_⟩, ?_⟩
      · simp only [List.mem_singleton] at hx
        rw [hx]
        exact f11.off (by have := op9.lt; have := k10.size; omega) nf9
      · exact (op9.keep k10 (by simp)).keep f11.keep nf9
    rintro _ h12 ⟨rfl, st12, op12⟩
    obtain ⟨D12, K12, p12, q12, o12, g12, s12, pa12, pb12, v12, x12⟩ := st12
    have free12 : K12.free := g12.free_of 1 (by omega) fun j hj => by
      apply Classical.byContradiction
      intro hn
      rw [pb12 j (by omega)] at hj
      omega
    refine ⟨fun e hh => e = 0 ∧ PinSt h hh c da s 1 (2 + 4 * i + 4) [], ⟨xd, op12.cell rfl, fun _ => ⟨by kernel_rfl, (o12.get g12 (by omega) k).mono ?_⟩, fun _ => ⟨rfl, D12, K12, p12, q12, o12, g12.mono (by omega), s12, pa12, pb12, v12, by simp⟩⟩, ?_⟩
    · rintro v h13 ⟨res, D13, K13, p13, q13, r13, got13, o13, f13⟩
      obtain ⟨rfl, g13, a13, _⟩ := g12.get (by omega) (by omega) (by omega) (.inl free12) r13
      obtain ⟨b13, cap13, rfl, _, _⟩ := gotR_sl got13
      exact ⟨_, _, _, 0, rfl, rfl, D13, K13, p13, q13, o13, g13, by rw [a13.size, s12], fun j a b => by rw [a13.pins]; exact pa12 j a b, fun j a => by rw [a13.pins]; exact pb12 j a, by rw [a13.view]; exact v12, by simp⟩
    rintro _ h14 ⟨rfl, D14, K14, p14, q14, o14, g14, s14, pa14, pb14, v14, _⟩
    refine ⟨nofun, fun _ => ⟨by kernel_rfl, (cHas_ok o14.cd.ck 0).mono ?_⟩⟩
    rintro _ h15 ⟨rfl, rfl⟩
    obtain ⟨e14, he14, _⟩ := pinned_held (K := K14) (k := 0) (by rw [pa14 0 (by omega) (by omega)]; omega)
    have hroom := g14.room
    refine ⟨_, rfl, (fun e => by rw [he14] at e; cases e), fun _ => ⟨by kernel_rfl, (o14.held g14 (by omega) (by omega)).mono ?_⟩⟩
    rintro _ h16 ⟨s16, m16, c16, ds16, rfl, hv16, ⟨hd16, _⟩, o16⟩
    have hl16 : m16 = K14.l.length := by
      have h1 := hv16.1
      have h2 := hd16.length_eq
      rw [ints_len] at h1
      simp only [List.length_map] at h2
      omega
    have wi : IntKind.wrap .i64 ((i : Int) + 1) = (i + 1 : Nat) := by rw [w64 _ (by omega) (by omega)]; rfl
    refine ⟨_, _, _, rfl, fun e => ?_, fun _ => ?_⟩
    · have := of_decide_eq_true e; omega
    · rw [wi]
      refine ⟨⟨i + 1, rfl, by omega, D14, K14, p14, q14, o16, g14.mono (by omega), s14, pa14, pb14, v14, by simp⟩, ?_⟩
      show ((m : Int) - ((i + 1 : Nat) : Int)).toNat < ((m : Int) - (i : Int)).toNat
      omega
  · have hi : i = m := by have := of_decide_eq_false e; omega
    subst hi
    obtain ⟨D7, K7, p7, q7, o7, g7, s7, pa7, pb7, v7, _⟩ := st7
    obtain ⟨e7, he7, hp7⟩ := pinned_held (K := K7) (k := 0) (by rw [pa7 0 (by omega) (by omega)]; omega)
    rw [pa7 0 (by omega) (by omega)] at hp7
    have hfg : K7.forget 0 = (K7, 7) := by unfold Ck.forget; rw [he7]; simp only; rw [if_pos (by omega)]
    refine ⟨by kernel_rfl, (o7.forget 0).mono ?_⟩
    rintro _ h8 ⟨rfl, p8, q8, o8⟩
    rw [hfg] at o8 ⊢
    have o8 : Own h h8 c da D7 K7 p8 q8 := o8
    have g7 := g7.mono (show 2 + 4 * i ≤ 200 by omega)
    refine ⟨7, rfl, nofun, fun _ => ⟨fun j hh => ∃ j' : Nat, j = j' ∧ 1 ≤ j' ∧ (j' : Int) ≤ s ∧ PinSt h hh c da s j' (200 + 4 * j') [], fun j _ => (s - j).toNat, ⟨1, rfl, by omega, by omega, D7, K7, p8, q8, o8, g7.mono (by omega), s7, pa7, pb7, v7, by simp⟩, ?_⟩⟩
    rintro _ h9 ⟨j, rfl, hj1, hj2, D9, K9, p9, q9, o9, g9, s9, pa9, pb9, v9, _⟩
    refine ⟨fun e => ?_, fun e => ?_⟩
    · have hj : (j : Int) < s := of_decide_eq_true e
      have free9 : K9.free := g9.free_of j (by omega) fun k hk => by
        apply Classical.byContradiction
        intro hn
        rw [pb9 k hn] at hk
        omega
      refine ⟨by kernel_rfl, (o9.get g9 (by omega) j).mono ?_⟩
      rintro v h10 ⟨res, D10, K10, p10, q10, r10, got10, o10, _⟩
      obtain ⟨rfl, g10, a10, i10⟩ := g9.get (by omega) (by omega) (by omega) (.inl free9) r10
      obtain ⟨b10, cap10, rfl, _, _⟩ := gotR_sl got10
      refine ⟨_, _, _, 0, rfl, nofun, fun _ => ⟨by kernel_rfl, (o10.pin j).mono ?_⟩⟩
      rintro _ h11 ⟨rfl, p11, q11, o11⟩
      obtain ⟨e10, he10⟩ := Option.isSome_iff_exists.1 i10
      have hp10 : e10.pins = 0 := by
        have h1 : K10.pinOf j = e10.pins := by unfold Ck.pinOf; rw [he10]
        rw [← h1, a10.pins]
        exact pb9 j (by omega)
      obtain ⟨z11, g11, v11, pin11, s11, _, _⟩ := g10.pin he10 (by omega)
      rw [z11]
      have wj : IntKind.wrap .i64 ((j : Int) + 1) = (j + 1 : Nat) := by rw [w64 _ (by omega) (by omega)]; rfl
      refine ⟨0, rfl, nofun, fun _ => ?_⟩
      rw [wj]
      refine ⟨⟨j + 1, rfl, by omega, by omega, D10, _, p11, q11, o11, g11.mono (by omega), by rw [s11, a10.size, s9], fun k ka kb => ?_, fun k hk => ?_, by rw [v11, a10.view]; exact v9, by simp⟩, ?_⟩
      · rw [pin11, a10.pins]
        by_cases hk : k = j
        · rw [if_pos hk, pb9 k (by omega)]; rfl
        · rw [if_neg hk]; exact pa9 k ka (by omega)
      · rw [pin11, a10.pins, if_neg (by omega)]
        exact pb9 k (by omega)
      · show (s - ((j + 1 : Nat) : Int)).toNat < (s - (j : Int)).toNat
        omega
    · have hj : (j : Int) = s := by have := of_decide_eq_false e; omega
      obtain ⟨full9, just9⟩ := g9.just j (by omega) fun k ka kb => by rw [pa9 k ka kb]; omega
      have none9 : efind 11 K9.l = none := by
        rw [efind_none]
        intro e he hk
        have := just9 e he
        omega
      refine ⟨by kernel_rfl, (o9.get g9 (by omega) 11).mono ?_⟩
      rintro v h10 ⟨res, D10, K10, p10, q10, r10, got10, o10, _⟩
      obtain ⟨rfl, rfl, rfl⟩ := g9.full (by omega) (by omega) full9 (fun e he => by rw [← g9.pinE he, pa9 e.p (just9 e he).1 (just9 e he).2]; omega) none9 r10
      have hv : v = .tuple ⟨[.slice none 0 0, i64 6]⟩ := got10
      subst hv
      refine ⟨none, 0, 0, 6, rfl, by kernel_rfl, (o10.get g9.miss (by omega) 0).mono ?_⟩
      rintro v h11 ⟨res, D11, K11, p11, q11, r11, got11, o11, _⟩
      obtain ⟨e9, he9, _⟩ := pinned_held (K := K9) (k := 0) (by rw [pa9 0 (by omega) (by omega)]; omega)
      obtain ⟨rfl, g11, a11, i11⟩ := g9.miss.get (by omega) (by omega) (by omega) (.inr (by show (efind 0 K9.l).isSome = true; rw [he9]; rfl)) r11
      have v11 : viewOf D10 K9.miss 0 = bytePg 5 := v9
      rw [v11] at got11
      obtain ⟨b11, cap11, rfl, sl11, lt11, _⟩ := gotR_sl got11
      refine ⟨_, _, _, 0, rfl, fun _ => ⟨fun _ => ⟨by kernel_rfl, (pg_ok h11 5).mono ?_⟩, nofun⟩, nofun⟩
      rintro _ h12 ⟨n12, rfl, hb12, hn12, k12⟩
      have o12 := o11.beside k12
      refine ⟨_, _, _, rfl, by kernel_rfl, (rSame_ok (sl11.keep k12 (by simp)) (blk_sl (F := []) (bytePg_ok 5) hb12 (by simp)) _ 256 (by omega)).mono ?_⟩
      rintro _ h13 ⟨t, rfl, ht, rfl⟩
      have ht1 : t = true := ht.2 rfl
      subst ht1
      obtain ⟨e11, he11⟩ := Option.isSome_iff_exists.1 i11
      have hp11 : e11.pins = 1 := by
        have h1 : K11.pinOf 0 = e11.pins := by unfold Ck.pinOf; rw [he11]
        rw [← h1, a11.pins]
        exact pa9 0 (by omega) (by omega)
      refine ⟨true, rfl, fun _ => ⟨by kernel_rfl, (o12.unpin 0).mono ?_⟩, nofun⟩
      rintro _ h14 ⟨rfl, p14, q14, o14⟩
      obtain ⟨z14, g14, _, pin14, _, i14⟩ := g11.unpin he11 (by omega) (by omega)
      rw [z14]
      have i14' : (efind 0 (K11.unpin 0).1.l).isSome = true := by rw [i14, he11]; rfl
      obtain ⟨e14, he14⟩ := Option.isSome_iff_exists.1 i14'
      have hp14 : e14.pins = 0 := by
        have h1 : (K11.unpin 0).1.pinOf 0 = e14.pins := by unfold Ck.pinOf; rw [he14]
        rw [← h1, pin14, if_pos rfl]
        have h2 : K11.pinOf 0 = e11.pins := by unfold Ck.pinOf; rw [he11]
        omega
      generalize hK14 : (K11.unpin 0).1 = K14 at *
      have hu14 : K14.unpin 0 = (K14, 4) := by unfold Ck.unpin; rw [he14]; simp only; rw [if_pos hp14]
      refine ⟨0, rfl, fun _ => ⟨by kernel_rfl, (o14.unpin 0).mono ?_⟩, nofun⟩
      rintro _ h15 ⟨rfl, p15, q15, o15⟩
      rw [hu14] at o15 ⊢
      have hf14 : K14.forget 0 = ({ K14 with l := edel 0 K14.l }, 0) := by unfold Ck.forget; rw [he14]; simp only; rw [if_neg (by omega)]
      refine ⟨4, rfl, fun _ => ⟨by kernel_rfl, (o15.forget 0).mono ?_⟩, nofun⟩
      rintro _ h16 ⟨rfl, p16, q16, o16⟩
      have hf15 : (K14, (4 : Int)).1.forget 0 = ({ K14 with l := edel 0 K14.l }, 0) := hf14
      rw [hf15] at o16 ⊢
      refine ⟨0, rfl, fun _ => ⟨by kernel_rfl, (cHas_ok o16.cd.ck 0).mono ?_⟩, nofun⟩
      rintro _ h17 ⟨rfl, rfl⟩
      refine ⟨_, rfl, ?_, o16.keep⟩
      have : efind 0 (edel 0 K14.l) = none := by rw [efind_edel 0 0 _ g14.nodup, if_pos rfl]
      show Value.bool (!(efind 0 (edel 0 K14.l)).isSome) = Value.bool true
      rw [this]; rfl

end Go.Proofs.Ytfapgccnhonoiaa

/- From a call over heaps to a given row: what all laws' rows need. -/
namespace Go.Proofs.Ytfapgccnhonoiaa
open Go.ChangeShapes Go.WideShapes Go.ChangeAt Go.RowKit

section
variable {P : Program} {H : Type} {enc : TypeId × Value → H}

theorem below_of {W W' : World} (hs : Sm W W') (k : Keep W.heap W'.heap []) : Below W.heap.size W W' :=
  ⟨hs.os, hs.tape, hs.output, k.size, fun b hb => k.same b hb (by simp)⟩

theorem trodAll_carry {W W' : World} {sp : Nat → Bool} {held : Bool} : ∀ {ts : List TypeId} {vs : List Value} {ds : List (DataW H)} {ps : List MemPlace}, DataW.TrodAll enc P W 0 sp held ts vs ds ps → (∀ p ∈ ps, W.sameAt W' p) → DataW.TrodAll enc P W' 0 sp held ts vs ds ps
  | [], [], [], _, h, _ => h
  | [], [], _ :: _, _, h, _ => h.elim
  | [], _ :: _, _, _, h, _ => h.elim
  | _ :: _, [], _, _, h, _ => h.elim
  | _ :: _, _ :: _, [], _, h, _ => h.elim
  | t :: ts, v :: vs, d :: ds, ps, h, hs => by
    obtain ⟨p, q, ⟨n, h1⟩, h2, rfl⟩ := h
    exact ⟨p, q, ⟨n, DataW.trod_carry n t _ _ h1 fun x hx => hs x (List.mem_append_left _ hx)⟩, trodAll_carry h2 fun x hx => hs x (List.mem_append_right _ hx), rfl⟩

/-- The law's row: true, and the arguments read as before. -/
theorem post_true {f : Func} {s : ChangeSpec} {W W' : World} {args : Array Value} {ds gs : List (DataW H)} {before : List MemPlace} (hK : Kids P (· < P.types.size)) (hF : ∀ t e, t < P.types.size → P.underlying t = some (.slice e) → 0 < P.cellsOf e)
    (hT : ∀ t ∈ f.params.toList, t < P.types.size) (hv : s.vars = []) (hW : DataW.Whole enc P f.params.toList s.vars false W args.toList ds gs before) (hB : Below W.heap.size W W')
    {tb : TypeId} (hrt : f.resultTypes = #[tb]) (htb : P.underlying tb = some .bool) (hres : (s.fn H (ds ++ gs)).results = [.lit (.bool true)]) (hargs : (s.fn H (ds ++ gs)).args = ds) (hvars : (s.fn H (ds ++ gs)).vars = []) :
    s.post enc P f false true false false W args (.bool true) W' := by
  have hlt := hW.lt
  have hW2 := hW
  obtain ⟨p, q, hA, hV, rfl, _, _⟩ := hW
  refine ⟨ds, gs, p ++ q, [], p, [], hW2, ?_, ?_, ?_, hB.frame _, nofun⟩
  · rw [hres, hrt]
    exact ⟨[], [], ⟨1, by simp [DataW.trod_step, DataW.trodStep, htb, Value.cells]⟩, rfl, rfl⟩
  · rw [hargs]
    refine trodAll_carry (DataW.TrodAll.respare hK hF hT hA fun x hx => ?_) fun x hx => hB.same (hlt x (List.mem_append_left _ hx))
    simpa using hlt x (List.mem_append_left _ hx)
  · rw [hvars, hv]
    rfl

/-- The call itself. -/
theorem calls_of {f : FuncId} {args : Array Value} {W : World} (hc : CallH P f args W.heap fun v h' => v = .bool true ∧ Keep W.heap h' []) {Q : Ending → World → Prop} (hq : ∀ W', Below W.heap.size W W' → Q (.returned (.bool true)) W') : Calls P f args W Q := by
  have h : CallsIn Fence.wide 0 P f args W Q := (hc W rfl).mono fun e W' ⟨v, he, hs, hv, hk⟩ => by
    rw [he, hv]
    exact hq W' (below_of hs hk)
  exact callsIn_wide.1 h

theorem row_of_cells {W : World} {a : Addr} {n : Nat} {cs : List Value} (hn : 0 < n) (h : W.cells? 0 a n = some cs) : ∃ b o, a = ⟨b, o, none⟩ ∧ b < W.heap.size ∧ rowAt W.heap a n = some cs := by
  obtain ⟨_, hlen, hcell⟩ := World.cells?_some h
  have c0 := hcell 0 (by omega)
  have e0 : a.add 0 = a := by simp [Addr.add]
  rw [e0, List.getElem?_eq_getElem (by omega)] at c0
  obtain ⟨b, o, sp⟩ := a
  have hsp : sp = none := by
    cases sp with
    | none => rfl
    | some x =>
      have : cellAt W.heap ⟨b, o, some x⟩ = some cs[0] := c0
      unfold cellAt at this
      split at this <;> simp at this
  subst hsp
  have get : ∀ i, i < n → cellAt W.heap ⟨b, o + i, none⟩ = cs[i]? := fun i hi => by
    have := hcell i hi
    rw [addr_add] at this
    exact this
  have g0 := get 0 hn
  rw [cellAt_get, List.getElem?_eq_getElem (by omega)] at g0
  cases hb : W.heap[b]? with
  | none => rw [hb] at g0; cases g0
  | some ob =>
    cases ob with
    | cells c e f =>
      refine ⟨b, o, rfl, (Array.getElem?_eq_some_iff.1 hb).1, ?_⟩
      have each : ∀ i, i < n → c[o + i]? = cs[i]? := fun i hi => by
        have := get i hi
        rw [cellAt_get, hb] at this
        exact this
      have hsz : o + n ≤ c.size := by
        have := each (n - 1) (by omega)
        rw [List.getElem?_eq_getElem (by omega)] at this
        have := (Array.getElem?_eq_some_iff.1 this).1
        omega
      unfold rowAt
      simp only [hb]
      rw [if_pos ⟨rfl, hsz⟩]
      congr 1
      apply List.ext_getElem?
      intro i
      rw [List.getElem?_take, List.getElem?_drop]
      by_cases hi : i < n
      · rw [if_pos hi, ← each i hi]
        simp
      · rw [if_neg hi, List.getElem?_eq_none (by omega)]
    | _ => rw [hb] at g0; cases g0

end
end Go.Proofs.Ytfapgccnhonoiaa

/- The acts of a script, out of what the given row says of the arguments. -/
namespace Go.Proofs.Ytfapgccnhonoiaa
open Go.ChangeShapes Go.WideShapes Go.ChangeAt Go.RowKit

section
variable {P : Program} {H : Type} {enc : TypeId × Value → H}

theorem ops_of {W : World} {t e : TypeId} {f0 f1 f2 f3 : Field} (ht : P.underlying t = some (.slice e)) (he : P.underlying e = some (.struct #[f0, f1, f2, f3])) (ce : P.cellsOf e = 4)
    (o0 : f0.offset = 0) (o1 : f1.offset = 1) (o2 : f2.offset = 2) (o3 : f3.offset = 3) (c0 : P.cellsOf f0.type = 1) (c1 : P.cellsOf f1.type = 1) (c2 : P.cellsOf f2.type = 1) (c3 : P.cellsOf f3.type = 1)
    (u0 : P.underlying f0.type = some (.int .i64)) (u1 : P.underlying f1.type = some (.int .i64)) (u2 : P.underlying f2.type = some (.int .u8)) (u3 : P.underlying f3.type = some (.int .i64))
    {sp : Option Addr} {l c : Nat} {d : DataW H} {ps : List MemPlace} (h : DataW.Trod enc P W 0 (fun _ => true) true t (.slice sp l c) d ps) : OpsAt W.heap sp l c := by
  obtain ⟨fuel, h⟩ := h
  rcases Go.Deep.open_slice ht h with ⟨hcs, _⟩ | ⟨a, len, cap, m, n, D, Pl, hcs, _, hl, _, hm, _, hx⟩
  · simp [Value.cells] at hcs
    obtain ⟨rfl, rfl, rfl⟩ := hcs
    exact ⟨Nat.le_refl _, .inl rfl⟩
  · simp [Value.cells] at hcs
    obtain ⟨rfl, rfl, rfl⟩ := hcs
    refine ⟨hl, ?_⟩
    by_cases h0 : l = 0
    · exact .inl h0
    right
    simp only [if_true] at hm
    subst hm
    have each : ∀ i, i < l → ∃ b o, a.add (i * 4) = ⟨b, o, none⟩ ∧ b < W.heap.size ∧ ∃ d p cc n, rowAt W.heap (a.add (i * 4)) 4 = some [i64 d, i64 p, .int .u8 cc, i64 n] := by
      intro i hi
      obtain ⟨cs', h1, h2⟩ := hx i (by omega)
      rw [ce] at h1
      obtain ⟨b, o, hab, hb, hrow⟩ := row_of_cells (by omega) h1
      obtain ⟨_, hlen, _⟩ := World.cells?_some h1
      obtain ⟨xs, k, hk, hxy, _, hxl, hf⟩ := DataW.trod_struct he h2
      refine ⟨b, o, hab, hb, ?_⟩
      match xs, hxl, cs', hlen with
      | [y0, y1, y2, y3], _, [v0, v1, v2, v3], _ =>
        have g0 := hf 0 f0 rfl
        have g1 := hf 1 f1 rfl
        have g2 := hf 2 f2 rfl
        have g3 := hf 3 f3 rfl
        simp [o0, o1, o2, o3, c0, c1, c2, c3] at g0 g1 g2 g3
        obtain ⟨n0, e0, _⟩ := DataW.trod_int u0 g0
        obtain ⟨n1, e1, _⟩ := DataW.trod_int u1 g1
        obtain ⟨n2, e2, _⟩ := DataW.trod_int u2 g2
        obtain ⟨n3, e3, _⟩ := DataW.trod_int u3 g3
        simp only [List.cons.injEq, and_true] at e0 e1 e2 e3
        subst e0 e1 e2 e3
        exact ⟨n0, n1, n2, n3, hrow⟩
    obtain ⟨b, o, hab, hb, _⟩ := each 0 (by omega)
    have e0 : a.add (0 * 4) = a := by simp [Addr.add]
    rw [e0] at hab
    subst hab
    refine ⟨b, o, rfl, hb, fun i hi => ?_⟩
    obtain ⟨_, _, _, _, d, p, cc, n, hrow⟩ := each i hi
    rw [addr_add] at hrow
    exact ⟨d, p, cc, n, hrow⟩

end
end Go.Proofs.Ytfapgccnhonoiaa

/- CachePinned: for every input the law returns true, and its arguments read afterwards as before. No condition. -/
namespace Go.Proofs.Ytfapgccnhonoiaa
open Go.ChangeShapes Go.WideShapes Go.ChangeAt Go.RowKit

theorem own0 : ownKnob Try.prog.godebug = none := by kernel_rfl
theorem kids0 : Kids Try.prog (· < Try.prog.types.size) := kids_rows (by kernel_rfl) (by kernel_rfl)
theorem full0 : ∀ t e, t < Try.prog.types.size → Try.prog.underlying t = some (.slice e) → 0 < Try.prog.cellsOf e := slices_full_of Try.prog (by kernel_rfl)
theorem paramsP : Try.f3.params = #[5, 22] := by kernel_rfl

theorem u8_of {n : Int} (h : (Lit.int .u8 n).wf = true) : 0 ≤ n ∧ n < 256 := by
  simp only [Lit.wf, Bool.and_eq_true, decide_eq_true_eq] at h
  have h1 : (0 : Int) ≤ n := h.1
  have h2 : n ≤ (255 : Int) := h.2
  omega

set_option maxRecDepth 100000 in
theorem lifted (os : Os) (started : os.Started) (H : Type) (enc : TypeId × Value → H) :
    ReturnsInHanded {} Try.checked os 3 .any (Rows.cachePinnedSpec.pre6 enc Try.prog Try.f3 Rows.cachePinnedRow.domain false) (Rows.cachePinnedSpec.post enc Try.prog Try.f3 false true false false) := by
  refine returnsInHanded_of_change (C := Try.checked) own0 started (by kernel_rfl) Try.func3
    (ChangeSpec.witness6 (enc := enc) (C := Try.checked) false ⟨#[], #[.int .u8 0, .slice none 0 0], []⟩ 8 (by kernel_rfl) (by kernel_rfl) (by kernel_rfl) (by kernel_rfl)) ?_
  intro W base args ds gs before hval0 hW hcnd _
  have hval : ∀ (j : Nat) t v, Try.f3.params[j]? = some t → args[j]? = some v → Value.okWide Try.prog W .any base t v := hval0
  have hW' := hW
  obtain ⟨p, q, hA0, hV, rfl, hfz, hnd⟩ := hW
  have hA : DataW.TrodAll enc Try.prog W 0 (fun _ => true) true Try.f3.params.toList args.toList ds p := hA0
  rw [paramsP] at hA hval
  obtain ⟨v0, v1, d0, d1, p0, p1, rfl, rfl, rfl, h0, h1⟩ := trodAll_two hA
  obtain ⟨rfl, rfl⟩ := trodVars_none hV
  obtain ⟨n, rfl, rfl, rfl, wn⟩ := open_int Try.underlying5 (hval 0 5 v0 rfl rfl) h0
  obtain ⟨sp, sl, sc, rfl⟩ := okWide_slice Try.underlying22 (hval 1 22 v1 rfl rfl)
  have hops := ops_of Try.underlying22 Try.underlying36 (by kernel_rfl) rfl rfl rfl rfl (by kernel_rfl) (by kernel_rfl) (by kernel_rfl) (by kernel_rfl) Try.underlying3 Try.underlying3 Try.underlying5 Try.underlying3 h1
  obtain ⟨hn0, hn1⟩ := u8_of wn
  refine calls_of (CachePinned_ok W.heap n hn0 hn1 sp sl sc hops) fun W' hB => ⟨_, rfl, ?_⟩
  exact post_true (tb := 4) kids0 full0 (by rw [paramsP]; decide +kernel) rfl hW' hB (by kernel_rfl) Try.underlying4 rfl rfl rfl

theorem cachePinned_holds : Rows.CachePinnedSaid :=
  OpenClaim.holds_of_wide (p := Try.pinned) (s := Rows.cachePinnedSpec) (c := Rows.cachePinnedRow) 3 Try.f3 rfl rfl rfl rfl rfl rfl rfl ⟨rfl, rfl, rfl, rfl, rfl⟩ rfl rfl rfl rfl rfl (by kernel_rfl) Try.func3 (by kernel_rfl)
    (of_decide_eq_true (by kernel_rfl)) (by unfold Func.isWrapper; first | (rw [if_pos (by decide +kernel)]; kernel_rfl) | (rw [if_neg (by decide +kernel)]; exact ⟨rfl, rfl⟩))
    (fun os started H enc _ => lifted os started H enc)

end Go.Proofs.Ytfapgccnhonoiaa

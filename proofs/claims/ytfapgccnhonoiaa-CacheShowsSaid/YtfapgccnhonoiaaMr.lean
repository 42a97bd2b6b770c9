/- CacheShows: for every input the law returns true, and its arguments read afterwards as before; no condition. -/
import Derived.Test.YtfapgccnhonoiaaMg
import Derived.WalkKit
import Derived.ProofKit
import Derived.ReadAgain
import Derived.Below
import Derived.JoinedOf
import Derived.Deep.Slices
import Derived.Test.YtfapgccnhonoiaaRows

/- The conditions of some functions of the program, as text (printed by a tool of this claim's author, wip/tool), and that they are enough for a call. -/
set_option linter.unusedVariables false
namespace Go.Proofs.Ytfapgccnhonoiaa

/-- incipit/incipitlaw05.CacheFlushed -/
def CacheFlushed_vc (q0 : Int) (q1p : Option Addr) (q1l : Nat) (q1c : Nat) (h : Heap) (R : Value → Heap → Prop) : Prop :=
  entersB Try.prog (7 : Nat) = true ∧
 CallH Try.prog (7 : Nat) { toList := [Value.int IntKind.i64 (8 : Int)] : Array Value } h fun (v1 : Value) (h1 : Heap) =>
  ∃ (p1 : Option Addr),
   ∃ (i1 : Int),
    v1 = Value.tuple { toList := [Value.pointer p1, Value.int IntKind.i64 i1] : Array Value } ∧
     (63 : Int) ≠ (0 : Int) ∧
      entersB Try.prog (8 : Nat) = true ∧
       CallH Try.prog (8 : Nat) { toList := [Value.pointer p1, Value.int IntKind.i64 (IntKind.wrap IntKind.i64 ((2 : Int) + Int.tmod (IntKind.wrap IntKind.i64 q0) (63 : Int)))] : Array Value } h1 fun (v2 : Value) (h2 : Heap) =>
        ∃ (p2 : Option Addr),
         ∃ (i2 : Int),
          v2 = Value.tuple { toList := [Value.pointer p2, Value.int IntKind.i64 i2] : Array Value } ∧
           entersB Try.prog (9 : Nat) = true ∧
            CallH Try.prog (9 : Nat) { toList := [] : Array Value } h2 fun (v3 : Value) (h3 : Heap) =>
             ∃ (t1 : Bool),
              v3 = Value.bool t1 ∧
               ((!t1) = true → R (Value.bool false) h3) ∧
                ((!t1) = false →
                 ((i1 != (0 : Int)) = true → R (Value.bool false) h3) ∧
                  ((i1 != (0 : Int)) = false →
                   ((i2 != (0 : Int)) = true → R (Value.bool false) h3) ∧
                    ((i2 != (0 : Int)) = false →
                     (Option.isNone p1 = true → R (Value.bool false) h3) ∧
                      (Option.isNone p1 = false →
                       (Option.isNone p2 = true → R (Value.bool false) h3) ∧
                        (Option.isNone p2 = false →
                         ∀ (n1 : Nat) (rec1 : Array Obj),
                          n1 = Array.size h3 →
                           rec1 =
                             Array.push h3
                              (Obj.cells
                               {
                                toList :=
                                 [Value.int IntKind.u8 (Int.ofNat (0)), Value.int IntKind.u8 (Int.ofNat (0)), Value.int IntKind.u8 (Int.ofNat (0)), Value.int IntKind.u8 (Int.ofNat (0)), Value.int IntKind.u8 (Int.ofNat (0)),
                                  Value.int IntKind.u8 (Int.ofNat (0)), Value.int IntKind.u8 (Int.ofNat (0)), Value.int IntKind.u8 (Int.ofNat (0))] :
                                Array Value }
                               (44 : Nat)) →
                            minI [Value.int IntKind.i64 (↑q1l : Int), Value.int IntKind.i64 (60 : Int)] fun (x1 : Value × Bool) =>
                             match x1.1 with
                             | Value.int x2 i3 =>
                              ((0 : Int) ≤ i3 ∧ i3 ≤ (↑q1c : Int)) ∧
                               ∃ (I1 : Int → Heap → Prop),
                                ∃ (M1 : Int → Heap → Nat),
                                 I1 (0 : Int) rec1 ∧
                                  ∀ (i4 : Int) (h4 : Heap),
                                   I1 i4 h4 →
                                    (decide (i4 < (↑(Int.toNat i3) : Int)) = true →
                                      match q1p with
                                      | some a1 =>
                                       ((0 : Int) ≤ i4 ∧ i4 < (↑(Int.toNat i3) : Int)) ∧
                                        ∃ (i5 : Int),
                                         ∃ (i6 : Int),
                                          ∃ (i7 : Int),
                                           ∃ (i8 : Int),
                                            rowAt h4 (Addr.add a1 (Int.toNat i4 * (4 : Nat))) (4 : Nat) = some [Value.int IntKind.i64 i5, Value.int IntKind.i64 i6, Value.int IntKind.u8 i7, Value.int IntKind.i64 i8] ∧
                                             ∀ (n2 : Nat) (rec2 : Array Obj),
                                              n2 = Array.size h4 →
                                               rec2 =
                                                 Array.push h4
                                                  (Obj.cells { toList := [Value.int IntKind.i64 (Int.ofNat (0)), Value.int IntKind.i64 (Int.ofNat (0)), Value.int IntKind.u8 (Int.ofNat (0)), Value.int IntKind.i64 (Int.ofNat (0))] : Array Value } (36 : Nat)) →
                                                (0 : Nat) + (1 : Nat) + (1 : Nat) + (1 : Nat) + (1 : Nat) = (4 : Nat) ∧
                                                 (∀ (v5 : Value), v5 ∈ [Value.int IntKind.i64 i5, Value.int IntKind.i64 i6, Value.int IntKind.u8 i7, Value.int IntKind.i64 i8] → isCell v5 = true) ∧
                                                  okRow rec2 { block := n2, off := (0 : Nat) : Addr } (4 : Nat) ∧
                                                   TK.st [(0, 3), (1, 3), (2, 5), (3, 3)] ≠ TK.oth ∧
                                                    ∀ (h5 : Heap),
                                                     h5 = updRow rec2 { block := n2, off := (0 : Nat) : Addr } (0 : Nat) [Value.int IntKind.i64 i5, Value.int IntKind.i64 i6, Value.int IntKind.u8 i7, Value.int IntKind.i64 i8] →
                                                      ∃ (i9 : Int),
                                                       cellAt h5 { block := n2, off := (1 : Nat) : Addr } = some (Value.int IntKind.i64 i9) ∧
                                                        (decide (i9 < (0 : Int)) = true → I1 (IntKind.wrap IntKind.i64 (i4 + (1 : Int))) h5 ∧ M1 (IntKind.wrap IntKind.i64 (i4 + (1 : Int))) h5 < M1 i4 h4) ∧
                                                         (decide (i9 < (0 : Int)) = false →
                                                          ∃ (i10 : Int),
                                                           cellAt h5 { block := n2, off := (1 : Nat) : Addr } = some (Value.int IntKind.i64 i10) ∧
                                                            (decide (i10 > (7 : Int)) = true → I1 (IntKind.wrap IntKind.i64 (i4 + (1 : Int))) h5 ∧ M1 (IntKind.wrap IntKind.i64 (i4 + (1 : Int))) h5 < M1 i4 h4) ∧
                                                             (decide (i10 > (7 : Int)) = false →
                                                              ∃ (i11 : Int),
                                                               cellAt h5 { block := n2, off := (0 : Nat) : Addr } = some (Value.int IntKind.i64 i11) ∧
                                                                ((i11 == (1 : Int)) = true →
                                                                  ∃ (i12 : Int),
                                                                   cellAt h5 { block := n2, off := (1 : Nat) : Addr } = some (Value.int IntKind.i64 i12) ∧
                                                                    ∃ (i13 : Int),
                                                                     cellAt h5 { block := n2, off := (2 : Nat) : Addr } = some (Value.int IntKind.u8 i13) ∧
                                                                      entersB Try.prog (11 : Nat) = true ∧
                                                                       CallH Try.prog (11 : Nat) { toList := [Value.int IntKind.u8 i13] : Array Value } h5 fun (v6 : Value) (h6 : Heap) =>
                                                                        ∃ (p4 : Option Addr),
                                                                         ∃ (n3 : Nat),
                                                                          ∃ (n4 : Nat),
                                                                           v6 = Value.slice p4 n3 n4 ∧
                                                                            (∃ (i14 : Int), cellAt h6 { block := n2, off := (1 : Nat) : Addr } = some (Value.int IntKind.i64 i14) ∧ (Value.int IntKind.i64 i14, false) = (Value.int IntKind.i64 i12, false)) ∧
                                                                             entersB Try.prog (10 : Nat) = true ∧
                                                                              CallH Try.prog (10 : Nat) { toList := [Value.pointer p2, Value.int IntKind.i64 i12, Value.slice p4 n3 n4] : Array Value } h6 fun (v7 : Value) (h7 : Heap) =>
                                                                               ∃ (i15 : Int),
                                                                                v7 = Value.int IntKind.i64 i15 ∧
                                                                                 ((i15 != (0 : Int)) = true → R (Value.bool false) h7) ∧
                                                                                  ((i15 != (0 : Int)) = false →
                                                                                   ∃ (i16 : Int),
                                                                                    cellAt h7 { block := n2, off := (1 : Nat) : Addr } = some (Value.int IntKind.i64 i16) ∧
                                                                                     ∃ (i17 : Int),
                                                                                      cellAt h7 { block := n2, off := (2 : Nat) : Addr } = some (Value.int IntKind.u8 i17) ∧
                                                                                       ((0 : Int) ≤ i16 ∧ i16 < (↑(8 : Nat) : Int)) ∧
                                                                                        true = true ∧
                                                                                         okAt h7 (Addr.add { block := n1, off := (0 : Nat) : Addr } (Int.toNat i16 * (1 : Nat))) ∧
                                                                                          ∀ (h8 : Heap),
                                                                                           h8 = upd h7 (Addr.add { block := n1, off := (0 : Nat) : Addr } (Int.toNat i16 * (1 : Nat))) (Value.int IntKind.u8 i17) →
                                                                                            I1 (IntKind.wrap IntKind.i64 (i4 + (1 : Int))) h8 ∧ M1 (IntKind.wrap IntKind.i64 (i4 + (1 : Int))) h8 < M1 i4 h4)) ∧
                                                                 ((i11 == (1 : Int)) = false →
                                                                  ∃ (i18 : Int),
                                                                   cellAt h5 { block := n2, off := (1 : Nat) : Addr } = some (Value.int IntKind.i64 i18) ∧
                                                                    entersB Try.prog (13 : Nat) = true ∧
                                                                     CallH Try.prog (13 : Nat) { toList := [Value.pointer p2, Value.int IntKind.i64 i18] : Array Value } h5 fun (v8 : Value) (h9 : Heap) =>
                                                                      ∃ (p5 : Option Addr),
                                                                       ∃ (n5 : Nat),
                                                                        ∃ (n6 : Nat),
                                                                         ∃ (i19 : Int),
                                                                          v8 = Value.tuple { toList := [Value.slice p5 n5 n6, Value.int IntKind.i64 i19] : Array Value } ∧
                                                                           ((i19 != (0 : Int)) = true → R (Value.bool false) h9) ∧ ((i19 != (0 : Int)) = false → I1 (IntKind.wrap IntKind.i64 (i4 + (1 : Int))) h9 ∧ M1 (IntKind.wrap IntKind.i64 (i4 + (1 : Int))) h9 < M1 i4 h4))))
                                      | none => False) ∧
                                     (decide (i4 < (↑(Int.toNat i3) : Int)) = false →
                                      entersB Try.prog (19 : Nat) = true ∧
                                       CallH Try.prog (19 : Nat) { toList := [Value.pointer p2] : Array Value } h4 fun (v9 : Value) (h10 : Heap) =>
                                        ∃ (i20 : Int),
                                         v9 = Value.int IntKind.i64 i20 ∧
                                          ((i20 != (0 : Int)) = true → R (Value.bool false) h10) ∧
                                           ((i20 != (0 : Int)) = false →
                                            entersB Try.prog (20 : Nat) = true ∧
                                             CallH Try.prog (20 : Nat) { toList := [Value.pointer p2] : Array Value } h10 fun (v10 : Value) (h11 : Heap) =>
                                              ∃ (p6 : Option Addr),
                                               ∃ (n7 : Nat),
                                                ∃ (n8 : Nat),
                                                 v10 = Value.slice p6 n7 n8 ∧
                                                  (((↑n7 : Int) != (0 : Int)) = true → R (Value.bool false) h11) ∧
                                                   (((↑n7 : Int) != (0 : Int)) = false →
                                                    ∃ (I2 : Int → Heap → Prop),
                                                     ∃ (M2 : Int → Heap → Nat),
                                                      I2 (0 : Int) h11 ∧
                                                       ∀ (i21 : Int) (h12 : Heap),
                                                        I2 i21 h12 →
                                                         (decide (i21 < (8 : Int)) = true →
                                                           entersB Try.prog (21 : Nat) = true ∧
                                                            CallH Try.prog (21 : Nat) { toList := [Value.pointer p1, Value.int IntKind.i64 i21] : Array Value } h12 fun (v11 : Value) (h13 : Heap) =>
                                                             ∃ (p7 : Option Addr),
                                                              ∃ (n9 : Nat),
                                                               ∃ (n10 : Nat),
                                                                ∃ (i22 : Int),
                                                                 v11 = Value.tuple { toList := [Value.slice p7 n9 n10, Value.int IntKind.i64 i22] : Array Value } ∧
                                                                  ((i22 != (0 : Int)) = true → R (Value.bool false) h13) ∧
                                                                   ((i22 != (0 : Int)) = false →
                                                                    ((0 : Int) ≤ i21 ∧ i21 < (↑(8 : Nat) : Int)) ∧
                                                                     ∃ (i23 : Int),
                                                                      cellAt h13 (Addr.add { block := n1, off := (0 : Nat) : Addr } (Int.toNat i21 * (1 : Nat))) = some (Value.int IntKind.u8 i23) ∧
                                                                       entersB Try.prog (11 : Nat) = true ∧
                                                                        CallH Try.prog (11 : Nat) { toList := [Value.int IntKind.u8 i23] : Array Value } h13 fun (v12 : Value) (h14 : Heap) =>
                                                                         ∃ (p8 : Option Addr),
                                                                          ∃ (n11 : Nat),
                                                                           ∃ (n12 : Nat),
                                                                            v12 = Value.slice p8 n11 n12 ∧
                                                                             entersB Try.prog (17 : Nat) = true ∧
                                                                              CallH Try.prog (17 : Nat) { toList := [Value.slice p7 n9 n10, Value.slice p8 n11 n12] : Array Value } h14 fun (v13 : Value) (h15 : Heap) =>
                                                                               ∃ (t2 : Bool), v13 = Value.bool t2 ∧ ((!t2) = true → R (Value.bool false) h15) ∧ ((!t2) = false → I2 (IntKind.wrap IntKind.i64 (i21 + (1 : Int))) h15 ∧ M2 (IntKind.wrap IntKind.i64 (i21 + (1 : Int))) h15 < M2 i21 h12))) ∧
                                                          (decide (i21 < (8 : Int)) = false → R (Value.bool true) h12))))
                             | v14 => False)))))

theorem CacheFlushed_call (q0 : Int) (q1p : Option Addr) (q1l : Nat) (q1c : Nat) {h : Heap} {R : Value → Heap → Prop} (H : CacheFlushed_vc q0 q1p q1l q1c h R) : CallH Try.prog 4 ⟨[.int .u8 q0, .slice q1p q1l q1c]⟩ h R :=
  callH_of_dCode tabOK mixed [(.int .u8 q0, false), (.slice q1p q1l q1c, false)] Try.func4 (c := bodyC Try.f4) (by kernel_rfl) (by kernel_rfl : Try.f4.ntmps = 122) rfl
    (Eq.mp (by kernel_rfl : CacheFlushed_vc q0 q1p q1l q1c h R = dCode Try.prog T ⟨[], [(21, [(101, .int .i64)]), (7, [(54, .int .i64)])], [], [], []⟩ (bodyC Try.f4) none (dEnd T (Try.f4.results.toList) R) (startE 122 [(.int .u8 q0, false), (.slice q1p q1l q1c, false)]) h) H)

/-- incipit/incipitlaw05.CacheShows -/
def CacheShows_vc (q0 : Int) (q1p : Option Addr) (q1l : Nat) (q1c : Nat) (h : Heap) (R : Value → Heap → Prop) : Prop :=
  entersB Try.prog (7 : Nat) = true ∧
 CallH Try.prog (7 : Nat) { toList := [Value.int IntKind.i64 (8 : Int)] : Array Value } h fun (v1 : Value) (h1 : Heap) =>
  ∃ (p1 : Option Addr),
   ∃ (i1 : Int),
    v1 = Value.tuple { toList := [Value.pointer p1, Value.int IntKind.i64 i1] : Array Value } ∧
     (63 : Int) ≠ (0 : Int) ∧
      entersB Try.prog (8 : Nat) = true ∧
       CallH Try.prog (8 : Nat) { toList := [Value.pointer p1, Value.int IntKind.i64 (IntKind.wrap IntKind.i64 ((2 : Int) + Int.tmod (IntKind.wrap IntKind.i64 q0) (63 : Int)))] : Array Value } h1 fun (v2 : Value) (h2 : Heap) =>
        ∃ (p2 : Option Addr),
         ∃ (i2 : Int),
          v2 = Value.tuple { toList := [Value.pointer p2, Value.int IntKind.i64 i2] : Array Value } ∧
           entersB Try.prog (9 : Nat) = true ∧
            CallH Try.prog (9 : Nat) { toList := [] : Array Value } h2 fun (v3 : Value) (h3 : Heap) =>
             ∃ (t1 : Bool),
              v3 = Value.bool t1 ∧
               ((!t1) = true → R (Value.bool false) h3) ∧
                ((!t1) = false →
                 ((i1 != (0 : Int)) = true → R (Value.bool false) h3) ∧
                  ((i1 != (0 : Int)) = false →
                   ((i2 != (0 : Int)) = true → R (Value.bool false) h3) ∧
                    ((i2 != (0 : Int)) = false →
                     (Option.isNone p1 = true → R (Value.bool false) h3) ∧
                      (Option.isNone p1 = false →
                       (Option.isNone p2 = true → R (Value.bool false) h3) ∧
                        (Option.isNone p2 = false →
                         ∀ (n1 : Nat) (rec1 : Array Obj),
                          n1 = Array.size h3 →
                           rec1 =
                             Array.push h3
                              (Obj.cells
                               {
                                toList :=
                                 [Value.int IntKind.u8 (Int.ofNat (0)), Value.int IntKind.u8 (Int.ofNat (0)), Value.int IntKind.u8 (Int.ofNat (0)), Value.int IntKind.u8 (Int.ofNat (0)), Value.int IntKind.u8 (Int.ofNat (0)),
                                  Value.int IntKind.u8 (Int.ofNat (0)), Value.int IntKind.u8 (Int.ofNat (0)), Value.int IntKind.u8 (Int.ofNat (0))] :
                                Array Value }
                               (44 : Nat)) →
                            minI [Value.int IntKind.i64 (↑q1l : Int), Value.int IntKind.i64 (60 : Int)] fun (x1 : Value × Bool) =>
                             match x1.1 with
                             | Value.int x2 i3 =>
                              ((0 : Int) ≤ i3 ∧ i3 ≤ (↑q1c : Int)) ∧
                               ∃ (I1 : Int → Heap → Prop),
                                ∃ (M1 : Int → Heap → Nat),
                                 I1 (0 : Int) rec1 ∧
                                  ∀ (i4 : Int) (h4 : Heap),
                                   I1 i4 h4 →
                                    (decide (i4 < (↑(Int.toNat i3) : Int)) = true →
                                      match q1p with
                                      | some a1 =>
                                       ((0 : Int) ≤ i4 ∧ i4 < (↑(Int.toNat i3) : Int)) ∧
                                        ∃ (i5 : Int),
                                         ∃ (i6 : Int),
                                          ∃ (i7 : Int),
                                           ∃ (i8 : Int),
                                            rowAt h4 (Addr.add a1 (Int.toNat i4 * (4 : Nat))) (4 : Nat) = some [Value.int IntKind.i64 i5, Value.int IntKind.i64 i6, Value.int IntKind.u8 i7, Value.int IntKind.i64 i8] ∧
                                             ∀ (n2 : Nat) (rec2 : Array Obj),
                                              n2 = Array.size h4 →
                                               rec2 =
                                                 Array.push h4
                                                  (Obj.cells { toList := [Value.int IntKind.i64 (Int.ofNat (0)), Value.int IntKind.i64 (Int.ofNat (0)), Value.int IntKind.u8 (Int.ofNat (0)), Value.int IntKind.i64 (Int.ofNat (0))] : Array Value } (36 : Nat)) →
                                                (0 : Nat) + (1 : Nat) + (1 : Nat) + (1 : Nat) + (1 : Nat) = (4 : Nat) ∧
                                                 (∀ (v5 : Value), v5 ∈ [Value.int IntKind.i64 i5, Value.int IntKind.i64 i6, Value.int IntKind.u8 i7, Value.int IntKind.i64 i8] → isCell v5 = true) ∧
                                                  okRow rec2 { block := n2, off := (0 : Nat) : Addr } (4 : Nat) ∧
                                                   TK.st [(0, 3), (1, 3), (2, 5), (3, 3)] ≠ TK.oth ∧
                                                    ∀ (h5 : Heap),
                                                     h5 = updRow rec2 { block := n2, off := (0 : Nat) : Addr } (0 : Nat) [Value.int IntKind.i64 i5, Value.int IntKind.i64 i6, Value.int IntKind.u8 i7, Value.int IntKind.i64 i8] →
                                                      ∃ (I2 : Int → Heap → Prop),
                                                       (∃ (i9 : Int),
                                                         cellAt h5 { block := n2, off := (1 : Nat) : Addr } = some (Value.int IntKind.i64 i9) ∧
                                                          (decide (i9 > (0 : Int)) = true → ∃ (i10 : Int), cellAt h5 { block := n2, off := (1 : Nat) : Addr } = some (Value.int IntKind.i64 i10) ∧ (8 : Int) ≠ (0 : Int) ∧ I2 (Int.tmod i10 (8 : Int)) h5) ∧
                                                           (decide (i9 > (0 : Int)) = false → I2 (0 : Int) h5)) ∧
                                                        ∀ (i11 : Int) (h6 : Heap),
                                                         I2 i11 h6 →
                                                          ∃ (i12 : Int),
                                                           cellAt h6 { block := n2, off := (0 : Nat) : Addr } = some (Value.int IntKind.i64 i12) ∧
                                                            ((i12 == (1 : Int)) = true →
                                                              ∃ (i13 : Int),
                                                               cellAt h6 { block := n2, off := (2 : Nat) : Addr } = some (Value.int IntKind.u8 i13) ∧
                                                                entersB Try.prog (11 : Nat) = true ∧
                                                                 CallH Try.prog (11 : Nat) { toList := [Value.int IntKind.u8 i13] : Array Value } h6 fun (v6 : Value) (h7 : Heap) =>
                                                                  ∃ (p4 : Option Addr),
                                                                   ∃ (n3 : Nat),
                                                                    ∃ (n4 : Nat),
                                                                     v6 = Value.slice p4 n3 n4 ∧
                                                                      entersB Try.prog (10 : Nat) = true ∧
                                                                       CallH Try.prog (10 : Nat) { toList := [Value.pointer p2, Value.int IntKind.i64 i11, Value.slice p4 n3 n4] : Array Value } h7 fun (v7 : Value) (h8 : Heap) =>
                                                                        ∃ (i14 : Int),
                                                                         v7 = Value.int IntKind.i64 i14 ∧
                                                                          ((i14 != (0 : Int)) = true → R (Value.bool false) h8) ∧
                                                                           ((i14 != (0 : Int)) = false →
                                                                            ∃ (i15 : Int),
                                                                             cellAt h8 { block := n2, off := (2 : Nat) : Addr } = some (Value.int IntKind.u8 i15) ∧
                                                                              ((0 : Int) ≤ i11 ∧ i11 < (↑(8 : Nat) : Int)) ∧
                                                                               true = true ∧
                                                                                okAt h8 (Addr.add { block := n1, off := (0 : Nat) : Addr } (Int.toNat i11 * (1 : Nat))) ∧
                                                                                 ∀ (h9 : Heap),
                                                                                  h9 = upd h8 (Addr.add { block := n1, off := (0 : Nat) : Addr } (Int.toNat i11 * (1 : Nat))) (Value.int IntKind.u8 i15) →
                                                                                   I1 (IntKind.wrap IntKind.i64 (i4 + (1 : Int))) h9 ∧ M1 (IntKind.wrap IntKind.i64 (i4 + (1 : Int))) h9 < M1 i4 h4)) ∧
                                                             ((i12 == (1 : Int)) = false →
                                                              ((i12 == (5 : Int)) = true →
                                                                entersB Try.prog (19 : Nat) = true ∧
                                                                 CallH Try.prog (19 : Nat) { toList := [Value.pointer p2] : Array Value } h6 fun (v8 : Value) (h10 : Heap) =>
                                                                  ∃ (i16 : Int),
                                                                   v8 = Value.int IntKind.i64 i16 ∧
                                                                    ((i16 != (0 : Int)) = true → R (Value.bool false) h10) ∧
                                                                     ((i16 != (0 : Int)) = false →
                                                                      entersB Try.prog (20 : Nat) = true ∧
                                                                       CallH Try.prog (20 : Nat) { toList := [Value.pointer p2] : Array Value } h10 fun (v9 : Value) (h11 : Heap) =>
                                                                        ∃ (p5 : Option Addr),
                                                                         ∃ (n5 : Nat),
                                                                          ∃ (n6 : Nat),
                                                                           v9 = Value.slice p5 n5 n6 ∧
                                                                            (((↑n5 : Int) != (0 : Int)) = true → R (Value.bool false) h11) ∧ (((↑n5 : Int) != (0 : Int)) = false → I1 (IntKind.wrap IntKind.i64 (i4 + (1 : Int))) h11 ∧ M1 (IntKind.wrap IntKind.i64 (i4 + (1 : Int))) h11 < M1 i4 h4))) ∧
                                                               ((i12 == (5 : Int)) = false →
                                                                ((i12 == (7 : Int)) = true →
                                                                  entersB Try.prog (22 : Nat) = true ∧
                                                                   CallH Try.prog (22 : Nat) { toList := [Value.pointer p1] : Array Value } h6 fun (v10 : Value) (h12 : Heap) =>
                                                                    ∃ (i17 : Int),
                                                                     v10 = Value.int IntKind.i64 i17 ∧
                                                                      ((i17 != (0 : Int)) = true → R (Value.bool false) h12) ∧ ((i17 != (0 : Int)) = false → I1 (IntKind.wrap IntKind.i64 (i4 + (1 : Int))) h12 ∧ M1 (IntKind.wrap IntKind.i64 (i4 + (1 : Int))) h12 < M1 i4 h4)) ∧
                                                                 ((i12 == (7 : Int)) = false →
                                                                  entersB Try.prog (13 : Nat) = true ∧
                                                                   CallH Try.prog (13 : Nat) { toList := [Value.pointer p2, Value.int IntKind.i64 i11] : Array Value } h6 fun (v11 : Value) (h13 : Heap) =>
                                                                    ∃ (p6 : Option Addr),
                                                                     ∃ (n7 : Nat),
                                                                      ∃ (n8 : Nat),
                                                                       ∃ (i18 : Int),
                                                                        v11 = Value.tuple { toList := [Value.slice p6 n7 n8, Value.int IntKind.i64 i18] : Array Value } ∧
                                                                         ((i18 != (0 : Int)) = true → R (Value.bool false) h13) ∧
                                                                          ((i18 != (0 : Int)) = false →
                                                                           ((0 : Int) ≤ i11 ∧ i11 < (↑(8 : Nat) : Int)) ∧
                                                                            ∃ (i19 : Int),
                                                                             cellAt h13 (Addr.add { block := n1, off := (0 : Nat) : Addr } (Int.toNat i11 * (1 : Nat))) = some (Value.int IntKind.u8 i19) ∧
                                                                              entersB Try.prog (11 : Nat) = true ∧
                                                                               CallH Try.prog (11 : Nat) { toList := [Value.int IntKind.u8 i19] : Array Value } h13 fun (v12 : Value) (h14 : Heap) =>
                                                                                ∃ (p7 : Option Addr),
                                                                                 ∃ (n9 : Nat),
                                                                                  ∃ (n10 : Nat),
                                                                                   v12 = Value.slice p7 n9 n10 ∧
                                                                                    entersB Try.prog (17 : Nat) = true ∧
                                                                                     CallH Try.prog (17 : Nat) { toList := [Value.slice p6 n7 n8, Value.slice p7 n9 n10] : Array Value } h14 fun (v13 : Value) (h15 : Heap) =>
                                                                                      ∃ (t2 : Bool),
                                                                                       v13 = Value.bool t2 ∧ ((!t2) = true → R (Value.bool false) h15) ∧ ((!t2) = false → I1 (IntKind.wrap IntKind.i64 (i4 + (1 : Int))) h15 ∧ M1 (IntKind.wrap IntKind.i64 (i4 + (1 : Int))) h15 < M1 i4 h4)))))
                                      | none => False) ∧
                                     (decide (i4 < (↑(Int.toNat i3) : Int)) = false → R (Value.bool true) h4)
                             | v14 => False)))))

theorem CacheShows_call (q0 : Int) (q1p : Option Addr) (q1l : Nat) (q1c : Nat) {h : Heap} {R : Value → Heap → Prop} (H : CacheShows_vc q0 q1p q1l q1c h R) : CallH Try.prog 5 ⟨[.int .u8 q0, .slice q1p q1l q1c]⟩ h R :=
  callH_of_dCode tabOK mixed [(.int .u8 q0, false), (.slice q1p q1l q1c, false)] Try.func5 (c := bodyC Try.f5) (by kernel_rfl) (by kernel_rfl : Try.f5.ntmps = 111) rfl
    (Eq.mp (by kernel_rfl : CacheShows_vc q0 q1p q1l q1c h R = dCode Try.prog T ⟨[], [(7, [(52, .int .i64)])], [(12, [(12, .int .i64)])], [], []⟩ (bodyC Try.f5) none (dEnd T (Try.f5.results.toList) R) (startE 111 [(.int .u8 q0, false), (.slice q1p q1l q1c, false)]) h) H)

end Go.Proofs.Ytfapgccnhonoiaa

/- CacheFlushed: behind a flush the device shows all that was put: the walk. -/
namespace Go.Proofs.Ytfapgccnhonoiaa

def u8s (l : List Int) : List Value := l.map fun n => .int .u8 n

theorem u8s_get (l : List Int) (i : Nat) : (u8s l)[i]? = l[i]?.map fun n => Value.int .u8 n := List.getElem?_map
theorem u8s_len (l : List Int) : (u8s l).length = l.length := List.length_map _

/-- Each page shows the byte that the law has noted for it. -/
def ShSt (h hh : Heap) (c da n1 t : Nat) (X : List Nat) : Prop :=
  ∃ D K p q bs, Own h hh c da D K p q ∧ Good D K 8 t ∧ bs.length = 8 ∧ Blk hh n1 (u8s bs) ∧ (∀ j, K.pinOf j = 0) ∧ (∀ j : Nat, j < 8 → ∃ b, bs[j]? = some b ∧ viewOf D K j = bytePg b) ∧ ∀ x ∈ n1 :: X, x ∉ cdFoot c da p q

theorem min_ok (l m : Nat) : ∃ k : Nat, (if (m : Int) < (l : Int) then (m : Int) else (l : Int)) = k ∧ k ≤ m ∧ k ≤ l := by
  by_cases h : (m : Int) < (l : Int)
  · exact ⟨m, by rw [if_pos h], by omega, by omega⟩
  · exact ⟨l, by rw [if_neg h], by omega, by omega⟩

theorem nopins_free {D : Dk} {K : Ck} {n t : Nat} (g : Good D K n t) (h : ∀ j, K.pinOf j = 0) : K.free := g.free_of 0 (by have := g.two; omega) fun j hj => by rw [h j] at hj; omega

/-- The beginning of the laws: a disk of eight pages, a cache of whatever size. -/
theorem size_ok {q0 : Int} (h0 : 0 ≤ q0) (h1 : q0 < 256) : ∃ s : Int, IntKind.wrap .i64 (2 + Int.tmod (IntKind.wrap .i64 q0) 63) = s ∧ 2 ≤ s ∧ s ≤ 64 := by
  have hw0 : IntKind.wrap .i64 q0 = q0 := w64 _ (by omega) (by omega)
  rw [hw0, Int.tmod_eq_emod_of_nonneg h0]
  exact ⟨2 + q0 % 63, w64 _ (by omega) (by omega), by omega, by omega⟩

/-- The act's own copy. -/
theorem op_copy {h7 h8 h9 : Heap} {n8 : Nat} {xd xp xc xn : Int} {ty : TypeId} (hn8 : n8 = h7.size) (hh8 : h8 = h7.push (.cells ⟨[i64 0, i64 0, .int .u8 0, i64 0]⟩ ty (0, 0))) (hh9 : h9 = updRow h8 ⟨n8, 0, none⟩ 0 [i64 xd, i64 xp, .int .u8 xc, i64 xn]) :
    Blk h9 n8 [i64 xd, i64 xp, .int .u8 xc, i64 xn] ∧ Keep h7 h9 [] := by
  have b8 : Blk h8 n8 [i64 0, i64 0, .int .u8 0, i64 0] := by rw [hh8, hn8]; exact Blk.new _ _ _
  have b9 := b8.updRow (k := 0) (vs := [i64 xd, i64 xp, .int .u8 xc, i64 xn]) (by simp)
  rw [← hh9] at b9
  have k8 : Keep h7 h8 [] := by rw [hh8]; exact Keep.push _ _ _
  have k89 : Keep h8 h9 [n8] := by rw [hh9]; exact Keep.updRow _ _ _ _ _ (by simp)
  exact ⟨b9, k8.trans k89 (by simp; omega)⟩

theorem op_room {h7 h8 : Heap} {n8 : Nat} {ty : TypeId} (hn8 : n8 = h7.size) (hh8 : h8 = h7.push (.cells ⟨[i64 0, i64 0, .int .u8 0, i64 0]⟩ ty (0, 0))) : okRow h8 ⟨n8, 0, none⟩ 4 := by
  have : Blk h8 n8 [i64 0, i64 0, .int .u8 0, i64 0] := by rw [hh8, hn8]; exact Blk.new _ _ _
  exact this.okRow (by simp)

section
variable {h hh h' : Heap} {c da n1 t : Nat}

/-- A Put of a page of one byte, noted. -/
theorem ShSt.put {D : Dk} {K : Ck} {bs : List Int} {k : Nat} {cc : Int} (hk : k < 8) {D' : Dk} {K' : Ck} {p' : Pl} {q' : Cp} {m : Int} (g : Good D K 8 t) (ht : t < 900000) (hl : bs.length = 8) (hp : ∀ j, K.pinOf j = 0) (hv : ∀ j : Nat, j < 8 → ∃ b, bs[j]? = some b ∧ viewOf D K j = bytePg b)
    (r : PutR D K k (256 : Nat) (bytePg cc) m D' K') (o : Own h hh c da D' K' p' q') (hb : Blk hh n1 (u8s bs)) (hf : n1 ∉ cdFoot c da p' q') (hh' : h' = upd hh ⟨n1, k, none⟩ (.int .u8 cc)) (hn1 : h.size ≤ n1) : m = 0 ∧ ShSt h h' c da n1 (t + 2) [] := by
  obtain ⟨rfl, g', v', p1, _, _⟩ := g.put ht (by omega) (by omega) (.inl (nopins_free g hp)) (bytePg_ok cc) r
  have k' : Keep hh h' [n1] := by rw [hh']; exact Keep.upd _ _ _ _ _ (by simp)
  have hb' := hb.upd k (.int .u8 cc)
  rw [← hh'] at hb'
  have he : (u8s bs).set k (.int .u8 cc) = u8s (bs.set k cc) := by simp [u8s, List.map_set]
  rw [he] at hb'
  refine ⟨rfl, D', K', p', q', bs.set k cc, ⟨o.cd.keep k' fun x hx => by simp only [List.mem_singleton]; rintro rfl; exact hf hx, o.keep.trans k' (by simp; omega), o.new⟩, g', by simpa using hl, hb', fun j => by rw [p1]; exact hp j, fun j hj => ?_, by simpa using hf⟩
  rw [v']
  by_cases hjk : (j : Int) = k
  · have : j = k := by omega
    subst this
    exact ⟨cc, by rw [List.getElem?_set, if_pos rfl, if_pos (by omega)], by rw [if_pos rfl]⟩
  · obtain ⟨b, hb1, hb2⟩ := hv j hj
    exact ⟨b, by rw [List.getElem?_set, if_neg (by omega)]; exact hb1, by rw [if_neg hjk]; exact hb2⟩

/-- A Get. -/
theorem ShSt.get {D : Dk} {K : Ck} {bs : List Int} {k : Nat} (hk : k < 8) {D' : Dk} {K' : Ck} {p' : Pl} {q' : Cp} {res : Except Int (List Value)} (g : Good D K 8 t) (ht : t < 900000) (hl : bs.length = 8) (hp : ∀ j, K.pinOf j = 0) (hv : ∀ j : Nat, j < 8 → ∃ b, bs[j]? = some b ∧ viewOf D K j = bytePg b)
    (r : GetR D K k res D' K') (o : Own h h' c da D' K' p' q') (hb : Blk h' n1 (u8s bs)) (hf : n1 ∉ cdFoot c da p' q') : (∃ b, bs[k]? = some b ∧ res = .ok (bytePg b)) ∧ ShSt h h' c da n1 (t + 2) [] := by
  obtain ⟨rfl, g', a', _⟩ := g.get ht (by omega) (by omega) (.inl (nopins_free g hp)) r
  obtain ⟨b, hb1, hb2⟩ := hv k hk
  refine ⟨⟨b, hb1, by rw [hb2]⟩, D', K', p', q', bs, o, g', hl, hb, fun j => by rw [a'.pins]; exact hp j, fun j hj => ?_, by simpa using hf⟩
  rw [a'.view]; exact hv j hj

end

theorem CacheFlushed_ok (h : Heap) (q0 : Int) (h0 : 0 ≤ q0) (h1 : q0 < 256) (sp : Option Addr) (sl sc : Nat) (hs : OpsAt h sp sl sc) :
    CallH Try.prog 4 ⟨[.int .u8 q0, .slice sp sl sc]⟩ h fun v h' => v = .bool true ∧ Keep h h' [] := by
  obtain ⟨s, hse, hs2, hs5⟩ := size_ok h0 h1
  refine CacheFlushed_call q0 sp sl sc ?_
  unfold CacheFlushed_vc
  rw [hse]
  refine ⟨by kernel_rfl, (new_ok h 8 s (by omega) (by omega) (by omega) (by omega)).mono ?_⟩
  rintro _ h1 ⟨da, rfl, hc⟩
  refine ⟨_, _, rfl, by decide, by kernel_rfl, hc.mono ?_⟩
  rintro _ h2 ⟨c, p, q, rfl, o2⟩
  refine ⟨_, _, rfl, by kernel_rfl, (live_ok h2).mono ?_⟩
  rintro _ h3 ⟨rfl, kl⟩
  have o3 := o2.beside kl
  have g3 := Good.start (n := 8) (s := s) (by omega) (by omega) hs2
  refine ⟨true, rfl, nofun, fun _ => ⟨nofun, fun _ => ⟨nofun, fun _ => ⟨nofun, fun _ => ⟨nofun, fun _ n1 h4 hn1 hh4 => ?_⟩⟩⟩⟩⟩
  have k4 : Keep h3 h4 [] := by rw [hh4]; exact Keep.push _ _ _
  have o4 := o3.beside k4
  have nb4 : Blk h4 n1 (u8s (List.replicate 8 0)) := by rw [hh4, hn1]; exact Blk.new _ _ _
  have hn1s : h.size ≤ n1 := by have := o3.keep.size; omega
  have st4 : ShSt h h4 c da n1 0 [] := ⟨_, _, p, q, List.replicate 8 0, o4, g3, rfl, nb4, fun j => rfl, fun j hj => ⟨0, by rw [List.getElem?_replicate, if_pos hj], start_view (n := 8) (by omega) (by omega)⟩, by
    simp only [List.mem_singleton, forall_eq]
    intro hx
    have := o3.cd.lt n1 hx
    omega⟩
  obtain ⟨m, hm, hm60, hml⟩ := min_ok sl 60
  have hcap := hs.1
  show _ ∧ _
  rw [show (if (60 : Int) < (sl : Int) then (60 : Int) else (sl : Int)) = (m : Int) from hm]
  refine ⟨⟨by omega, by omega⟩, fun i hh => ∃ i' : Nat, i = i' ∧ i' ≤ m ∧ ShSt h hh c da n1 (4 * i') [], fun i _ => (m - i).toNat, ⟨0, rfl, by omega, st4⟩, ?_⟩
  rintro _ h7 ⟨i, rfl, him, D7, K7, p7, q7, bs, o7, g7, hbs, nb7, pin7, v7, x7⟩
  have wi : IntKind.wrap .i64 ((i : Int) + 1) = (i + 1 : Nat) := by rw [w64 _ (by omega) (by omega)]; rfl
  simp only [Int.toNat_natCast, wi]
  have nf7 : n1 ∉ cdFoot c da p7 q7 := x7 n1 (by simp)
  have next : i < m → ∀ hh t, t ≤ 4 * i + 4 → ShSt h hh c da n1 t [] → (∃ i' : Nat, ((i + 1 : Nat) : Int) = i' ∧ i' ≤ m ∧ ShSt h hh c da n1 (4 * i') []) ∧ ((m : Int) - ((i + 1 : Nat) : Int)).toNat < ((m : Int) - (i : Int)).toNat := by
    intro hi hh t ht st
    obtain ⟨D, K, p, q, bs, o, g, r⟩ := st
    exact ⟨⟨i + 1, rfl, by omega, D, K, p, q, bs, o, g.mono (by omega), r⟩, by omega⟩
  refine ⟨fun e => ?_, fun e => ?_⟩
  · have hi : i < m := by have := of_decide_eq_true e; omega
    obtain ⟨a, xd, xp, xc, xn, rfl, hrow⟩ := hs.at o7.keep (i := i) (by omega)
    refine ⟨⟨by omega, by omega⟩, xd, xp, xc, xn, hrow, fun n8 h8 hn8 hh8 => ⟨trivial, by simp [isCell], op_room hn8 hh8, by simp, fun h9 hh9 => ?_⟩⟩
    obtain ⟨op9, k9⟩ := op_copy hn8 hh8 hh9
    have o9 := o7.beside k9
    have nf9 : n8 ∉ cdFoot c da p7 q7 := fun hx => by have := o7.cd.lt n8 hx; omega
    have nb9 := nb7.keep k9 (by simp)
    clear hh9 hh8
    have skip : ShSt h h9 c da n1 (4 * i) [] := ⟨D7, K7, p7, q7, bs, o9, g7, hbs, nb9, pin7, v7, x7⟩
    refine ⟨xp, op9.cell rfl, fun _ => next hi _ _ (by omega) skip, fun e1 => ⟨xp, op9.cell rfl, fun _ => next hi _ _ (by omega) skip, fun e2 => ?_⟩⟩
    have hx0 : ¬ xp < 0 := of_decide_eq_false e1
    have hx7 : ¬ xp > 7 := of_decide_eq_false e2
    obtain ⟨k, rfl⟩ : ∃ k : Nat, xp = k := ⟨xp.toNat, by omega⟩
    have hk8 : k < 8 := by omega
    refine ⟨xd, op9.cell rfl, fun _ => ⟨_, op9.cell rfl, xc, op9.cell rfl, by kernel_rfl, (pg_ok h9 xc).mono ?_⟩, fun _ => ⟨_, op9.cell rfl, by kernel_rfl, (o9.get g7 (by omega) k).mono ?_⟩⟩
    · rintro _ h10 ⟨n10, rfl, hb10, hn10, k10⟩
      have o10 := o9.beside k10
      have op10 := op9.keep k10 (by simp)
      refine ⟨_, _, _, rfl, ⟨_, op10.cell rfl, rfl⟩, by kernel_rfl, (o10.put g7 (by omega) k _ 256 256 _ (pg_sl hb10 hn10 o9.cd.lt)).mono ?_⟩
      rintro _ h11 ⟨m', D11, K11, p11, q11, rfl, r11, o11, f11⟩
      have op11 := op10.keep f11.keep nf9
      have nb11 := (nb9.keep k10 (by simp)).keep f11.keep nf7
      have nf11 := f11.off (by have := nb9.lt; have := k10.size; omega) nf7
      have hm0 := (ShSt.put hk8 g7 (by omega) hbs pin7 v7 r11 o11 nb11 nf11 rfl hn1s).1
      subst hm0
      refine ⟨0, rfl, nofun, fun _ => ⟨_, op11.cell rfl, xc, op11.cell rfl, ⟨by omega, by omega⟩, trivial, ?_, fun h12 hh12 => ?_⟩⟩
      · rw [addr_add]; exact nb11.ok (by rw [u8s_len]; simp; omega)
      · rw [addr_add] at hh12
        simp only [Int.toNat_natCast, Nat.zero_add, Nat.mul_one] at hh12
        exact next hi _ _ (by omega) (ShSt.put hk8 g7 (by omega) hbs pin7 v7 r11 o11 nb11 nf11 hh12 hn1s).2
    · rintro v h10 ⟨res, D10, K10, p10, q10, r10, got10, o10, f10⟩
      have nb10 := nb9.keep f10.keep nf7
      obtain ⟨⟨b, _, rfl⟩, st10⟩ := ShSt.get hk8 g7 (by omega) hbs pin7 v7 r10 o10 nb10 (f10.off nb9.lt nf7)
      obtain ⟨b10, cap10, rfl, _, _⟩ := gotR_sl got10
      exact ⟨_, _, _, 0, rfl, nofun, fun _ => next hi _ _ (by omega) st10⟩
  · have hroom := g7.len (by omega)
    refine ⟨by kernel_rfl, (o7.flush g7 (by omega) hroom).mono ?_⟩
    rintro _ h10 ⟨rfl, D10, K10, p10, q10, o10, g10, a10, c10, s10, f10⟩
    have nb10 := nb7.keep f10.keep nf7
    have nf10 := f10.off nb7.lt nf7
    refine ⟨0, rfl, nofun, fun _ => ⟨by kernel_rfl, (o10.changed (g10.len (by omega))).mono ?_⟩⟩
    rintro _ h11 ⟨s11, m11, cap11, ds, rfl, rfl, hd, o11, k11⟩
    rw [c10 ds hd]
    have v10 : ∀ j : Nat, j < 8 → ∃ b, bs[j]? = some b ∧ D10.show j = bytePg b := fun j hj => by
      obtain ⟨b, hb1, hb2⟩ := v7 j hj
      exact ⟨b, hb1, by rw [s10, a10.view]; exact hb2⟩
    refine ⟨_, _, _, rfl, nofun, fun _ => ⟨fun j hh => ∃ j' : Nat, j = j' ∧ ∃ p q, Own h hh c da D10 K10 p q ∧ Blk hh n1 (u8s bs) ∧ n1 ∉ cdFoot c da p q, fun j _ => (8 - j).toNat, ⟨0, rfl, p10, q10, o11, nb10.keep k11 (by simp), nf10⟩, ?_⟩⟩
    rintro _ h12 ⟨j, rfl, p12, q12, o12, nb12, nf12⟩
    refine ⟨fun e => ?_, fun e => ⟨trivial, o12.keep⟩⟩
    have hj : j < 8 := by have := of_decide_eq_true e; omega
    refine ⟨by kernel_rfl, (o12.read g10 (by omega) (by omega)).mono ?_⟩
    rintro _ h13 ⟨b13, p13, q13, rfl, hb13, hok13, o13, f13⟩
    have nb13 := nb12.keep f13.keep nf12
    obtain ⟨b, hb1, hb2⟩ := v10 j hj
    refine ⟨_, _, _, 0, rfl, nofun, fun _ => ⟨⟨by omega, by omega⟩, b, ?_, by kernel_rfl, (pg_ok h13 b).mono ?_⟩⟩
    · rw [addr_add]
      refine nb13.cell ?_
      simp only [Int.toNat_natCast, Nat.zero_add, Nat.mul_one]
      rw [u8s_get, hb1]; rfl
    rintro _ h14 ⟨n14, rfl, hb14, hn14, k14⟩
    rw [hb2] at hb13
    refine ⟨_, _, _, rfl, by kernel_rfl, (rSame_ok (blk_sl (F := []) (bytePg_ok b) (hb13.keep k14 (by simp)) (by simp)) (blk_sl (F := []) (bytePg_ok b) hb14 (by simp)) 256 256 (by omega)).mono ?_⟩
    rintro _ h15 ⟨t, rfl, ht, rfl⟩
    have ht1 : t = true := ht.2 rfl
    subst ht1
    have wj : IntKind.wrap .i64 ((j : Int) + 1) = (j + 1 : Nat) := by rw [w64 _ (by omega) (by omega)]; rfl
    refine ⟨true, rfl, nofun, fun _ => ?_⟩
    rw [wj]
    refine ⟨⟨j + 1, rfl, p13, q13, o13.beside k14, nb13.keep k14 (by simp), f13.off nb12.lt nf12⟩, ?_⟩
    show ((8 : Int) - ((j + 1 : Nat) : Int)).toNat < ((8 : Int) - (j : Int)).toNat
    omega

end Go.Proofs.Ytfapgccnhonoiaa

/- CacheShows: what is told of a page is what was put there last: the walk. -/
namespace Go.Proofs.Ytfapgccnhonoiaa

theorem CacheShows_ok (h : Heap) (q0 : Int) (h0 : 0 ≤ q0) (h1 : q0 < 256) (sp : Option Addr) (sl sc : Nat) (hs : OpsAt h sp sl sc) :
    CallH Try.prog 5 ⟨[.int .u8 q0, .slice sp sl sc]⟩ h fun v h' => v = .bool true ∧ Keep h h' [] := by
  obtain ⟨s, hse, hs2, hs5⟩ := size_ok h0 h1
  refine CacheShows_call q0 sp sl sc ?_
  unfold CacheShows_vc
  rw [hse]
  refine ⟨by kernel_rfl, (new_ok h 8 s (by omega) (by omega) (by omega) (by omega)).mono ?_⟩
  rintro _ h1 ⟨da, rfl, hc⟩
  refine ⟨_, _, rfl, by decide, by kernel_rfl, hc.mono ?_⟩
  rintro _ h2 ⟨c, p, q, rfl, o2⟩
  refine ⟨_, _, rfl, by kernel_rfl, (live_ok h2).mono ?_⟩
  rintro _ h3 ⟨rfl, kl⟩
  have o3 := o2.beside kl
  have g3 := Good.start (n := 8) (s := s) (by omega) (by omega) hs2
  refine ⟨true, rfl, nofun, fun _ => ⟨nofun, fun _ => ⟨nofun, fun _ => ⟨nofun, fun _ => ⟨nofun, fun _ n1 h4 hn1 hh4 => ?_⟩⟩⟩⟩⟩
  have k4 : Keep h3 h4 [] := by rw [hh4]; exact Keep.push _ _ _
  have o4 := o3.beside k4
  have nb4 : Blk h4 n1 (u8s (List.replicate 8 0)) := by rw [hh4, hn1]; exact Blk.new _ _ _
  have hn1s : h.size ≤ n1 := by have := o3.keep.size; omega
  have st4 : ShSt h h4 c da n1 0 [] := ⟨_, _, p, q, List.replicate 8 0, o4, g3, rfl, nb4, fun j => rfl, fun j hj => ⟨0, by rw [List.getElem?_replicate, if_pos hj], start_view (n := 8) (by omega) (by omega)⟩, by
    simp only [List.mem_singleton, forall_eq]
    intro hx
    have := o3.cd.lt n1 hx
    omega⟩
  obtain ⟨m, hm, hm60, hml⟩ := min_ok sl 60
  have hcap := hs.1
  show _ ∧ _
  rw [show (if (60 : Int) < (sl : Int) then (60 : Int) else (sl : Int)) = (m : Int) from hm]
  refine ⟨⟨by omega, by omega⟩, fun i hh => ∃ i' : Nat, i = i' ∧ i' ≤ m ∧ ShSt h hh c da n1 (14 * i') [], fun i _ => (m - i).toNat, ⟨0, rfl, by omega, st4⟩, ?_⟩
  rintro _ h7 ⟨i, rfl, him, D7, K7, p7, q7, bs, o7, g7, hbs, nb7, pin7, v7, x7⟩
  have wi : IntKind.wrap .i64 ((i : Int) + 1) = (i + 1 : Nat) := by rw [w64 _ (by omega) (by omega)]; rfl
  simp only [Int.toNat_natCast, wi]
  have nf7 : n1 ∉ cdFoot c da p7 q7 := x7 n1 (by simp)
  have next : i < m → ∀ hh t, t ≤ 14 * i + 14 → ShSt h hh c da n1 t [] → (∃ i' : Nat, ((i + 1 : Nat) : Int) = i' ∧ i' ≤ m ∧ ShSt h hh c da n1 (14 * i') []) ∧ ((m : Int) - ((i + 1 : Nat) : Int)).toNat < ((m : Int) - (i : Int)).toNat := by
    intro hi hh t ht st
    obtain ⟨D, K, p, q, bs, o, g, r⟩ := st
    exact ⟨⟨i + 1, rfl, by omega, D, K, p, q, bs, o, g.mono (by omega), r⟩, by omega⟩
  refine ⟨fun e => ?_, fun e => ⟨trivial, o7.keep⟩⟩
  have hi : i < m := by have := of_decide_eq_true e; omega
  obtain ⟨a, xd, xp, xc, xn, rfl, hrow⟩ := hs.at o7.keep (i := i) (by omega)
  refine ⟨⟨by omega, by omega⟩, xd, xp, xc, xn, hrow, fun n8 h8 hn8 hh8 => ⟨trivial, by simp [isCell], op_room hn8 hh8, by simp, fun h9 hh9 => ?_⟩⟩
  obtain ⟨op9, k9⟩ := op_copy hn8 hh8 hh9
  have o9 := o7.beside k9
  have nf9 : n8 ∉ cdFoot c da p7 q7 := fun hx => by have := o7.cd.lt n8 hx; omega
  have nb9 := nb7.keep k9 (by simp)
  clear hh9 hh8
  refine ⟨fun j hh => hh = h9 ∧ 0 ≤ j ∧ j < 8, ⟨xp, op9.cell rfl, fun e => ⟨xp, op9.cell rfl, by decide, rfl, ?_⟩, fun e => ⟨rfl, by omega, by omega⟩⟩, ?_⟩
  · have hx : 0 < xp := of_decide_eq_true e
    rw [Int.tmod_eq_emod_of_nonneg (by omega)]
    omega
  rintro k' hh ⟨rfl, hk1, hk2⟩
  obtain ⟨k, rfl⟩ : ∃ k : Nat, k' = k := ⟨k'.toNat, by omega⟩
  have hk8 : k < 8 := by omega
  refine ⟨xd, op9.cell rfl, fun _ => ⟨xc, op9.cell rfl, by kernel_rfl, (pg_ok hh xc).mono ?_⟩, fun _ => ⟨fun _ => ⟨by kernel_rfl, (o9.flush g7 (by omega) (g7.len (by omega))).mono ?_⟩, fun _ => ⟨fun _ => ⟨by kernel_rfl, (o9.sync g7).mono ?_⟩, fun _ => ⟨by kernel_rfl, (o9.get g7 (by omega) k).mono ?_⟩⟩⟩⟩
  · rintro _ h10 ⟨n10, rfl, hb10, hn10, k10⟩
    have o10 := o9.beside k10
    have op10 := op9.keep k10 (by simp)
    refine ⟨_, _, _, rfl, by kernel_rfl, (o10.put g7 (by omega) k _ 256 256 _ (pg_sl hb10 hn10 o9.cd.lt)).mono ?_⟩
    rintro _ h11 ⟨m', D11, K11, p11, q11, rfl, r11, o11, f11⟩
    have op11 := op10.keep f11.keep nf9
    have nb11 := (nb9.keep k10 (by simp)).keep f11.keep nf7
    have nf11 := f11.off (by have := nb9.lt; have := k10.size; omega) nf7
    have hm0 := (ShSt.put hk8 g7 (by omega) hbs pin7 v7 r11 o11 nb11 nf11 rfl hn1s).1
    subst hm0
    refine ⟨0, rfl, nofun, fun _ => ⟨xc, op11.cell rfl, ⟨by omega, by omega⟩, trivial, ?_, fun h12 hh12 => ?_⟩⟩
    · rw [addr_add]; exact nb11.ok (by rw [u8s_len]; simp; omega)
    · rw [addr_add] at hh12
      simp only [Int.toNat_natCast, Nat.zero_add, Nat.mul_one] at hh12
      exact next hi _ _ (by omega) (ShSt.put hk8 g7 (by omega) hbs pin7 v7 r11 o11 nb11 nf11 hh12 hn1s).2
  · rintro _ h10 ⟨rfl, D10, K10, p10, q10, o10, g10, a10, c10, s10, f10⟩
    refine ⟨0, rfl, nofun, fun _ => ⟨by kernel_rfl, (o10.changed (g10.len (by omega))).mono ?_⟩⟩
    rintro _ h11 ⟨s11, m11, cap11, ds, rfl, rfl, hd, o11, k11⟩
    rw [c10 ds hd]
    refine ⟨_, _, _, rfl, nofun, fun _ => next hi _ _ (by omega) ⟨D10, K10, p10, q10, bs, o11, g10, hbs, (nb9.keep f10.keep nf7).keep k11 (by simp), fun j => by rw [a10.pins]; exact pin7 j, fun j hj => ?_, by simpa using f10.off nb9.lt nf7⟩⟩
    rw [a10.view]; exact v7 j hj
  · rintro _ h10 ⟨rfl, p10, q10, o10, f10⟩
    obtain ⟨_, _, g10, v10⟩ := g7.sync
    refine ⟨0, rfl, nofun, fun _ => next hi _ _ (by omega) ⟨_, K7, p10, q10, bs, o10, g10, hbs, nb9.keep f10.keep nf7, pin7, fun j hj => ?_, by simpa using f10.off nb9.lt nf7⟩⟩
    rw [v10 j (by omega) (by omega)]; exact v7 j hj
  · rintro v h10 ⟨res, D10, K10, p10, q10, r10, got10, o10, f10⟩
    have nb10 := nb9.keep f10.keep nf7
    obtain ⟨⟨b, hb1, rfl⟩, st10⟩ := ShSt.get hk8 g7 (by omega) hbs pin7 v7 r10 o10 nb10 (f10.off nb9.lt nf7)
    obtain ⟨b10, cap10, rfl, sl10, _, _⟩ := gotR_sl got10
    refine ⟨_, _, _, 0, rfl, nofun, fun _ => ⟨⟨by omega, by omega⟩, b, ?_, by kernel_rfl, (pg_ok h10 b).mono ?_⟩⟩
    · rw [addr_add]
      refine nb10.cell ?_
      simp only [Int.toNat_natCast, Nat.zero_add, Nat.mul_one]
      rw [u8s_get, hb1]; rfl
    rintro _ h14 ⟨n14, rfl, hb14, hn14, k14⟩
    refine ⟨_, _, _, rfl, by kernel_rfl, (rSame_ok (sl10.keep k14 (by simp)) (blk_sl (F := []) (bytePg_ok b) hb14 (by simp)) _ 256 (by omega)).mono ?_⟩
    rintro _ h15 ⟨t, rfl, ht, rfl⟩
    have ht1 : t = true := ht.2 rfl
    subst ht1
    refine ⟨true, rfl, nofun, fun _ => ?_⟩
    obtain ⟨D, K, p, q, bs', o, g, h1, h2, h3⟩ := st10
    exact next hi _ _ (by omega) ⟨D, K, p, q, bs', o.beside k14, g, h1, h2.keep k14 (by simp), h3⟩

end Go.Proofs.Ytfapgccnhonoiaa

/- From a call over heaps to a given row: what all laws' rows need. -/
namespace Go.Proofs.Ytfapgccnhonoiaa
open Go.ChangeShapes Go.WideShapes Go.ChangeAt Go.RowKit

section
variable {P : Program} {H : Type} {enc : TypeId × Value → H}

theorem below_of {W W' : World} (hs : Sm W W') (k : Keep W.heap W'.heap []) : Below W.heap.size W W' :=
  ⟨hs.os, hs.tape, hs.output, k.size, fun b hb => k.same b hb (by simp)⟩

theorem trodAll_carry {W W' : World} {sp : Nat → Bool} {held : Bool} : ∀ {ts : List TypeId} {vs : List Value} {ds : List (DataW H)} {ps : List MemPlace}, DataW.TrodAll enc P W 0 sp held ts vs ds ps → (∀ p ∈ ps, W.sameAt W' p) → DataW.TrodAll enc P W' 0 sp held ts vs ds ps
  | [], [], [], _, h, _ => h
  | [], [], _ :: _, _, h, _ => h.elim
  | [], _ :: _, _, _, h, _ => h.elim
  | _ :: _, [], _, _, h, _ => h.elim
  | _ :: _, _ :: _, [], _, h, _ => h.elim
  | t :: ts, v :: vs, d :: ds, ps, h, hs => by
    obtain ⟨p, q, ⟨n, h1⟩, h2, rfl⟩ := h
    exact ⟨p, q, ⟨n, DataW.trod_carry n t _ _ h1 fun x hx => hs x (List.mem_append_left _ hx)⟩, trodAll_carry h2 fun x hx => hs x (List.mem_append_right _ hx), rfl⟩

/-- The law's row: true, and the arguments read as before. -/
theorem post_true {f : Func} {s : ChangeSpec} {W W' : World} {args : Array Value} {ds gs : List (DataW H)} {before : List MemPlace} (hK : Kids P (· < P.types.size)) (hF : ∀ t e, t < P.types.size → P.underlying t = some (.slice e) → 0 < P.cellsOf e)
    (hT : ∀ t ∈ f.params.toList, t < P.types.size) (hv : s.vars = []) (hW : DataW.Whole enc P f.params.toList s.vars false W args.toList ds gs before) (hB : Below W.heap.size W W')
    {tb : TypeId} (hrt : f.resultTypes = #[tb]) (htb : P.underlying tb = some .bool) (hres : (s.fn H (ds ++ gs)).results = [.lit (.bool true)]) (hargs : (s.fn H (ds ++ gs)).args = ds) (hvars : (s.fn H (ds ++ gs)).vars = []) :
    s.post enc P f false true false false W args (.bool true) W' := by
  have hlt := hW.lt
  have hW2 := hW
  obtain ⟨p, q, hA, hV, rfl, _, _⟩ := hW
  refine ⟨ds, gs, p ++ q, [], p, [], hW2, ?_, ?_, ?_, hB.frame _, nofun⟩
  · rw [hres, hrt]
    exact ⟨[], [], ⟨1, by simp [DataW.trod_step, DataW.trodStep, htb, Value.cells]⟩, rfl, rfl⟩
  · rw [hargs]
    refine trodAll_carry (DataW.TrodAll.respare hK hF hT hA fun x hx => ?_) fun x hx => hB.same (hlt x (List.mem_append_left _ hx))
    simpa using hlt x (List.mem_append_left _ hx)
  · rw [hvars, hv]
    rfl

/-- The call itself. -/
theorem calls_of {f : FuncId} {args : Array Value} {W : World} (hc : CallH P f args W.heap fun v h' => v = .bool true ∧ Keep W.heap h' []) {Q : Ending → World → Prop} (hq : ∀ W', Below W.heap.size W W' → Q (.returned (.bool true)) W') : Calls P f args W Q := by
  have h : CallsIn Fence.wide 0 P f args W Q := (hc W rfl).mono fun e W' ⟨v, he, hs, hv, hk⟩ => by
    rw [he, hv]
    exact hq W' (below_of hs hk)
  exact callsIn_wide.1 h

theorem row_of_cells {W : World} {a : Addr} {n : Nat} {cs : List Value} (hn : 0 < n) (h : W.cells? 0 a n = some cs) : ∃ b o, a = ⟨b, o, none⟩ ∧ b < W.heap.size ∧ rowAt W.heap a n = some cs := by
  obtain ⟨_, hlen, hcell⟩ := World.cells?_some h
  have c0 := hcell 0 (by omega)
  have e0 : a.add 0 = a := by simp [Addr.add]
  rw [e0, List.getElem?_eq_getElem (by omega)] at c0
  obtain ⟨b, o, sp⟩ := a
  have hsp : sp = none := by
    cases sp with
    | none => rfl
    | some x =>
      have : cellAt W.heap ⟨b, o, some x⟩ = some cs[0] := c0
      unfold cellAt at this
      split at this <;> simp at this
  subst hsp
  have get : ∀ i, i < n → cellAt W.heap ⟨b, o + i, none⟩ = cs[i]? := fun i hi => by
    have := hcell i hi
    rw [addr_add] at this
    exact this
  have g0 := get 0 hn
  rw [cellAt_get, List.getElem?_eq_getElem (by omega)] at g0
  cases hb : W.heap[b]? with
  | none => rw [hb] at g0; cases g0
  | some ob =>
    cases ob with
    | cells c e f =>
      refine ⟨b, o, rfl, (Array.getElem?_eq_some_iff.1 hb).1, ?_⟩
      have each : ∀ i, i < n → c[o + i]? = cs[i]? := fun i hi => by
        have := get i hi
        rw [cellAt_get, hb] at this
        exact this
      have hsz : o + n ≤ c.size := by
        have := each (n - 1) (by omega)
        rw [List.getElem?_eq_getElem (by omega)] at this
        have := (Array.getElem?_eq_some_iff.1 this).1
        omega
      unfold rowAt
      simp only [hb]
      rw [if_pos ⟨rfl, hsz⟩]
      congr 1
      apply List.ext_getElem?
      intro i
      rw [List.getElem?_take, List.getElem?_drop]
      by_cases hi : i < n
      · rw [if_pos hi, ← each i hi]
        simp
      · rw [if_neg hi, List.getElem?_eq_none (by omega)]
    | _ => rw [hb] at g0; cases g0

end
end Go.Proofs.Ytfapgccnhonoiaa

/- The acts of a script, out of what the given row says of the arguments. -/
namespace Go.Proofs.Ytfapgccnhonoiaa
open Go.ChangeShapes Go.WideShapes Go.ChangeAt Go.RowKit

section
variable {P : Program} {H : Type} {enc : TypeId × Value → H}

theorem ops_of {W : World} {t e : TypeId} {f0 f1 f2 f3 : Field} (ht : P.underlying t = some (.slice e)) (he : P.underlying e = some (.struct #[f0, f1, f2, f3])) (ce : P.cellsOf e = 4)
    (o0 : f0.offset = 0) (o1 : f1.offset = 1) (o2 : f2.offset = 2) (o3 : f3.offset = 3) (c0 : P.cellsOf f0.type = 1) (c1 : P.cellsOf f1.type = 1) (c2 : P.cellsOf f2.type = 1) (c3 : P.cellsOf f3.type = 1)
    (u0 : P.underlying f0.type = some (.int .i64)) (u1 : P.underlying f1.type = some (.int .i64)) (u2 : P.underlying f2.type = some (.int .u8)) (u3 : P.underlying f3.type = some (.int .i64))
    {sp : Option Addr} {l c : Nat} {d : DataW H} {ps : List MemPlace} (h : DataW.Trod enc P W 0 (fun _ => true) true t (.slice sp l c) d ps) : OpsAt W.heap sp l c := by
  obtain ⟨fuel, h⟩ := h
  rcases Go.Deep.open_slice ht h with ⟨hcs, _⟩ | ⟨a, len, cap, m, n, D, Pl, hcs, _, hl, _, hm, _, hx⟩
  · simp [Value.cells] at hcs
    obtain ⟨rfl, rfl, rfl⟩ := hcs
    exact ⟨Nat.le_refl _, .inl rfl⟩
  · simp [Value.cells] at hcs
    obtain ⟨rfl, rfl, rfl⟩ := hcs
    refine ⟨hl, ?_⟩
    by_cases h0 : l = 0
    · exact .inl h0
    right
    simp only [if_true] at hm
    subst hm
    have each : ∀ i, i < l → ∃ b o, a.add (i * 4) = ⟨b, o, none⟩ ∧ b < W.heap.size ∧ ∃ d p cc n, rowAt W.heap (a.add (i * 4)) 4 = some [i64 d, i64 p, .int .u8 cc, i64 n] := by
      intro i hi
      obtain ⟨cs', h1, h2⟩ := hx i (by omega)
      rw [ce] at h1
      obtain ⟨b, o, hab, hb, hrow⟩ := row_of_cells (by omega) h1
      obtain ⟨_, hlen, _⟩ := World.cells?_some h1
      obtain ⟨xs, k, hk, hxy, _, hxl, hf⟩ := DataW.trod_struct he h2
      refine ⟨b, o, hab, hb, ?_⟩
      match xs, hxl, cs', hlen with
      | [y0, y1, y2, y3], _, [v0, v1, v2, v3], _ =>
        have g0 := hf 0 f0 rfl
        have g1 := hf 1 f1 rfl
        have g2 := hf 2 f2 rfl
        have g3 := hf 3 f3 rfl
        simp [o0, o1, o2, o3, c0, c1, c2, c3] at g0 g1 g2 g3
        obtain ⟨n0, e0, _⟩ := DataW.trod_int u0 g0
        obtain ⟨n1, e1, _⟩ := DataW.trod_int u1 g1
        obtain ⟨n2, e2, _⟩ := DataW.trod_int u2 g2
        obtain ⟨n3, e3, _⟩ := DataW.trod_int u3 g3
        simp only [List.cons.injEq, and_true] at e0 e1 e2 e3
        subst e0 e1 e2 e3
        exact ⟨n0, n1, n2, n3, hrow⟩
    obtain ⟨b, o, hab, hb, _⟩ := each 0 (by omega)
    have e0 : a.add (0 * 4) = a := by simp [Addr.add]
    rw [e0] at hab
    subst hab
    refine ⟨b, o, rfl, hb, fun i hi => ?_⟩
    obtain ⟨_, _, _, _, d, p, cc, n, hrow⟩ := each i hi
    rw [addr_add] at hrow
    exact ⟨d, p, cc, n, hrow⟩

end
end Go.Proofs.Ytfapgccnhonoiaa

/- What every row of this seat needs of the program. -/
namespace Go.Proofs.Ytfapgccnhonoiaa
open Go.ChangeShapes Go.WideShapes Go.ChangeAt Go.RowKit

theorem own0 : ownKnob Try.prog.godebug = none := by kernel_rfl
theorem kids0 : Kids Try.prog (· < Try.prog.types.size) := kids_rows (by kernel_rfl) (by kernel_rfl)
theorem full0 : ∀ t e, t < Try.prog.types.size → Try.prog.underlying t = some (.slice e) → 0 < Try.prog.cellsOf e := slices_full_of Try.prog (by kernel_rfl)

theorem u8_of {n : Int} (h : (Lit.int .u8 n).wf = true) : 0 ≤ n ∧ n < 256 := by
  simp only [Lit.wf, Bool.and_eq_true, decide_eq_true_eq] at h
  have h1 : (0 : Int) ≤ n := h.1
  have h2 : n ≤ (255 : Int) := h.2
  omega

end Go.Proofs.Ytfapgccnhonoiaa

/- CacheShows: for every input the law returns true, and its arguments read afterwards as before. No condition. -/
namespace Go.Proofs.Ytfapgccnhonoiaa
open Go.ChangeShapes Go.WideShapes Go.ChangeAt Go.RowKit

theorem paramsP : Try.f5.params = #[5, 22] := by kernel_rfl

set_option maxRecDepth 100000 in
theorem lifted (os : Os) (started : os.Started) (H : Type) (enc : TypeId × Value → H) :
    ReturnsInHanded {} Try.checked os 5 .any (Rows.cacheShowsSpec.pre6 enc Try.prog Try.f5 Rows.cacheShowsRow.domain false) (Rows.cacheShowsSpec.post enc Try.prog Try.f5 false true false false) := by
  refine returnsInHanded_of_change (C := Try.checked) own0 started (by kernel_rfl) Try.func5
    (ChangeSpec.witness6 (enc := enc) (C := Try.checked) false ⟨#[], #[.int .u8 0, .slice none 0 0], []⟩ 8 (by kernel_rfl) (by kernel_rfl) (by kernel_rfl) (by kernel_rfl)) ?_
  intro W base args ds gs before hval0 hW hcnd _
  have hval : ∀ (j : Nat) t v, Try.f5.params[j]? = some t → args[j]? = some v → Value.okWide Try.prog W .any base t v := hval0
  have hW' := hW
  obtain ⟨p, q, hA0, hV, rfl, hfz, hnd⟩ := hW
  have hA : DataW.TrodAll enc Try.prog W 0 (fun _ => true) true Try.f5.params.toList args.toList ds p := hA0
  rw [paramsP] at hA hval
  obtain ⟨v0, v1, d0, d1, p0, p1, rfl, rfl, rfl, h0, h1⟩ := trodAll_two hA
  obtain ⟨rfl, rfl⟩ := trodVars_none hV
  obtain ⟨n, rfl, rfl, rfl, wn⟩ := open_int Try.underlying5 (hval 0 5 v0 rfl rfl) h0
  obtain ⟨sp, sl, sc, rfl⟩ := okWide_slice Try.underlying22 (hval 1 22 v1 rfl rfl)
  have hops := ops_of Try.underlying22 Try.underlying36 (by kernel_rfl) rfl rfl rfl rfl (by kernel_rfl) (by kernel_rfl) (by kernel_rfl) (by kernel_rfl) Try.underlying3 Try.underlying3 Try.underlying5 Try.underlying3 h1
  obtain ⟨hn0, hn1⟩ := u8_of wn
  refine calls_of (CacheShows_ok W.heap n hn0 hn1 sp sl sc hops) fun W' hB => ⟨_, rfl, ?_⟩
  exact post_true (tb := 4) kids0 full0 (by rw [paramsP]; decide +kernel) rfl hW' hB (by kernel_rfl) Try.underlying4 rfl rfl rfl

theorem cacheShows_holds : Rows.CacheShowsSaid :=
  OpenClaim.holds_of_wide (p := Try.pinned) (s := Rows.cacheShowsSpec) (c := Rows.cacheShowsRow) 5 Try.f5 rfl rfl rfl rfl rfl rfl rfl ⟨rfl, rfl, rfl, rfl, rfl⟩ rfl rfl rfl rfl rfl (by kernel_rfl) Try.func5 (by kernel_rfl)
    (of_decide_eq_true (by kernel_rfl)) (by unfold Func.isWrapper; first | (rw [if_pos (by decide +kernel)]; kernel_rfl) | (rw [if_neg (by decide +kernel)]; exact ⟨rfl, rfl⟩))
    (fun os started H enc _ => lifted os started H enc)

end Go.Proofs.Ytfapgccnhonoiaa

/- The law's own functions: what is done and compared comes out alike; no condition beyond those each theorem states. -/
import Derived.Test.YtfapgccnhonoiaaGreatMj

/- The conditions of some functions of the program, as text (printed by a tool of this claim's author, wip/tool), and that they are enough for a call. -/
set_option linter.unusedVariables false
namespace Go.Proofs.YtfapgccnhonoiaaGreat

/-- incipit/incipitlaw05.does -/
def does_vc (q0 : Nat) (q1 : Nat) (q2 : Nat) (oD : Int) (oP : Int) (oC : Int) (oN : Int) (h : Heap) (R : Value → Heap → Prop) : Prop :=
  ∀ (n1 : Nat) (rec1 : Array Obj),
 n1 = Array.size h →
  rec1 = Array.push h (Obj.cells { toList := [Value.int IntKind.i64 oD, Value.int IntKind.i64 oP, Value.int IntKind.u8 oC, Value.int IntKind.i64 oN] : Array Value } (38 : Nat)) →
   ∃ (i1 : Int),
    cellAt rec1 { block := n1, off := (0 : Nat) : Addr } = some (Value.int IntKind.i64 i1) ∧
     ((i1 == (0 : Int)) = true →
       ∃ (i2 : Int),
        cellAt rec1 { block := n1, off := (1 : Nat) : Addr } = some (Value.int IntKind.i64 i2) ∧
         entersB Tryz.prog (18 : Nat) = true ∧
          CallH Tryz.prog (18 : Nat) { toList := [Value.pointer (some { block := q0, off := (0 : Nat) : Addr }), Value.int IntKind.i64 i2] : Array Value } rec1 fun (v1 : Value) (h1 : Heap) =>
           ∃ (p1 : Option Addr),
            ∃ (n2 : Nat),
             ∃ (n3 : Nat),
              ∃ (i3 : Int),
               v1 = Value.tuple { toList := [Value.slice p1 n2 n3, Value.int IntKind.i64 i3] : Array Value } ∧
                ∃ (i4 : Int),
                 cellAt h1 { block := n1, off := (1 : Nat) : Addr } = some (Value.int IntKind.i64 i4) ∧
                  entersB Tryz.prog (22 : Nat) = true ∧
                   CallH Tryz.prog (22 : Nat) { toList := [Value.pointer (some { block := q2, off := (0 : Nat) : Addr }), Value.int IntKind.i64 i4] : Array Value } h1 fun (v2 : Value) (h2 : Heap) =>
                    ∃ (p2 : Option Addr),
                     ∃ (n4 : Nat),
                      ∃ (n5 : Nat),
                       ∃ (i5 : Int),
                        v2 = Value.tuple { toList := [Value.slice p2 n4 n5, Value.int IntKind.i64 i5] : Array Value } ∧
                         ∃ (I1 : Int → Heap → Prop),
                          ∃ (M1 : Int → Heap → Nat),
                           I1 (0 : Int) h2 ∧
                            ∀ (i6 : Int) (h3 : Heap),
                             I1 i6 h3 →
                              (decide (i6 < (↑n2 : Int)) = true →
                                match p1 with
                                | some a1 =>
                                 ((0 : Int) ≤ i6 ∧ i6 < (↑n2 : Int)) ∧
                                  ∃ (i7 : Int),
                                   cellAt h3 (Addr.add a1 (Int.toNat i6 * (1 : Nat))) = some (Value.int IntKind.u8 i7) ∧
                                    match p1 with
                                    | some a2 =>
                                     ((0 : Int) ≤ i6 ∧ i6 < (↑n2 : Int)) ∧
                                      true = true ∧
                                       okAt h3 (Addr.add a2 (Int.toNat i6 * (1 : Nat))) ∧
                                        ∀ (h4 : Heap), h4 = upd h3 (Addr.add a2 (Int.toNat i6 * (1 : Nat))) (Value.int IntKind.u8 (bitsI BinOp.xor IntKind.u8 i7 (255 : Int))) → I1 (IntKind.wrap IntKind.i64 (i6 + (1 : Int))) h4 ∧ M1 (IntKind.wrap IntKind.i64 (i6 + (1 : Int))) h4 < M1 i6 h3
                                    | none => False
                                | none => False) ∧
                               (decide (i6 < (↑n2 : Int)) = false →
                                ∃ (i8 : Int),
                                 cellAt h3 { block := n1, off := (1 : Nat) : Addr } = some (Value.int IntKind.i64 i8) ∧
                                  entersB Tryz.prog (18 : Nat) = true ∧
                                   CallH Tryz.prog (18 : Nat) { toList := [Value.pointer (some { block := q0, off := (0 : Nat) : Addr }), Value.int IntKind.i64 i8] : Array Value } h3 fun (v3 : Value) (h5 : Heap) =>
                                    ∃ (p4 : Option Addr),
                                     ∃ (n6 : Nat),
                                      ∃ (n7 : Nat),
                                       ∃ (i9 : Int),
                                        v3 = Value.tuple { toList := [Value.slice p4 n6 n7, Value.int IntKind.i64 i9] : Array Value } ∧
                                         ∃ (i10 : Int),
                                          cellAt h5 { block := n1, off := (1 : Nat) : Addr } = some (Value.int IntKind.i64 i10) ∧
                                           entersB Tryz.prog (22 : Nat) = true ∧
                                            CallH Tryz.prog (22 : Nat) { toList := [Value.pointer (some { block := q2, off := (0 : Nat) : Addr }), Value.int IntKind.i64 i10] : Array Value } h5 fun (v4 : Value) (h6 : Heap) =>
                                             ∃ (p5 : Option Addr),
                                              ∃ (n8 : Nat),
                                               ∃ (n9 : Nat),
                                                ∃ (i11 : Int),
                                                 v4 = Value.tuple { toList := [Value.slice p5 n8 n9, Value.int IntKind.i64 i11] : Array Value } ∧
                                                  ((i3 == i5) = true →
                                                    ((i9 == i11) = true →
                                                      (((↑n2 : Int) == (↑n4 : Int)) = true →
                                                        ((i9 != (0 : Int)) = true → R (Value.bool true) h6) ∧
                                                         ((i9 != (0 : Int)) = false →
                                                          entersB Tryz.prog (15 : Nat) = true ∧ CallH Tryz.prog (15 : Nat) { toList := [Value.slice p4 n6 n7, Value.slice p2 n4 n5] : Array Value } h6 fun (v5 : Value) (h7 : Heap) => ∃ (t1 : Bool), v5 = Value.bool t1 ∧ R (Value.bool t1) h7)) ∧
                                                       (((↑n2 : Int) == (↑n4 : Int)) = false → R (Value.bool false) h6)) ∧
                                                     ((i9 == i11) = false → R (Value.bool false) h6)) ∧
                                                   ((i3 == i5) = false → R (Value.bool false) h6))) ∧
      ((i1 == (0 : Int)) = false →
       ((i1 == (1 : Int)) = true →
         ∃ (i12 : Int),
          cellAt rec1 { block := n1, off := (2 : Nat) : Addr } = some (Value.int IntKind.u8 i12) ∧
           entersB Tryz.prog (17 : Nat) = true ∧
            CallH Tryz.prog (17 : Nat) { toList := [Value.int IntKind.u8 i12] : Array Value } rec1 fun (v6 : Value) (h8 : Heap) =>
             ∃ (p6 : Option Addr),
              ∃ (n10 : Nat),
               ∃ (n11 : Nat),
                v6 = Value.slice p6 n10 n11 ∧
                 ∃ (i13 : Int),
                  cellAt h8 { block := n1, off := (3 : Nat) : Addr } = some (Value.int IntKind.i64 i13) ∧
                   ((i13 == (77 : Int)) = true →
                     ((0 : Int) ≤ (255 : Int) ∧ (255 : Int) ≤ (↑n11 : Int)) ∧
                      ∃ (i14 : Int),
                       cellAt h8 { block := n1, off := (1 : Nat) : Addr } = some (Value.int IntKind.i64 i14) ∧
                        entersB Tryz.prog (16 : Nat) = true ∧
                         CallH Tryz.prog (16 : Nat) { toList := [Value.pointer (some { block := q0, off := (0 : Nat) : Addr }), Value.int IntKind.i64 i14, Value.slice p6 (255 : Nat) n11] : Array Value } h8 fun (v7 : Value) (h9 : Heap) =>
                          ∃ (i15 : Int),
                           v7 = Value.int IntKind.i64 i15 ∧
                            ∃ (i16 : Int),
                             cellAt h9 { block := n1, off := (1 : Nat) : Addr } = some (Value.int IntKind.i64 i16) ∧
                              entersB Tryz.prog (23 : Nat) = true ∧
                               CallH Tryz.prog (23 : Nat) { toList := [Value.pointer (some { block := q2, off := (0 : Nat) : Addr }), Value.int IntKind.i64 i16, Value.slice p6 (255 : Nat) n11] : Array Value } h9 fun (v8 : Value) (h10 : Heap) =>
                                ∃ (i17 : Int),
                                 v8 = Value.int IntKind.i64 i17 ∧
                                  ∃ (I2 : Int → Heap → Prop),
                                   ∃ (M2 : Int → Heap → Nat),
                                    I2 (0 : Int) h10 ∧
                                     ∀ (i18 : Int) (h11 : Heap),
                                      I2 i18 h11 →
                                       (decide (i18 < (↑(255 : Nat) : Int)) = true →
                                         match p6 with
                                         | some a3 =>
                                          ((0 : Int) ≤ i18 ∧ i18 < (↑(255 : Nat) : Int)) ∧
                                           ∃ (i19 : Int),
                                            cellAt h11 (Addr.add a3 (Int.toNat i18 * (1 : Nat))) = some (Value.int IntKind.u8 i19) ∧
                                             match p6 with
                                             | some a4 =>
                                              ((0 : Int) ≤ i18 ∧ i18 < (↑(255 : Nat) : Int)) ∧
                                               true = true ∧
                                                okAt h11 (Addr.add a4 (Int.toNat i18 * (1 : Nat))) ∧
                                                 ∀ (h12 : Heap),
                                                  h12 = upd h11 (Addr.add a4 (Int.toNat i18 * (1 : Nat))) (Value.int IntKind.u8 (bitsI BinOp.xor IntKind.u8 i19 (255 : Int))) → I2 (IntKind.wrap IntKind.i64 (i18 + (1 : Int))) h12 ∧ M2 (IntKind.wrap IntKind.i64 (i18 + (1 : Int))) h12 < M2 i18 h11
                                             | none => False
                                         | none => False) ∧
                                        (decide (i18 < (↑(255 : Nat) : Int)) = false → R (Value.bool (i15 == i17)) h11)) ∧
                    ((i13 == (77 : Int)) = false →
                     ∃ (i20 : Int),
                      cellAt h8 { block := n1, off := (1 : Nat) : Addr } = some (Value.int IntKind.i64 i20) ∧
                       entersB Tryz.prog (16 : Nat) = true ∧
                        CallH Tryz.prog (16 : Nat) { toList := [Value.pointer (some { block := q0, off := (0 : Nat) : Addr }), Value.int IntKind.i64 i20, Value.slice p6 n10 n11] : Array Value } h8 fun (v9 : Value) (h13 : Heap) =>
                         ∃ (i21 : Int),
                          v9 = Value.int IntKind.i64 i21 ∧
                           ∃ (i22 : Int),
                            cellAt h13 { block := n1, off := (1 : Nat) : Addr } = some (Value.int IntKind.i64 i22) ∧
                             entersB Tryz.prog (23 : Nat) = true ∧
                              CallH Tryz.prog (23 : Nat) { toList := [Value.pointer (some { block := q2, off := (0 : Nat) : Addr }), Value.int IntKind.i64 i22, Value.slice p6 n10 n11] : Array Value } h13 fun (v10 : Value) (h14 : Heap) =>
                               ∃ (i23 : Int),
                                v10 = Value.int IntKind.i64 i23 ∧
                                 ∃ (I3 : Int → Heap → Prop),
                                  ∃ (M3 : Int → Heap → Nat),
                                   I3 (0 : Int) h14 ∧
                                    ∀ (i24 : Int) (h15 : Heap),
                                     I3 i24 h15 →
                                      (decide (i24 < (↑n10 : Int)) = true →
                                        match p6 with
                                        | some a5 =>
                                         ((0 : Int) ≤ i24 ∧ i24 < (↑n10 : Int)) ∧
                                          ∃ (i25 : Int),
                                           cellAt h15 (Addr.add a5 (Int.toNat i24 * (1 : Nat))) = some (Value.int IntKind.u8 i25) ∧
                                            match p6 with
                                            | some a6 =>
                                             ((0 : Int) ≤ i24 ∧ i24 < (↑n10 : Int)) ∧
                                              true = true ∧
                                               okAt h15 (Addr.add a6 (Int.toNat i24 * (1 : Nat))) ∧
                                                ∀ (h16 : Heap),
                                                 h16 = upd h15 (Addr.add a6 (Int.toNat i24 * (1 : Nat))) (Value.int IntKind.u8 (bitsI BinOp.xor IntKind.u8 i25 (255 : Int))) → I3 (IntKind.wrap IntKind.i64 (i24 + (1 : Int))) h16 ∧ M3 (IntKind.wrap IntKind.i64 (i24 + (1 : Int))) h16 < M3 i24 h15
                                            | none => False
                                        | none => False) ∧
                                       (decide (i24 < (↑n10 : Int)) = false → R (Value.bool (i21 == i23)) h15))) ∧
        ((i1 == (1 : Int)) = false →
         ((i1 == (2 : Int)) = true →
           ∃ (i26 : Int),
            cellAt rec1 { block := n1, off := (1 : Nat) : Addr } = some (Value.int IntKind.i64 i26) ∧
             ∃ (i27 : Int),
              cellAt rec1 { block := n1, off := (1 : Nat) : Addr } = some (Value.int IntKind.i64 i27) ∧
               entersB Tryz.prog (24 : Nat) = true ∧
                CallH Tryz.prog (24 : Nat) { toList := [Value.pointer (some { block := q0, off := (0 : Nat) : Addr }), Value.int IntKind.i64 i26] : Array Value } rec1 fun (v11 : Value) (h17 : Heap) =>
                 ∃ (i28 : Int),
                  v11 = Value.int IntKind.i64 i28 ∧
                   (∃ (i29 : Int), cellAt h17 { block := n1, off := (1 : Nat) : Addr } = some (Value.int IntKind.i64 i29) ∧ (Value.int IntKind.i64 i29, false) = (Value.int IntKind.i64 i27, false)) ∧
                    entersB Tryz.prog (25 : Nat) = true ∧
                     CallH Tryz.prog (25 : Nat) { toList := [Value.pointer (some { block := q2, off := (0 : Nat) : Addr }), Value.int IntKind.i64 i27] : Array Value } h17 fun (v12 : Value) (h18 : Heap) => ∃ (i30 : Int), v12 = Value.int IntKind.i64 i30 ∧ R (Value.bool (i28 == i30)) h18) ∧
          ((i1 == (2 : Int)) = false →
           ((i1 == (3 : Int)) = true →
             ∃ (i31 : Int),
              cellAt rec1 { block := n1, off := (1 : Nat) : Addr } = some (Value.int IntKind.i64 i31) ∧
               ∃ (i32 : Int),
                cellAt rec1 { block := n1, off := (1 : Nat) : Addr } = some (Value.int IntKind.i64 i32) ∧
                 entersB Tryz.prog (26 : Nat) = true ∧
                  CallH Tryz.prog (26 : Nat) { toList := [Value.pointer (some { block := q0, off := (0 : Nat) : Addr }), Value.int IntKind.i64 i31] : Array Value } rec1 fun (v13 : Value) (h19 : Heap) =>
                   ∃ (i33 : Int),
                    v13 = Value.int IntKind.i64 i33 ∧
                     (∃ (i34 : Int), cellAt h19 { block := n1, off := (1 : Nat) : Addr } = some (Value.int IntKind.i64 i34) ∧ (Value.int IntKind.i64 i34, false) = (Value.int IntKind.i64 i32, false)) ∧
                      entersB Tryz.prog (27 : Nat) = true ∧
                       CallH Tryz.prog (27 : Nat) { toList := [Value.pointer (some { block := q2, off := (0 : Nat) : Addr }), Value.int IntKind.i64 i32] : Array Value } h19 fun (v14 : Value) (h20 : Heap) => ∃ (i35 : Int), v14 = Value.int IntKind.i64 i35 ∧ R (Value.bool (i33 == i35)) h20) ∧
            ((i1 == (3 : Int)) = false →
             ((i1 == (4 : Int)) = true →
               ∃ (i36 : Int),
                cellAt rec1 { block := n1, off := (1 : Nat) : Addr } = some (Value.int IntKind.i64 i36) ∧
                 ∃ (i37 : Int),
                  cellAt rec1 { block := n1, off := (1 : Nat) : Addr } = some (Value.int IntKind.i64 i37) ∧
                   entersB Tryz.prog (28 : Nat) = true ∧
                    CallH Tryz.prog (28 : Nat) { toList := [Value.pointer (some { block := q0, off := (0 : Nat) : Addr }), Value.int IntKind.i64 i36] : Array Value } rec1 fun (v15 : Value) (h21 : Heap) =>
                     ∃ (i38 : Int),
                      v15 = Value.int IntKind.i64 i38 ∧
                       (∃ (i39 : Int), cellAt h21 { block := n1, off := (1 : Nat) : Addr } = some (Value.int IntKind.i64 i39) ∧ (Value.int IntKind.i64 i39, false) = (Value.int IntKind.i64 i37, false)) ∧
                        entersB Tryz.prog (29 : Nat) = true ∧
                         CallH Tryz.prog (29 : Nat) { toList := [Value.pointer (some { block := q2, off := (0 : Nat) : Addr }), Value.int IntKind.i64 i37] : Array Value } h21 fun (v16 : Value) (h22 : Heap) => ∃ (i40 : Int), v16 = Value.int IntKind.i64 i40 ∧ R (Value.bool (i38 == i40)) h22) ∧
              ((i1 == (4 : Int)) = false →
               ((i1 == (5 : Int)) = true →
                 entersB Tryz.prog (30 : Nat) = true ∧
                  CallH Tryz.prog (30 : Nat) { toList := [Value.pointer (some { block := q0, off := (0 : Nat) : Addr })] : Array Value } rec1 fun (v17 : Value) (h23 : Heap) =>
                   ∃ (i41 : Int),
                    v17 = Value.int IntKind.i64 i41 ∧
                     entersB Tryz.prog (31 : Nat) = true ∧ CallH Tryz.prog (31 : Nat) { toList := [Value.pointer (some { block := q2, off := (0 : Nat) : Addr })] : Array Value } h23 fun (v18 : Value) (h24 : Heap) => ∃ (i42 : Int), v18 = Value.int IntKind.i64 i42 ∧ R (Value.bool (i41 == i42)) h24) ∧
                ((i1 == (5 : Int)) = false →
                 ((i1 == (6 : Int)) = true →
                   entersB Tryz.prog (32 : Nat) = true ∧
                    CallH Tryz.prog (32 : Nat) { toList := [Value.pointer (some { block := q0, off := (0 : Nat) : Addr })] : Array Value } rec1 fun (v19 : Value) (h25 : Heap) =>
                     v19 = Value.tuple { toList := [] : Array Value } ∧ true = true ∧ okAt h25 { block := q2, off := (2 : Nat) : Addr } ∧ ∀ (h26 : Heap), h26 = upd h25 { block := q2, off := (2 : Nat) : Addr } (Value.slice none (0 : Nat) (0 : Nat)) → R (Value.bool true) h26) ∧
                  ((i1 == (6 : Int)) = false →
                   ((i1 == (7 : Int)) = true →
                     ∃ (p7 : Option Addr),
                      cellAt rec1 { block := q2, off := (0 : Nat) : Addr } = some (Value.pointer p7) ∧
                       entersB Tryz.prog (33 : Nat) = true ∧
                        CallH Tryz.prog (33 : Nat) { toList := [Value.pointer (some { block := q1, off := (0 : Nat) : Addr })] : Array Value } rec1 fun (v20 : Value) (h27 : Heap) =>
                         ∃ (i43 : Int),
                          v20 = Value.int IntKind.i64 i43 ∧
                           (∃ (p8 : Option Addr), cellAt h27 { block := q2, off := (0 : Nat) : Addr } = some (Value.pointer p8) ∧ (Value.pointer p8, false) = (Value.pointer p7, false)) ∧
                            entersB Tryz.prog (34 : Nat) = true ∧ CallH Tryz.prog (34 : Nat) { toList := [Value.pointer p7] : Array Value } h27 fun (v21 : Value) (h28 : Heap) => ∃ (i44 : Int), v21 = Value.int IntKind.i64 i44 ∧ R (Value.bool (i43 == i44)) h28) ∧
                    ((i1 == (7 : Int)) = false →
                     ((i1 == (8 : Int)) = true →
                       ∃ (i45 : Int),
                        cellAt rec1 { block := n1, off := (3 : Nat) : Addr } = some (Value.int IntKind.i64 i45) ∧
                         ∃ (p9 : Option Addr),
                          cellAt rec1 { block := q2, off := (0 : Nat) : Addr } = some (Value.pointer p9) ∧
                           ∃ (i46 : Int),
                            cellAt rec1 { block := n1, off := (3 : Nat) : Addr } = some (Value.int IntKind.i64 i46) ∧
                             entersB Tryz.prog (35 : Nat) = true ∧
                              CallH Tryz.prog (35 : Nat) { toList := [Value.pointer (some { block := q1, off := (0 : Nat) : Addr }), Value.int IntKind.i64 i45] : Array Value } rec1 fun (v22 : Value) (h29 : Heap) =>
                               ∃ (i47 : Int),
                                v22 = Value.int IntKind.i64 i47 ∧
                                 (∃ (i48 : Int), cellAt h29 { block := n1, off := (3 : Nat) : Addr } = some (Value.int IntKind.i64 i48) ∧ (Value.int IntKind.i64 i48, false) = (Value.int IntKind.i64 i46, false)) ∧
                                  (∃ (p10 : Option Addr), cellAt h29 { block := q2, off := (0 : Nat) : Addr } = some (Value.pointer p10) ∧ (Value.pointer p10, false) = (Value.pointer p9, false)) ∧
                                   entersB Tryz.prog (36 : Nat) = true ∧ CallH Tryz.prog (36 : Nat) { toList := [Value.pointer p9, Value.int IntKind.i64 i46] : Array Value } h29 fun (v23 : Value) (h30 : Heap) => ∃ (i49 : Int), v23 = Value.int IntKind.i64 i49 ∧ R (Value.bool (i47 == i49)) h30) ∧
                      ((i1 == (8 : Int)) = false →
                       ((i1 == (9 : Int)) = true →
                         ∃ (p11 : Option Addr),
                          cellAt rec1 { block := q2, off := (0 : Nat) : Addr } = some (Value.pointer p11) ∧
                           ∃ (i50 : Int),
                            cellAt rec1 { block := n1, off := (2 : Nat) : Addr } = some (Value.int IntKind.u8 i50) ∧
                             ∃ (i51 : Int),
                              cellAt rec1 { block := n1, off := (3 : Nat) : Addr } = some (Value.int IntKind.i64 i51) ∧
                               ((0 : Nat) + (1 : Nat) = (1 : Nat) ∧ (0 : Nat) + (1 : Nat) = (1 : Nat) ∧ True) ∧
                                ∀ (n12 : Nat) (rec2 : Array Obj),
                                 n12 = Array.size rec1 →
                                  rec2 = Array.push rec1 (Obj.cells { toList := [Value.int IntKind.u8 i50, Value.int IntKind.u8 (IntKind.wrap IntKind.u8 i51)] : Array Value } (5 : TypeId)) →
                                   (∃ (p12 : Option Addr), cellAt rec2 { block := q2, off := (0 : Nat) : Addr } = some (Value.pointer p12) ∧ (Value.pointer p12, false) = (Value.pointer p11, false)) ∧
                                    entersB Tryz.prog (37 : Nat) = true ∧
                                     CallH Tryz.prog (37 : Nat) { toList := [Value.pointer p11, Value.slice (some { block := n12, off := (0 : Nat) : Addr }) (2 : Nat) (2 : Nat)] : Array Value } rec2 fun (v24 : Value) (h31 : Heap) =>
                                      v24 = Value.tuple { toList := [] : Array Value } ∧
                                       ∃ (i52 : Int),
                                        cellAt h31 { block := n1, off := (2 : Nat) : Addr } = some (Value.int IntKind.u8 i52) ∧
                                         ∃ (i53 : Int),
                                          cellAt h31 { block := n1, off := (3 : Nat) : Addr } = some (Value.int IntKind.i64 i53) ∧
                                           ((0 : Nat) + (1 : Nat) = (1 : Nat) ∧ (0 : Nat) + (1 : Nat) = (1 : Nat) ∧ True) ∧
                                            ∀ (n13 : Nat) (rec3 : Array Obj),
                                             n13 = Array.size h31 →
                                              rec3 = Array.push h31 (Obj.cells { toList := [Value.int IntKind.u8 i52, Value.int IntKind.u8 (IntKind.wrap IntKind.u8 i53)] : Array Value } (5 : TypeId)) →
                                               entersB Tryz.prog (38 : Nat) = true ∧
                                                CallH Tryz.prog (38 : Nat) { toList := [Value.pointer (some { block := q1, off := (0 : Nat) : Addr }), Value.slice (some { block := n13, off := (0 : Nat) : Addr }) (2 : Nat) (2 : Nat)] : Array Value } rec3 fun (v25 : Value) (h32 : Heap) =>
                                                 ∃ (i54 : Int), v25 = Value.int IntKind.i64 i54 ∧ R (Value.bool (i54 == (0 : Int))) h32) ∧
                        ((i1 == (9 : Int)) = false → R (Value.bool true) rec1))))))))))

theorem does_call (q0 : Nat) (q1 : Nat) (q2 : Nat) (oD : Int) (oP : Int) (oC : Int) (oN : Int) {h : Heap} {R : Value → Heap → Prop} (H : does_vc q0 q1 q2 oD oP oC oN h R) : CallH Tryz.prog 9 ⟨[.pointer (some ⟨q0, 0, none⟩), .pointer (some ⟨q1, 0, none⟩), .pointer (some ⟨q2, 0, none⟩), .agg ⟨[.int .i64 oD, .int .i64 oP, .int .u8 oC, .int .i64 oN]⟩]⟩ h R :=
  callH_of_dCode tabOK mixed [(.pointer (some ⟨q0, 0, none⟩), false), (.pointer (some ⟨q1, 0, none⟩), false), (.pointer (some ⟨q2, 0, none⟩), false), (.agg ⟨[.int .i64 oD, .int .i64 oP, .int .u8 oC, .int .i64 oN]⟩, false)] Tryz.func9 (c := bodyC Tryz.f9) (by kernel_rfl) (by kernel_rfl : Tryz.f9.ntmps = 218) rfl
    (Eq.mp (by kernel_rfl : does_vc q0 q1 q2 oD oP oC oN h R = dCode Tryz.prog T ⟨[], [(6, [(42, .int .i64)]), (20, [(112, .int .i64)])], [], [], []⟩ (bodyC Tryz.f9) none (dEnd T (Tryz.f9.results.toList) R) (startE 218 [(.pointer (some ⟨q0, 0, none⟩), false), (.pointer (some ⟨q1, 0, none⟩), false), (.pointer (some ⟨q2, 0, none⟩), false), (.agg ⟨[.int .i64 oD, .int .i64 oP, .int .u8 oC, .int .i64 oN]⟩, false)]) h) H)

/-- incipit/incipitlaw05.same -/
def same_vc (q0 : Nat) (q1 : Nat) (q2 : Int) (h : Heap) (R : Value → Heap → Prop) : Prop :=
  entersB Tryz.prog (39 : Nat) = true ∧
 CallH Tryz.prog (39 : Nat) { toList := [Value.pointer (some { block := q0, off := (0 : Nat) : Addr })] : Array Value } h fun (v1 : Value) (h1 : Heap) =>
  ∃ (i1 : Int),
   ∃ (i2 : Int),
    v1 = Value.tuple { toList := [Value.int IntKind.i64 i1, Value.int IntKind.i64 i2] : Array Value } ∧
     entersB Tryz.prog (40 : Nat) = true ∧
      CallH Tryz.prog (40 : Nat) { toList := [Value.pointer (some { block := q1, off := (0 : Nat) : Addr })] : Array Value } h1 fun (v2 : Value) (h2 : Heap) =>
       ∃ (p1 : Option Addr),
        ∃ (n1 : Nat),
         ∃ (n2 : Nat),
          v2 = Value.slice p1 n1 n2 ∧
           ∃ (p2 : Option Addr),
            cellAt h2 { block := q1, off := (0 : Nat) : Addr } = some (Value.pointer p2) ∧
             match p2 with
             | some a1 =>
              ∃ (p4 : Option Addr),
               ∃ (n3 : Nat),
                ∃ (n4 : Nat),
                 cellAt h2 a1 = some (Value.slice p4 n3 n4) ∧
                  ∃ (I1 : Option Addr → Nat → Nat → Int → Heap → Prop),
                   ∃ (M1 : Option Addr → Nat → Nat → Int → Heap → Nat),
                    I1 none (0 : Nat) (0 : Nat) (0 : Int) h2 ∧
                     ∀ (p5 : Option Addr) (n5 n6 : Nat) (i3 : Int) (h3 : Heap),
                      I1 p5 n5 n6 i3 h3 →
                       (decide (i3 < (↑n3 : Int)) = true →
                         entersB Tryz.prog (41 : Nat) = true ∧
                          CallH Tryz.prog (41 : Nat) { toList := [Value.pointer (some { block := q1, off := (0 : Nat) : Addr }), Value.int IntKind.i64 i3] : Array Value } h3 fun (v3 : Value) (h4 : Heap) =>
                           ∃ (i4 : Int),
                            v3 = Value.int IntKind.i64 i4 ∧
                             (decide (i4 ≥ (0 : Int)) = true →
                               ∃ (p6 : Option Addr),
                                ∃ (n7 : Nat),
                                 ∃ (n8 : Nat),
                                  cellAt h4 { block := q1, off := (2 : Nat) : Addr } = some (Value.slice p6 n7 n8) ∧
                                   match p6 with
                                   | some a2 =>
                                    ((0 : Int) ≤ i4 ∧ i4 < (↑n7 : Int)) ∧
                                     ∃ (t1 : Bool),
                                      cellAt h4 (Addr.add (Addr.add a2 (Int.toNat i4 * (4 : Nat))) (2 : Nat)) = some (Value.bool t1) ∧
                                       ((0 : Nat) + (1 : Nat) + (1 : Nat) = (2 : Nat) ∧ True) ∧
                                        ∀ (n9 : Nat) (rec1 : Array Obj),
                                         n9 = Array.size h4 →
                                          rec1 = Array.push h4 (Obj.cells { toList := [Value.int IntKind.i64 i3, Value.bool t1] : Array Value } (78 : TypeId)) →
                                           ∃ (l1 : List Value),
                                            srcIs rec1 (2 : Nat) (1 : Nat) (Value.slice (some { block := n9, off := (0 : Nat) : Addr }) (1 : Nat) (1 : Nat)) l1 ∧
                                             (∀ (v4 : Value), v4 ∈ l1 → isCell v4 = true) ∧
                                              List.length l1 = (2 : Nat) ∧
                                               (n5 + (1 : Nat) ≤ n6 →
                                                 match p5 with
                                                 | some a3 =>
                                                  okRow rec1 (Addr.add a3 (n5 * (2 : Nat))) (List.length l1) ∧
                                                   ∀ (h5 : Heap), h5 = updRow rec1 (Addr.add a3 (n5 * (2 : Nat))) (0 : Nat) l1 → I1 p5 (n5 + (1 : Nat)) n6 (IntKind.wrap IntKind.i64 (i3 + (1 : Int))) h5 ∧ M1 p5 (n5 + (1 : Nat)) n6 (IntKind.wrap IntKind.i64 (i3 + (1 : Int))) h5 < M1 p5 n5 n6 i3 h3
                                                 | none => I1 p5 (n5 + (1 : Nat)) n6 (IntKind.wrap IntKind.i64 (i3 + (1 : Int))) rec1 ∧ M1 p5 (n5 + (1 : Nat)) n6 (IntKind.wrap IntKind.i64 (i3 + (1 : Int))) rec1 < M1 p5 n5 n6 i3 h3) ∧
                                                (n6 < n5 + (1 : Nat) →
                                                 (n5 + (1 : Nat)) * (16 : Nat) ≤ (70368744177664 : Nat) ∧
                                                  (0 : Nat) < (16 : Nat) ∧
                                                   ∃ (l2 : List Value),
                                                    srcIs rec1 (2 : Nat) n5 (Value.slice p5 n5 n6) l2 ∧
                                                     ∀ (n10 : Nat),
                                                      n5 + (1 : Nat) ≤ n10 →
                                                       ∀ (n11 : Nat) (rec2 : Array Obj),
                                                        n11 = Array.size rec1 →
                                                         rec2 = Array.push rec1 (Obj.cells { toList := List.append (List.append l2 l1) (zrow [Value.int IntKind.i64 (Int.ofNat (0)), Value.bool false] (n10 - (n5 + (1 : Nat)))) : Array Value } (78 : TypeId)) →
                                                          I1 (some { block := n11, off := (0 : Nat) : Addr }) (n5 + (1 : Nat)) n10 (IntKind.wrap IntKind.i64 (i3 + (1 : Int))) rec2 ∧
                                                           M1 (some { block := n11, off := (0 : Nat) : Addr }) (n5 + (1 : Nat)) n10 (IntKind.wrap IntKind.i64 (i3 + (1 : Int))) rec2 < M1 p5 n5 n6 i3 h3)
                                   | none => False) ∧
                              (decide (i4 ≥ (0 : Int)) = false → I1 p5 n5 n6 (IntKind.wrap IntKind.i64 (i3 + (1 : Int))) h4 ∧ M1 p5 n5 n6 (IntKind.wrap IntKind.i64 (i3 + (1 : Int))) h4 < M1 p5 n5 n6 i3 h3)) ∧
                        (decide (i3 < (↑n3 : Int)) = false →
                         entersB Tryz.prog (43 : Nat) = true ∧
                          CallH Tryz.prog (43 : Nat) { toList := [Value.pointer (some { block := q0, off := (0 : Nat) : Addr })] : Array Value } h3 fun (v5 : Value) (h6 : Heap) =>
                           ∃ (v6 : Value),
                            v5 = v6 ∧
                             entersB Tryz.prog (42 : Nat) = true ∧
                              CallH Tryz.prog (42 : Nat) { toList := [v6, Value.int IntKind.i64 (1048576 : Int)] : Array Value } h6 fun (v7 : Value) (h7 : Heap) =>
                               ∃ (p7 : Option Addr),
                                ∃ (n12 : Nat),
                                 ∃ (n13 : Nat),
                                  v7 = Value.slice p7 n12 n13 ∧
                                   (((↑n12 : Int) != (↑n5 : Int)) = true → R (Value.bool false) h7) ∧
                                    (((↑n12 : Int) != (↑n5 : Int)) = false →
                                     entersB Tryz.prog (43 : Nat) = true ∧
                                      CallH Tryz.prog (43 : Nat) { toList := [Value.pointer (some { block := q0, off := (0 : Nat) : Addr })] : Array Value } h7 fun (v8 : Value) (h8 : Heap) =>
                                       ∃ (v9 : Value),
                                        v8 = v9 ∧
                                         entersB Tryz.prog (42 : Nat) = true ∧
                                          CallH Tryz.prog (42 : Nat) { toList := [v9, Value.int IntKind.i64 (1 : Int)] : Array Value } h8 fun (v10 : Value) (h9 : Heap) =>
                                           ∃ (p8 : Option Addr),
                                            ∃ (n14 : Nat),
                                             ∃ (n15 : Nat),
                                              v10 = Value.slice p8 n14 n15 ∧
                                               minI [Value.int IntKind.i64 (1 : Int), Value.int IntKind.i64 (↑n5 : Int)] fun (x3 : Value × Bool) =>
                                                match Value.int IntKind.i64 (↑n14 : Int), x3.1 with
                                                | Value.int x4 i5, Value.int x5 i6 =>
                                                 match
                                                  match x4, x5 with
                                                  | IntKind.i8, IntKind.i8 => true
                                                  | IntKind.i16, IntKind.i16 => true
                                                  | IntKind.i32, IntKind.i32 => true
                                                  | IntKind.i64, IntKind.i64 => true
                                                  | IntKind.u8, IntKind.u8 => true
                                                  | IntKind.u16, IntKind.u16 => true
                                                  | IntKind.u32, IntKind.u32 => true
                                                  | IntKind.u64, IntKind.u64 => true
                                                  | x9, x10 => false with
                                                 | true =>
                                                  ((i5 != i6) = true → R (Value.bool false) h9) ∧
                                                   ((i5 != i6) = false →
                                                    ∃ (I2 : Int → Heap → Prop),
                                                     ∃ (M2 : Int → Heap → Nat),
                                                      I2 (0 : Int) h9 ∧
                                                       ∀ (i7 : Int) (h10 : Heap),
                                                        I2 i7 h10 →
                                                         (decide (i7 < (↑n12 : Int)) = true →
                                                           match p7 with
                                                           | some a4 =>
                                                            ((0 : Int) ≤ i7 ∧ i7 < (↑n12 : Int)) ∧
                                                             ∃ (i8 : Int),
                                                              ∃ (t3 : Bool),
                                                               rowAt h10 (Addr.add a4 (Int.toNat i7 * (2 : Nat))) (2 : Nat) = some [Value.int IntKind.i64 i8, Value.bool t3] ∧
                                                                match p5 with
                                                                | some a5 =>
                                                                 ((0 : Int) ≤ i7 ∧ i7 < (↑n5 : Int)) ∧
                                                                  ∃ (i9 : Int),
                                                                   ∃ (t4 : Bool),
                                                                    rowAt h10 (Addr.add a5 (Int.toNat i7 * (2 : Nat))) (2 : Nat) = some [Value.int IntKind.i64 i9, Value.bool t4] ∧
                                                                     true = true ∧
                                                                      true = true ∧
                                                                       true = true ∧
                                                                        ∃ (t5 : Bool),
                                                                         (if true = true then
                                                                            Option.map
                                                                             (fun (t6 : Bool) =>
                                                                              match i8 == i9 with
                                                                              | false => false
                                                                              | true => t6)
                                                                             (Option.map
                                                                              (fun (t8 : Bool) =>
                                                                               match t3 == t4 with
                                                                               | false => false
                                                                               | true => t8)
                                                                              (some true))
                                                                           else none) =
                                                                           some t5 ∧
                                                                          ((!t5) = true → R (Value.bool false) h10) ∧ ((!t5) = false → I2 (IntKind.wrap IntKind.i64 (i7 + (1 : Int))) h10 ∧ M2 (IntKind.wrap IntKind.i64 (i7 + (1 : Int))) h10 < M2 i7 h10)
                                                                | none => False
                                                           | none => False) ∧
                                                          (decide (i7 < (↑n12 : Int)) = false →
                                                           ∃ (i10 : Int),
                                                            cellAt h10 { block := q1, off := (3 : Nat) : Addr } = some (Value.int IntKind.i64 i10) ∧
                                                             ((i1 == i10) = true →
                                                               ∃ (i11 : Int),
                                                                cellAt h10 { block := q1, off := (4 : Nat) : Addr } = some (Value.int IntKind.i64 i11) ∧
                                                                 ((i2 == i11) = true →
                                                                   entersB Tryz.prog (20 : Nat) = true ∧
                                                                    CallH Tryz.prog (20 : Nat) { toList := [Value.pointer (some { block := q0, off := (0 : Nat) : Addr })] : Array Value } h10 fun (v13 : Value) (h11 : Heap) =>
                                                                     ∃ (p9 : Option Addr),
                                                                      ∃ (n16 : Nat),
                                                                       ∃ (n17 : Nat),
                                                                        v13 = Value.slice p9 n16 n17 ∧
                                                                         entersB Tryz.prog (19 : Nat) = true ∧
                                                                          CallH Tryz.prog (19 : Nat) { toList := [Value.slice p9 n16 n17, Value.slice p1 n1 n2] : Array Value } h11 fun (v14 : Value) (h12 : Heap) =>
                                                                           ∃ (t9 : Bool),
                                                                            v14 = Value.bool t9 ∧
                                                                             (t9 = true →
                                                                               entersB Tryz.prog (44 : Nat) = true ∧
                                                                                CallH Tryz.prog (44 : Nat) { toList := [Value.pointer (some { block := q0, off := (0 : Nat) : Addr })] : Array Value } h12 fun (v15 : Value) (h13 : Heap) =>
                                                                                 ∃ (p10 : Option Addr),
                                                                                  ∃ (n18 : Nat),
                                                                                   ∃ (n19 : Nat),
                                                                                    v15 = Value.slice p10 n18 n19 ∧
                                                                                     entersB Tryz.prog (45 : Nat) = true ∧
                                                                                      CallH Tryz.prog (45 : Nat) { toList := [Value.pointer (some { block := q1, off := (0 : Nat) : Addr })] : Array Value } h13 fun (v16 : Value) (h14 : Heap) =>
                                                                                       ∃ (p11 : Option Addr),
                                                                                        ∃ (n20 : Nat),
                                                                                         ∃ (n21 : Nat),
                                                                                          v16 = Value.slice p11 n20 n21 ∧
                                                                                           entersB Tryz.prog (19 : Nat) = true ∧
                                                                                            CallH Tryz.prog (19 : Nat) { toList := [Value.slice p10 n18 n19, Value.slice p11 n20 n21] : Array Value } h14 fun (v17 : Value) (h15 : Heap) =>
                                                                                             ∃ (t10 : Bool),
                                                                                              v17 = Value.bool t10 ∧
                                                                                               (t10 = true →
                                                                                                 entersB Tryz.prog (46 : Nat) = true ∧
                                                                                                  CallH Tryz.prog (46 : Nat) { toList := [Value.pointer (some { block := q0, off := (0 : Nat) : Addr }), Value.int IntKind.i64 q2] : Array Value } h15 fun (v18 : Value) (h16 : Heap) =>
                                                                                                   ∃ (t11 : Bool),
                                                                                                    v18 = Value.bool t11 ∧
                                                                                                     entersB Tryz.prog (41 : Nat) = true ∧
                                                                                                      CallH Tryz.prog (41 : Nat) { toList := [Value.pointer (some { block := q1, off := (0 : Nat) : Addr }), Value.int IntKind.i64 q2] : Array Value } h16 fun (v19 : Value) (h17 : Heap) =>
                                                                                                       ∃ (i12 : Int), v19 = Value.int IntKind.i64 i12 ∧ R (Value.bool (t11 == decide (i12 ≥ (0 : Int)))) h17) ∧
                                                                                                (t10 = false → R (Value.bool false) h15)) ∧
                                                                              (t9 = false → R (Value.bool false) h12)) ∧
                                                                  ((i2 == i11) = false → R (Value.bool false) h10)) ∧
                                                              ((i1 == i10) = false → R (Value.bool false) h10)))
                                                 | false => False
                                                | v20, v21 =>
                                                 match v20, v21 with
                                                 | Value.bool t12, Value.bool t13 => False
                                                 | Value.string s1, Value.string s2 => False
                                                 | Value.pointer p12, Value.pointer p13 => False
                                                 | Value.slice p14 n22 n23, Value.slice p15 n24 n25 => False
                                                 | Value.map m1, Value.map m2 => False
                                                 | Value.func x15 x16 x17, Value.nilFunc => False
                                                 | Value.nilFunc, Value.nilFunc => False
                                                 | Value.agg x19, Value.agg x20 => False
                                                 | v22, v23 => False))
             | none => False

theorem same_call (q0 : Nat) (q1 : Nat) (q2 : Int) {h : Heap} {R : Value → Heap → Prop} (H : same_vc q0 q1 q2 h R) : CallH Tryz.prog 10 ⟨[.pointer (some ⟨q0, 0, none⟩), .pointer (some ⟨q1, 0, none⟩), .int .i64 q2]⟩ h R :=
  callH_of_dCode tabOK mixed [(.pointer (some ⟨q0, 0, none⟩), false), (.pointer (some ⟨q1, 0, none⟩), false), (.int .i64 q2, false)] Tryz.func10 (c := bodyC Tryz.f10) (by kernel_rfl) (by kernel_rfl : Tryz.f10.ntmps = 122) rfl
    (Eq.mp (by kernel_rfl : same_vc q0 q1 q2 h R = dCode Tryz.prog T ⟨[], [(15, [(72, .int .i64)]), (5, [(9, .sl), (30, .int .i64)])], [], [], []⟩ (bodyC Tryz.f10) none (dEnd T (Tryz.f10.results.toList) R) (startE 122 [(.pointer (some ⟨q0, 0, none⟩), false), (.pointer (some ⟨q1, 0, none⟩), false), (.int .i64 q2, false)]) h) H)

/-- incipit/incipitlaw05.CacheDoes -/
def CacheDoes_vc (q0 : Int) (q1p : Option Addr) (q1l : Nat) (q1c : Nat) (h : Heap) (R : Value → Heap → Prop) : Prop :=
  entersB Tryz.prog (4 : Nat) = true ∧
 CallH Tryz.prog (4 : Nat) { toList := [Value.int IntKind.i64 (8 : Int)] : Array Value } h fun (v1 : Value) (h1 : Heap) =>
  ∃ (p1 : Option Addr),
   ∃ (i1 : Int),
    v1 = Value.tuple { toList := [Value.pointer p1, Value.int IntKind.i64 i1] : Array Value } ∧
     entersB Tryz.prog (5 : Nat) = true ∧
      CallH Tryz.prog (5 : Nat) { toList := [] : Array Value } h1 fun (v2 : Value) (h2 : Heap) =>
       ∃ (t1 : Bool),
        v2 = Value.bool t1 ∧
         ((!t1) = true → R (Value.bool false) h2) ∧
          ((!t1) = false →
           ((i1 != (0 : Int)) = true → R (Value.bool false) h2) ∧
            ((i1 != (0 : Int)) = false →
             (Option.isNone p1 = true → R (Value.bool false) h2) ∧
              (Option.isNone p1 = false →
               entersB Tryz.prog (6 : Nat) = true ∧
                CallH Tryz.prog (6 : Nat) { toList := [Value.int IntKind.i64 (8 : Int)] : Array Value } h2 fun (v3 : Value) (h3 : Heap) =>
                 ∃ (p2 : Option Addr),
                  ∃ (i2 : Int),
                   v3 = Value.tuple { toList := [Value.pointer p2, Value.int IntKind.i64 i2] : Array Value } ∧
                    entersB Tryz.prog (7 : Nat) = true ∧
                     CallH Tryz.prog (7 : Nat) { toList := [Value.pointer p1, Value.int IntKind.i64 q0] : Array Value } h3 fun (v4 : Value) (h4 : Heap) =>
                      ∃ (p3 : Option Addr),
                       ∃ (i3 : Int),
                        v4 = Value.tuple { toList := [Value.pointer p3, Value.int IntKind.i64 i3] : Array Value } ∧
                         entersB Tryz.prog (8 : Nat) = true ∧
                          CallH Tryz.prog (8 : Nat) { toList := [Value.pointer p2, Value.int IntKind.i64 q0] : Array Value } h4 fun (v5 : Value) (h5 : Heap) =>
                           ∃ (p4 : Option Addr),
                            ∃ (i4 : Int),
                             v5 = Value.tuple { toList := [Value.pointer p4, Value.int IntKind.i64 i4] : Array Value } ∧
                              ((i3 != i4) = true → R (Value.bool false) h5) ∧
                               ((i3 != i4) = false →
                                ((!Option.isNone p3 == Option.isNone p4) = true → R (Value.bool false) h5) ∧
                                 ((!Option.isNone p3 == Option.isNone p4) = false →
                                  (Option.isNone p3 = true → R (Value.bool true) h5) ∧
                                   (Option.isNone p3 = false →
                                    minI [Value.int IntKind.i64 (↑q1l : Int), Value.int IntKind.i64 (50 : Int)] fun (x1 : Value × Bool) =>
                                     match x1.1 with
                                     | Value.int x2 i5 =>
                                      ((0 : Int) ≤ i5 ∧ i5 ≤ (↑q1c : Int)) ∧
                                       ∃ (I1 : Int → Heap → Prop),
                                        ∃ (M1 : Int → Heap → Nat),
                                         I1 (0 : Int) h5 ∧
                                          ∀ (i6 : Int) (h6 : Heap),
                                           I1 i6 h6 →
                                            (decide (i6 < (↑(Int.toNat i5) : Int)) = true →
                                              match q1p with
                                              | some a1 =>
                                               ((0 : Int) ≤ i6 ∧ i6 < (↑(Int.toNat i5) : Int)) ∧
                                                ∃ (i7 : Int),
                                                 ∃ (i8 : Int),
                                                  ∃ (i9 : Int),
                                                   ∃ (i10 : Int),
                                                    rowAt h6 (Addr.add a1 (Int.toNat i6 * (4 : Nat))) (4 : Nat) = some [Value.int IntKind.i64 i7, Value.int IntKind.i64 i8, Value.int IntKind.u8 i9, Value.int IntKind.i64 i10] ∧
                                                     ∀ (n1 : Nat) (rec1 : Array Obj),
                                                      n1 = Array.size h6 →
                                                       rec1 =
                                                         Array.push h6
                                                          (Obj.cells { toList := [Value.int IntKind.i64 (Int.ofNat (0)), Value.int IntKind.i64 (Int.ofNat (0)), Value.int IntKind.u8 (Int.ofNat (0)), Value.int IntKind.i64 (Int.ofNat (0))] : Array Value } (38 : Nat)) →
                                                        (0 : Nat) + (1 : Nat) + (1 : Nat) + (1 : Nat) + (1 : Nat) = (4 : Nat) ∧
                                                         (∀ (v7 : Value), v7 ∈ [Value.int IntKind.i64 i7, Value.int IntKind.i64 i8, Value.int IntKind.u8 i9, Value.int IntKind.i64 i10] → isCell v7 = true) ∧
                                                          okRow rec1 { block := n1, off := (0 : Nat) : Addr } (4 : Nat) ∧
                                                           TK.st [(0, 3), (1, 3), (2, 5), (3, 3)] ≠ TK.oth ∧
                                                            ∀ (h7 : Heap),
                                                             h7 = updRow rec1 { block := n1, off := (0 : Nat) : Addr } (0 : Nat) [Value.int IntKind.i64 i7, Value.int IntKind.i64 i8, Value.int IntKind.u8 i9, Value.int IntKind.i64 i10] →
                                                              ∃ (i11 : Int),
                                                               ∃ (i12 : Int),
                                                                ∃ (i13 : Int),
                                                                 ∃ (i14 : Int),
                                                                  rowAt h7 { block := n1, off := (0 : Nat) : Addr } (4 : Nat) = some [Value.int IntKind.i64 i11, Value.int IntKind.i64 i12, Value.int IntKind.u8 i13, Value.int IntKind.i64 i14] ∧
                                                                   entersB Tryz.prog (9 : Nat) = true ∧
                                                                    CallH Tryz.prog (9 : Nat)
                                                                     { toList := [Value.pointer p3, Value.pointer p1, Value.pointer p4, Value.agg { toList := [Value.int IntKind.i64 i11, Value.int IntKind.i64 i12, Value.int IntKind.u8 i13, Value.int IntKind.i64 i14] : Array Value }] : Array Value }
                                                                     h7 fun (v8 : Value) (h8 : Heap) =>
                                                                     ∃ (t2 : Bool),
                                                                      v8 = Value.bool t2 ∧
                                                                       ((!t2) = true → R (Value.bool false) h8) ∧
                                                                        ((!t2) = false →
                                                                         ∃ (i15 : Int),
                                                                          cellAt h8 { block := n1, off := (1 : Nat) : Addr } = some (Value.int IntKind.i64 i15) ∧
                                                                           entersB Tryz.prog (10 : Nat) = true ∧
                                                                            CallH Tryz.prog (10 : Nat) { toList := [Value.pointer p3, Value.pointer p4, Value.int IntKind.i64 i15] : Array Value } h8 fun (v9 : Value) (h9 : Heap) =>
                                                                             ∃ (t3 : Bool),
                                                                              v9 = Value.bool t3 ∧
                                                                               ((!t3) = true → R (Value.bool false) h9) ∧
                                                                                ((!t3) = false →
                                                                                 match p2 with
                                                                                 | some a2 =>
                                                                                  ∃ (i16 : Int),
                                                                                   cellAt h9 (Addr.add a2 (4 : Nat)) = some (Value.int IntKind.i64 i16) ∧
                                                                                    entersB Tryz.prog (11 : Nat) = true ∧
                                                                                     CallH Tryz.prog (11 : Nat) { toList := [Value.pointer p1] : Array Value } h9 fun (v10 : Value) (h10 : Heap) =>
                                                                                      ∃ (i17 : Int),
                                                                                       v10 = Value.int IntKind.i64 i17 ∧
                                                                                        (∃ (i18 : Int), cellAt h10 (Addr.add a2 (4 : Nat)) = some (Value.int IntKind.i64 i18) ∧ (Value.int IntKind.i64 i18, false) = (Value.int IntKind.i64 i16, false)) ∧
                                                                                         ((i17 != i16) = true → R (Value.bool false) h10) ∧
                                                                                          ((i17 != i16) = false →
                                                                                           match p2 with
                                                                                           | some a3 =>
                                                                                            ∃ (p6 : Option Addr),
                                                                                             ∃ (n2 : Nat),
                                                                                              ∃ (n3 : Nat),
                                                                                               cellAt h10 (Addr.add a3 (1 : Nat)) = some (Value.slice p6 n2 n3) ∧
                                                                                                entersB Tryz.prog (12 : Nat) = true ∧
                                                                                                 CallH Tryz.prog (12 : Nat) { toList := [Value.pointer p1] : Array Value } h10 fun (v11 : Value) (h11 : Heap) =>
                                                                                                  ∃ (i19 : Int),
                                                                                                   v11 = Value.int IntKind.i64 i19 ∧
                                                                                                    (∃ (p7 : Option Addr), ∃ (n4 : Nat), ∃ (n5 : Nat), cellAt h11 (Addr.add a3 (1 : Nat)) = some (Value.slice p7 n4 n5) ∧ (Value.slice p7 n4 n5, false) = (Value.slice p6 n2 n3, false)) ∧
                                                                                                     ((i19 != (↑n2 : Int)) = true → R (Value.bool false) h11) ∧
                                                                                                      ((i19 != (↑n2 : Int)) = false →
                                                                                                       ∃ (i20 : Int),
                                                                                                        cellAt h11 { block := n1, off := (1 : Nat) : Addr } = some (Value.int IntKind.i64 i20) ∧
                                                                                                         entersB Tryz.prog (13 : Nat) = true ∧
                                                                                                          CallH Tryz.prog (13 : Nat) { toList := [Value.pointer p1, Value.int IntKind.i64 i20] : Array Value } h11 fun (v12 : Value) (h12 : Heap) =>
                                                                                                           ∃ (p8 : Option Addr),
                                                                                                            ∃ (n6 : Nat),
                                                                                                             ∃ (n7 : Nat),
                                                                                                              ∃ (i21 : Int),
                                                                                                               v12 = Value.tuple { toList := [Value.slice p8 n6 n7, Value.int IntKind.i64 i21] : Array Value } ∧
                                                                                                                ∃ (i22 : Int),
                                                                                                                 cellAt h12 { block := n1, off := (1 : Nat) : Addr } = some (Value.int IntKind.i64 i22) ∧
                                                                                                                  entersB Tryz.prog (14 : Nat) = true ∧
                                                                                                                   CallH Tryz.prog (14 : Nat) { toList := [Value.pointer p2, Value.int IntKind.i64 i22] : Array Value } h12 fun (v13 : Value) (h13 : Heap) =>
                                                                                                                    ∃ (p9 : Option Addr),
                                                                                                                     ∃ (n8 : Nat),
                                                                                                                      ∃ (n9 : Nat),
                                                                                                                       ∃ (i23 : Int),
                                                                                                                        v13 = Value.tuple { toList := [Value.slice p9 n8 n9, Value.int IntKind.i64 i23] : Array Value } ∧
                                                                                                                         entersB Tryz.prog (15 : Nat) = true ∧
                                                                                                                          CallH Tryz.prog (15 : Nat) { toList := [Value.slice p8 n6 n7, Value.slice p9 n8 n9] : Array Value } h13 fun (v14 : Value) (h14 : Heap) =>
                                                                                                                           ∃ (t4 : Bool),
                                                                                                                            v14 = Value.bool t4 ∧
                                                                                                                             ((!t4) = true → R (Value.bool false) h14) ∧
                                                                                                                              ((!t4) = false →
                                                                                                                               ((i21 != i23) = true → R (Value.bool false) h14) ∧
                                                                                                                                ((i21 != i23) = false → I1 (IntKind.wrap IntKind.i64 (i6 + (1 : Int))) h14 ∧ M1 (IntKind.wrap IntKind.i64 (i6 + (1 : Int))) h14 < M1 i6 h6)))
                                                                                           | none => False)
                                                                                 | none => False))
                                              | none => False) ∧
                                             (decide (i6 < (↑(Int.toNat i5) : Int)) = false → R (Value.bool true) h6)
                                     | v15 => False))))))

theorem CacheDoes_call (q0 : Int) (q1p : Option Addr) (q1l : Nat) (q1c : Nat) {h : Heap} {R : Value → Heap → Prop} (H : CacheDoes_vc q0 q1p q1l q1c h R) : CallH Tryz.prog 3 ⟨[.int .i64 q0, .slice q1p q1l q1c]⟩ h R :=
  callH_of_dCode tabOK mixed [(.int .i64 q0, false), (.slice q1p q1l q1c, false)] Tryz.func3 (c := bodyC Tryz.f3) (by kernel_rfl) (by kernel_rfl : Tryz.f3.ntmps = 128) rfl
    (Eq.mp (by kernel_rfl : CacheDoes_vc q0 q1p q1l q1c h R = dCode Tryz.prog T ⟨[], [(12, [(67, .int .i64)])], [], [], []⟩ (bodyC Tryz.f3) none (dEnd T (Tryz.f3.results.toList) R) (startE 128 [(.int .i64 q0, false), (.slice q1p q1l q1c, false)]) h) H)

end Go.Proofs.YtfapgccnhonoiaaGreat

/- The program's disk when the power goes: Arm, Crash; what is told of it. -/
namespace Go.Proofs.YtfapgccnhonoiaaGreat

section
variable {h h' : Heap} {a : Nat} {D : Dk} {p : Pl}

theorem dWaits_ok (r : DiskR h a D p) : CallH Tryz.prog 12 ⟨[ptr a]⟩ h fun v h' => v = i64 D.ws.length ∧ h' = h := by
  refine dWaits_call a ⟨by kernel_rfl, (dNone_ok r).mono ?_⟩
  rintro _ _ ⟨rfl, rfl⟩
  exact ⟨false, rfl, nofun, fun _ => ⟨_, _, _, r.blk.cell rfl, rfl, rfl⟩⟩

theorem dkOps_ok (r : DiskR h a D p) : CallH Tryz.prog 11 ⟨[ptr a]⟩ h fun v h' => v = i64 D.ops ∧ h' = h := by
  refine dkOps_call a ⟨by kernel_rfl, (dNone_ok r).mono ?_⟩
  rintro _ _ ⟨rfl, rfl⟩
  exact ⟨false, rfl, nofun, fun _ => ⟨_, r.blk.cell rfl, rfl, rfl⟩⟩

theorem dArm_ok (r : DiskR h a D p) (n : Int) : CallH Tryz.prog 35 ⟨[ptr a, i64 n]⟩ h fun v h' => v = i64 (D.arm n).2 ∧ DPost h h' a p (D.arm n).1 := by
  refine dArm_call a n ⟨by kernel_rfl, (dNone_ok r).mono ?_⟩
  rintro _ _ ⟨rfl, rfl⟩
  unfold Dk.arm
  refine ⟨false, rfl, nofun, fun _ => ⟨fun e => ?_, fun e => ⟨by kernel_rfl, (dPower_ok r).mono ?_⟩⟩⟩
  · rw [if_pos (of_decide_eq_true e)]
    exact ⟨rfl, DPost.same r⟩
  rintro _ h2 ⟨rfl, rfl⟩
  rw [if_neg (of_decide_eq_false e)]
  refine ⟨_, rfl, fun t => ?_, fun t => ⟨rfl, r.blk.ok (by simp), fun h3 hh3 => ?_⟩⟩
  · have : D.pow ≠ 0 := by simpa using t
    rw [if_pos this]
    exact ⟨rfl, DPost.same r⟩
  · have : D.pow = 0 := by simpa using t
    rw [if_neg (by simp [this])]
    have k3 : Keep h2 h3 [a] := by rw [hh3]; exact Keep.upd _ _ _ _ _ (by simp)
    have b3 := r.blk.upd 4 (.bool true)
    rw [← hh3] at b3
    refine ⟨rfl, b3.ok (by simp), fun h4 hh4 => ⟨rfl, DPost.flags r ⟨rfl, rfl, rfl⟩ (k3.trans' (by rw [hh4]; exact Keep.upd _ _ _ _ _ (by simp))) ?_⟩⟩
    rw [hh4]
    exact b3.upd 5 (i64 n)

theorem dWakes_ok (r : DiskR h a D p) : CallH Tryz.prog 73 ⟨[ptr a]⟩ h fun v h' => v = .tuple ⟨[]⟩ ∧ DPost h h' a p { D with ws := [], sh := [], off := false, armed := false } := by
  refine dWakes_call a ⟨by kernel_rfl, (dSettles_ok r).mono ?_⟩
  rintro _ h1 ⟨rfl, post⟩
  refine ⟨rfl, ?_⟩
  obtain ⟨p1, r1, k1, s1⟩ := post
  refine ⟨rfl, r1.blk.ok (by simp), fun h2 hh2 => ?_⟩
  have k2 : Keep h1 h2 [a] := by rw [hh2]; exact Keep.upd _ _ _ _ _ (by simp)
  have b2 := r1.blk.upd 3 (.bool false)
  rw [← hh2] at b2
  refine ⟨rfl, b2.ok (by simp), fun h3 hh3 => ⟨rfl, p1, ?_, ?_, s1⟩⟩
  all_goals have k3 : Keep h2 h3 [a] := by rw [hh3]; exact Keep.upd _ _ _ _ _ (by simp)
  · refine r1.flags ⟨rfl, rfl, rfl⟩ (k2.trans' k3) ?_
    rw [hh3]
    exact b2.upd 4 (.bool false)
  · exact k1.trans (k2.trans' k3) fun b hb => .inl (by rw [List.mem_singleton.1 hb]; simp [Pl.foot])

/-- One page of those that are stable is another. -/
theorem DiskR.setSt (r : DiskR h a D p) (k : Nat) {pg : List Value} (hpg : okPage pg) (hb : Blk h' p.sb (D.st.set k pg).flatten) (kk : Keep h h' [p.sb]) : DiskR h' a { D with st := D.st.set k pg } p := by
  obtain ⟨n1, n2, n3, n4⟩ := Pl.ne r.nodup
  obtain ⟨o1, o2, o3, o4, o5, o6, o7⟩ := r.ok
  refine ⟨?_, hb, r.shows.keep kk (by simp; exact fun e => n3 e.symm), ?_, r.nodup, ⟨fun x hx => ?_, by simpa using o2, by simpa using o3, o4, by simpa using o5, o6, o7⟩⟩
  · simp only [List.length_set]
    exact r.blk.keep kk (by simpa using n1)
  · rcases r.waits with hw | ⟨b', x', hw, g1, g2, g3⟩
    · exact .inl hw
    · exact .inr ⟨b', x', hw, g1, g2, g3.keep kk (by simp; exact fun e => (n4 b' hw).2.1 e.symm)⟩
  · rcases List.mem_or_eq_of_mem_set hx with h | rfl
    · exact o1 x h
    · exact hpg

theorem flat_prefix {l : List (List Value)} {i n : Nat} {r v : List Value} (h : ∀ x ∈ l, x.length = 256) (hi : l[i]? = some r) (hv : v.length = n) (hn : n ≤ 256) : l.flatten.take (i * 256) ++ v ++ l.flatten.drop (i * 256 + n) = (l.set i (v ++ r.drop n)).flatten := by
  have hlt := (List.getElem?_eq_some_iff.1 hi).1
  have hr := flat_row 256 l i r h hi
  rw [← flat_set 256 l i _ h hlt]
  have hrl : r.length = 256 := h r (List.mem_of_getElem? hi)
  have e1 : l.flatten.drop (i * 256) = r ++ l.flatten.drop (i * 256 + 256) := by
    conv => lhs; rw [← List.take_append_drop 256 (l.flatten.drop (i * 256))]
    rw [hr, List.drop_drop]
  have e2 : l.flatten.drop (i * 256 + n) = r.drop n ++ l.flatten.drop (i * 256 + 256) := by
    rw [← List.drop_drop, e1, List.drop_append_of_le_length (by omega)]
  rw [e2]
  simp only [List.append_assoc]

set_option maxRecDepth 4000 in
theorem dCrash_ok (r : DiskR h a D p) (hkeys : ∀ w ∈ D.ws, 0 ≤ w.1 ∧ w.1 < D.st.length) {q1 : Option Addr} {l1 c1 : Nat} {pk : List Int} (s : SlAt h q1 l1 (u8s pk) (p.foot a)) (hpk : ∀ x ∈ pk, 0 ≤ x ∧ x < 256) : CallH Tryz.prog 38 ⟨[ptr a, .slice q1 l1 c1]⟩ h fun v h' => v = i64 0 ∧ DPost h h' a p (D.crash pk) := by
  have hlp : pk.length = l1 := by have := s.1; rwa [u8s_len] at this
  have hlenW := r.ok.bound
  refine dCrash_call a q1 l1 c1 ⟨by kernel_rfl, (dNone_ok r).mono ?_⟩
  rintro _ h1 ⟨rfl, rfl⟩
  refine ⟨_, rfl, nofun, fun _ => ⟨_, _, _, r.blk.cell rfl, fun i hh => ∃ j : Nat, i = j ∧ j ≤ D.ws.length ∧ DiskR hh a { D with st := crashAll pk 0 (D.ws.take j) D.st } p ∧ Keep h1 hh (p.foot a), fun i _ => (D.ws.length - i).toNat, ⟨0, rfl, by omega, r, Keep.refl _ _⟩, ?_⟩⟩
  rintro _ h2 ⟨j, rfl, hj, r2, k2⟩
  refine ⟨fun e => ?_, fun e => ?_⟩
  · have hjl : j < D.ws.length := by have := of_decide_eq_true e; omega
    obtain ⟨w, hw⟩ : ∃ w, D.ws[j]? = some w := ⟨_, List.getElem?_eq_getElem hjl⟩
    obtain ⟨hk0, hk1⟩ := hkeys w (List.mem_of_getElem? hw)
    have hwp := r.ok.wpages w (List.mem_of_getElem? hw)
    have wj : IntKind.wrap .i64 ((j : Int) + 1) = ((j + 1 : Nat) : Int) := by rw [w64 _ (by omega) (by omega)]; rfl
    have hm : ((D.ws.length : Int) - ((j + 1 : Nat) : Int)).toNat < ((D.ws.length : Int) - (j : Int)).toNat := by omega
    rcases r2.waits with ⟨_, hw0, _⟩ | ⟨b, y, hwb, hle, hy, hbl⟩
    · simp only at hw0; rw [hw0] at hjl; simp at hjl
    have hbl : Blk h2 b ((D.ws.map wrow).flatten ++ y) := hbl
    have hwl := wrow_len r.ok
    have hroom : j * 257 + 257 ≤ (D.ws.map wrow).flatten.length := flat_room hwl (by simpa using hjl)
    have hrow := flat_row 257 _ j (wrow w) hwl (by simp [hw])
    have hcrow : rowAt h2 ⟨b, j * 257, none⟩ 257 = some (wrow w) := by
      rw [hbl.row (by rw [List.length_append]; omega), List.drop_append_of_le_length (by omega), List.take_append_of_le_length (by rw [List.length_drop]; omega), hrow]
    have hwlen : (wrow w).length = 257 := by simp [wrow, hwp.1]
    rw [hwb]
    refine ⟨⟨by omega, by omega⟩, ?_⟩
    rw [if_neg (by simp)]
    refine ⟨wrow w, by rw [addr_add]; simpa using hcrow, fun n6 h4 hn6 hh4 => ⟨hwlen, fun v hv => ?_, ?_, nofun, fun h5 hh5 => ?_⟩⟩
    · rcases List.mem_cons.1 hv with rfl | hv
      · rfl
      · exact page_cell hwp v hv
    all_goals have zl : (TI.zero (lookT T 106)).length = 257 := by kernel_rfl
    all_goals have b4 : Blk h4 n6 (TI.zero (lookT T 106)) := by rw [hh4, hn6]; exact Blk.new _ _ _
    · exact b4.okRow (by omega)
    have k4 : Keep h2 h4 [] := by rw [hh4]; exact Keep.push _ _ _
    have b5 : Blk h5 n6 (wrow w) := by
      have := b4.updRow (k := 0) (vs := wrow w) (by omega)
      rw [← hh5] at this
      have e2 : (TI.zero (lookT T 106)).drop (0 + (wrow w).length) = [] := List.drop_of_length_le (by omega)
      rw [e2] at this
      simpa using this
    have s4 := k4.size
    have hb4 := b4.lt
    have k5 : Keep h2 h5 [] := k4.trans (F' := [n6]) (by rw [hh5]; exact Keep.updRow _ _ _ _ _ (by simp)) (by simp; omega)
    have r5 : DiskR h5 a { D with st := crashAll pk 0 (D.ws.take j) D.st } p := r2.keep k5 (by simp)
    have k15 : Keep h1 h5 (p.foot a) := k2.trans' (k5.mono (by simp))
    have hsl : (crashAll pk 0 (D.ws.take j) D.st).length = D.st.length := crashAll_len _ _ _ _
    obtain ⟨pg, hpg⟩ : ∃ pg, (crashAll pk 0 (D.ws.take j) D.st)[w.1.toNat]? = some pg := ⟨_, List.getElem?_eq_getElem (by omega)⟩
    have hpl : ∀ x ∈ crashAll pk 0 (D.ws.take j) D.st, x.length = 256 := fun x hx => (r5.ok.pages x hx).1
    have hpgo : okPage pg := r5.ok.pages pg (List.mem_of_getElem? hpg)
    have next : crashAll pk 0 (D.ws.take (j + 1)) D.st = (crashAll pk 0 (D.ws.take j) D.st).set w.1.toNat (w.2.take (crashN pk j) ++ pg.drop (crashN pk j)) := by
      rw [take_succ_get hw, crashAll_snoc]
      simp only [Nat.zero_add, List.length_take, show min j D.ws.length = j by omega, crashOne, hpg, Option.getD_some]
    rw [wj]
    refine ⟨fun t => ?_, fun t => ?_⟩
    · have hjp : j < l1 := by have := of_decide_eq_true t; omega
      obtain ⟨xk, hxk⟩ : ∃ xk, pk[j]? = some xk := ⟨_, List.getElem?_eq_getElem (by omega)⟩
      have hxr := hpk xk (List.mem_of_getElem? hxk)
      obtain ⟨a1, x1, rfl, hc1, hg1⟩ := (s.keep k15 fun _ hb => hb).cell hjp
      have hx1 : x1 = xk := by
        rw [u8s_get, hxk] at hg1
        simpa using hg1.symm
      subst hx1
      have hn : ∃ n : Nat, IntKind.wrap .i64 (IntKind.wrap .i64 (Int.tmod x1 5) * 64) = n ∧ n ≤ 256 ∧ crashN pk j = n := by
        have e1 : Int.tmod x1 5 = x1 % 5 := Int.tmod_eq_emod_of_nonneg hxr.1
        rw [e1, w64 (x1 % 5) (by omega) (by omega), w64 _ (by omega) (by omega)]
        refine ⟨(x1 % 5).toNat * 64, by omega, by omega, ?_⟩
        unfold crashN
        rw [hxk]
      obtain ⟨n, hn, hn256, hcn⟩ := hn
      have hlv : (w.2.take n).length = n := by rw [List.length_take, hwp.1]; omega
      have hkl : w.1.toNat < (crashAll pk 0 (D.ws.take j) D.st).length := by omega
      have hroom5 := flat_room hpl hkl
      refine ⟨⟨by omega, by omega⟩, x1, by simpa using hc1, by decide, _, _, _, r5.blk.cell rfl, w.1, b5.cell rfl, ⟨hk0, by simp only [hsl]; omega⟩, ⟨by rw [hn]; omega, by rw [hn]; omega⟩, ⟨by rw [hn]; omega, by rw [hn]; omega⟩, w.2.take n, ?_, fun v hv => page_cell hwp v (List.mem_of_mem_take hv), ?_, fun h6 hh6 => ⟨⟨j + 1, rfl, by omega, ?_, ?_⟩, hm⟩⟩
      · rw [hn]
        show rowAt h5 ⟨n6, 1, none⟩ (min (n : Int).toNat (n : Int).toNat * 1) = _
        rw [Nat.min_self, Nat.mul_one, Int.toNat_natCast, b5.row (by omega)]
        rfl
      · rw [addr_add, Nat.zero_add, hlv]
        exact r5.stab.okRow (by simp only; omega)
      all_goals rw [addr_add, Nat.zero_add] at hh6
      all_goals have k6 : Keep h5 h6 [p.sb] := by rw [hh6]; exact Keep.updRow _ _ _ _ _ (by simp)
      · rw [next, hcn]
        refine r5.setSt w.1.toNat (okPage_mix hwp hpgo hn256) ?_ k6
        have := r5.stab.updRow (k := w.1.toNat * 256) (vs := w.2.take n) (by simp only; omega)
        rw [← hh6, hlv] at this
        simp only at this
        rw [flat_prefix hpl hpg hlv hn256] at this
        exact this
      · exact k15.trans' (k6.mono fun b hb => .inl (by rw [List.mem_singleton.1 hb]; simp [Pl.foot]))
    · have hjp : ¬ j < l1 := by have := of_decide_eq_false t; omega
      have hcn : crashN pk j = 0 := by
        unfold crashN
        rw [List.getElem?_eq_none (by omega)]
      refine ⟨⟨j + 1, rfl, by omega, ?_, k15⟩, hm⟩
      rw [next, hcn]
      have : (crashAll pk 0 (D.ws.take j) D.st).set w.1.toNat (w.2.take 0 ++ pg.drop 0) = crashAll pk 0 (D.ws.take j) D.st := by
        simp only [List.take_zero, List.drop_zero, List.nil_append]
        apply List.ext_getElem?
        intro i
        rw [List.getElem?_set]
        by_cases h : w.1.toNat = i
        · rw [if_pos h, if_pos (by omega), ← h, hpg]
        · rw [if_neg h]
      rw [this]
      exact r5
  · have hjl : j = D.ws.length := by have := of_decide_eq_false e; omega
    subst hjl
    rw [List.take_length] at r2
    refine ⟨by kernel_rfl, (dWakes_ok r2).mono ?_⟩
    rintro _ h7 ⟨rfl, p7, r7, k7, s7⟩
    exact ⟨rfl, rfl, p7, r7, k2.trans' k7, fun b hb => (s7 b hb).imp id fun h => Nat.le_trans k2.size h⟩

end
end Go.Proofs.YtfapgccnhonoiaaGreat

/- What All tells, as far as it is asked. -/
namespace Go.Proofs.YtfapgccnhonoiaaGreat

def chRow (K : Ck) (k : Int) : List Value := [i64 k, .bool (K.chOf k)]

section
variable {h : Heap} {c da : Nat} {K : Ck} {q : Cp}

def ToldI (h h3 : Heap) (n1 n2 n3 n4 lo : Nat) (most : Int) (rec3 : LoopState → Option Code → Obj) (K : Ck) (q : Cp) (ds : List Int) (hh : Heap) (K' : Ck) (q' : Cp) : Prop :=
  K' = K ∧ q' = q ∧ hh[n3]? = some (rec3 .ready none) ∧ hh[n4]? = some (.deferred (some [])) ∧ Blk hh n1 [i64 most] ∧ (ds.length : Int) ≤ most ∧
    (∃ p n cap, Blk hh n2 [.slice p n cap] ∧ VecR hh 2 p n cap lo (ds.map (chRow K))) ∧ Keep h3 hh [n2, n3] ∧ Keep h hh []

theorem told_ok (r : CacheR h c da K q) {b0 : Nat} (hb : Blk h b0 [ptr c]) (hn : K.l.length ≤ 12) (most : Int) (hm : 1 ≤ most) : CallH Tryz.prog 42 ⟨[.func (.func 74) #[] #[ptr b0], i64 most]⟩ h fun v h' =>
    ∃ (p : Option Addr) (n cap : Nat) (L : List Int), v = .slice p n cap ∧ VecR h' 2 p n cap h.size ((L.take most.toNat).map (chRow K)) ∧ L.Perm (K.l.map (·.p)) ∧ L.Pairwise (fun x y => x < y) ∧ Keep h h' [] := by
  refine told_call b0 most fun n1 ha hn1 hha n2 hb2 hn2 hhb => ⟨nofun, fun _ => ⟨by kernel_rfl, fun n3 n4 rec3 h2 hn4 hn3 hrec hh2 hy => ?_⟩⟩
  have ka : Keep h ha [] := by rw [hha]; exact Keep.push _ _ _
  have kb : Keep ha hb2 [] := by rw [hhb]; exact Keep.push _ _ _
  have sa : ha.size = h.size + 1 := by rw [hha]; simp
  have sb : hb2.size = ha.size + 1 := by rw [hhb]; simp
  have s2 : h2.size = hb2.size + 2 := by rw [hh2]; simp
  have k2 : Keep hb2 h2 [] := by rw [hh2]; exact (Keep.push _ _ _).trans' (Keep.push _ _ _)
  have k02 : Keep h h2 [] := (ka.trans' kb).trans' k2
  have r2 := r.keep k02 (by simp)
  have hb0 := hb.keep k02 (by simp)
  have hblt := hb.lt
  have ask : Blk h2 n1 [i64 most] := by
    have : Blk ha n1 [i64 most] := by rw [hha, hn1]; exact Blk.new _ _ _
    exact (this.keep kb (by simp)).keep k2 (by simp)
  have box : Blk h2 n2 [.slice none 0 0] := by
    have : Blk hb2 n2 [.slice none 0 0] := by rw [hhb, hn2]; exact Blk.new _ _ _
    exact this.keep k2 (by simp)
  have l2 : h2[n3]? = some (rec3 .ready none) := by
    rw [hh2, hn3, show hb2.size + 1 = (hb2.push (Obj.deferred (some []))).size by simp]; exact get_push_eq _ _
  have d2 : h2[n4]? = some (.deferred (some [])) := by
    rw [hh2, hn4, get_push_lt _ _ (by simp)]; exact get_push_eq _ _
  have hrlt := r.lt
  refine cAll1_ok (c := c) (da := da) (K := K) (q := q) hb0 r2 hn fun h3 L hp hs k3 => ⟨ToldI h h3 n1 n2 n3 n4 h3.size most rec3 K q, [n2, n3], ?_, ?_, ?_, ?_, ?_, ?_⟩
  · intro b hb
    simp only [List.mem_cons, List.not_mem_nil, or_false] at hb
    omega
  · exact ⟨rfl, rfl, k3.get l2 (by simp), k3.get d2 (by simp), ask.keep k3 (by simp), by simp; omega, ⟨none, 0, 0, box.keep k3 (by simp), VecR.nil _ _ _⟩, Keep.refl _ _, k02.trans' k3⟩
  · rintro ds hh K q ⟨rfl, rfl, i1, i2, ia, il, i3, i4, i5⟩
    refine ⟨i4, (hb0.keep k3 (by simp)).keep i4 (by simp; omega), (r2.keep k3 (by simp)).keep i4 fun b hb => ?_⟩
    have := hrlt b hb
    simp; omega
  · rintro ds k rest hh K q e hL ⟨rfl, rfl, i1, i2, ia, il, ⟨p, n, cap, i3, iv⟩, i4, i5⟩ he
    have hch : K.chOf k = e.ch := by unfold Ck.chOf; rw [he]
    have sz4 := i4.size
    have sz3 := k3.size
    have hnl : n = ds.length := by have := iv.1; simpa using this
    have hn12 : n ≤ 12 := by
      have h2 := hp.length_eq
      have h3 := congrArg List.length hL
      simp only [List.length_map, List.length_append] at h2 h3
      omega
    suffices key : ∀ Q : Value → Heap → Prop, (∀ hz, ToldI h h3 n1 n2 n3 n4 h3.size most rec3 K q (ds ++ [k]) hz K q → Q (.bool true) hz) →
        (∀ hz, hz[n3]? = some (rec3 .done (some (.exit 0))) → hz[n4]? = some (.deferred (some [])) → Blk hz n2 [.slice p n cap] → VecR hz 2 p n cap h3.size (ds.map (chRow K)) → Keep h hz [] → h3.size ≤ hz.size → most = ds.length → Q (.bool false) hz) → CallV Tryz.prog (yieldV n3) ⟨[i64 k, .bool e.ch]⟩ hh Q by
      refine key _ (fun hz hz' => .inl ⟨rfl, K, q, hz'⟩) fun hz g1 g2 g3 g4 g5 g6 g7 => .inr ⟨rfl, .inl ⟨g1, fun h13 hh13 => ⟨p, n, cap, ?_, ?_, fun h14 hh14 => ⟨p, n, cap, L, rfl, ?_, hp, hs, ?_⟩⟩⟩⟩
      all_goals have k5 : Keep hz h13 [n3] := by rw [hh13]; exact Keep.set _ _ _ _ (by simp)
      all_goals have szz := k5.size
      · exact (g3.keep k5 (by simp; omega)).cell rfl
      · exact k5.get g2 (by simp; omega)
      all_goals have k6 : Keep h13 h14 [n4] := by rw [hh14]; exact Keep.set _ _ _ _ (by simp)
      · have ht : L.take most.toNat = ds := by rw [g7, hL, Int.toNat_natCast]; simp
        rw [ht]
        refine ((g4.keep k5 fun b hb => ?_).keep k6 fun b hb => ?_).mono (by omega)
        · have := g4.lt b hb; simp; omega
        · have := g4.lt b hb; simp; omega
      · exact (g5.trans k5 (by simp; omega)).trans k6 (by simp; omega)
    intro Q hQ hBreak
    refine hy k e.ch hh Q i1 ⟨i1, fun h4 hh4 => ?_⟩
    have k4 : Keep hh h4 [n3] := by rw [hh4]; exact Keep.set _ _ _ _ (by simp)
    have s4 : h4.size = hh.size := by rw [hh4]; simp
    have l4 : h4[n3]? = some (rec3 .busy none) := by
      rw [hh4, Array.getElem?_setIfInBounds_self_of_lt (Array.getElem?_eq_some_iff.1 i1).1]
    have box4 := i3.keep k4 (by simp; omega)
    have ask4 := ia.keep k4 (by simp; omega)
    have v4 := iv.keep k4 fun b hb => by have := iv.lt b hb; simp; omega
    have d4 := k4.get i2 (by simp; omega)
    refine ⟨p, n, cap, box4.cell rfl, most, ask4.cell rfl, fun t => ⟨l4, fun h5 hh5 => ?_⟩, fun t => ⟨p, n, cap, box4.cell rfl, ⟨rfl, trivial⟩, ?_⟩⟩
    · have hge : most ≤ n := of_decide_eq_true t
      have k5 : Keep h4 h5 [n3] := by rw [hh5]; exact Keep.set _ _ _ _ (by simp)
      have s5 := k5.size
      refine hBreak h5 ?_ (k5.get d4 (by simp; omega)) (box4.keep k5 (by simp; omega)) (v4.keep k5 fun b hb => ?_) ?_ ?_ ?_
      · rw [hh5, Array.getElem?_setIfInBounds_self_of_lt (Array.getElem?_eq_some_iff.1 l4).1]
      · have := v4.lt b hb; simp; omega
      · exact (i5.trans k4 (by simp; omega)).trans k5 (by simp; omega)
      · omega
      · omega
    · have hlt : ¬ most ≤ (n : Int) := of_decide_eq_false t
      refine fun n7 h5 hn7 hh5 => VecR.append v4 (by omega) [i64 k, .bool e.ch] [.int .i64 (Int.ofNat 0), .bool false] rfl rfl (by simp [isCell]) 78 16 (by omega) (by omega)
        (fun hx px cx => true = true ∧ okAt hx ⟨n2, 0, none⟩ ∧ ∀ hy, hy = upd hx ⟨n2, 0, none⟩ (.slice px (n + 1) cx) → hy[n3]? = some (rec3 .busy none) ∧ ∀ hz, hz = hy.setIfInBounds n3 (rec3 .ready none) → Q (.bool true) hz) ?_ n7 h5 hn7 hh5
      intro hx px cx vx kx fx
      have nin : ∀ b, b < h2.size → b ∉ blks p := fun b hb hm => by have := iv.lt b hm; omega
      have boxx := box4.keep kx (nin _ (by omega))
      refine ⟨rfl, boxx.ok (by simp), fun hy hhy => ?_⟩
      have ky : Keep hx hy [n2] := by rw [hhy]; exact Keep.upd _ _ _ _ _ (by simp)
      have boxy := boxx.upd 0 (.slice px (n + 1) cx)
      rw [← hhy] at boxy
      have ly := ky.get (kx.get l4 (nin _ (by omega))) (by simp; omega)
      refine ⟨ly, fun hz hhz => hQ hz ⟨rfl, rfl, ?_, ?_, ?_, ?_, ⟨px, n + 1, cx, ?_, ?_⟩, ?_, ?_⟩⟩
      all_goals have kz : Keep hy hz [n3] := by rw [hhz]; exact Keep.set _ _ _ _ (by simp)
      all_goals have szx := kx.size
      all_goals have szy := ky.size
      all_goals have szz := kz.size
      · rw [hhz, Array.getElem?_setIfInBounds_self_of_lt (Array.getElem?_eq_some_iff.1 ly).1]
      · exact kz.get (ky.get (kx.get d4 (nin _ (by omega))) (by simp; omega)) (by simp; omega)
      · exact ((ask4.keep kx (nin _ (by omega))).keep ky (by simp; omega)).keep kz (by simp; omega)
      · simp only [List.length_append, List.length_cons, List.length_nil]; omega
      · exact boxy.keep kz (by simp; omega)
      · rw [List.map_append]
        have : [k].map (chRow K) = [[i64 k, .bool e.ch]] := by simp [chRow, hch]
        rw [this]
        refine (vx.keep ky fun b hb => ?_).keep kz fun b hb => ?_
        · have := vx.lt b hb; simp; omega
        · have := vx.lt b hb; simp; omega
      · refine (((i4.trans k4 ?_).trans (kx.mono (F' := blks p) (fun b hb => .inl hb)) fun b hb => ?_).trans ky ?_).trans kz ?_
        · simp
        · have := iv.lt b hb; right; omega
        · simp
        · simp
      · refine (((i5.trans k4 ?_).trans kx fun b hb => ?_).trans ky ?_).trans kz ?_
        · simp; omega
        · have := iv.lt b hb; right; omega
        · simp; omega
        · simp; omega
  · rintro ds k rest hh K q hL ⟨rfl, rfl, i1, i2, ia, il, ⟨p, n, cap, i3, iv⟩, i4, i5⟩ he
    -- no page is missed
    exfalso
    have hk : k ∈ K.l.map (·.p) := hp.mem_iff.1 (by rw [hL]; simp)
    obtain ⟨e, he', hep⟩ := List.mem_map.1 hk
    exact (efind_none k K.l).1 he e he' hep
  · rintro hh K q ⟨rfl, rfl, i1, i2, ia, il, ⟨p, n, cap, i3, iv⟩, i4, i5⟩
    have sz3 := k3.size
    refine .inr ⟨i1, fun h5 hh5 => ⟨p, n, cap, ?_, ?_, fun h6 hh6 => ⟨p, n, cap, L, rfl, ?_, hp, hs, ?_⟩⟩⟩
    all_goals have k5 : Keep hh h5 [n3] := by rw [hh5]; exact Keep.set _ _ _ _ (by simp)
    all_goals have szz := k5.size
    · exact (i3.keep k5 (by simp; omega)).cell rfl
    · exact k5.get i2 (by simp; omega)
    all_goals have k6 : Keep h5 h6 [n4] := by rw [hh6]; exact Keep.set _ _ _ _ (by simp)
    · rw [List.take_of_length_le (by omega)]
      refine ((iv.keep k5 fun b hb => ?_).keep k6 fun b hb => ?_).mono (by omega)
      · have := iv.lt b hb; simp; omega
      · have := iv.lt b hb; simp; omega
    · exact (i5.trans k5 (by simp; omega)).trans k6 (by simp; omega)

end
end Go.Proofs.YtfapgccnhonoiaaGreat

/- The law's function same: what is held, counted and changed is the document's. -/
namespace Go.Proofs.YtfapgccnhonoiaaGreat

def cRow (L : List Ent) (k : Int) : List Value := [i64 k, .bool (chE L k)]

section
variable {h : Heap} {c da w u : Nat} {D : Dk} {K : Ck} {p : Pl} {q : Cp} {C : RCk} {rq : Rq} {E : RDk} {rp : Rp} {X : List Nat} {t : Nat}

def SameI (h : Heap) (L : List Ent) (p5 : Option Addr) (n5 n6 : Nat) (x : Int) (hh : Heap) : Prop :=
  ∃ j : Nat, x = j ∧ j ≤ 8 ∧ VecR hh 2 p5 n5 n6 h.size (((upto j).filter (heldE L)).map (cRow L)) ∧ n5 ≤ j ∧ Keep h hh []

theorem vec_get {h : Heap} {s : Option Addr} {n cap lo : Nat} {L : List Ent} {ks : List Int} (v : VecR h 2 s n cap lo (ks.map (cRow L))) {i : Nat} (hi : i < n) : ∃ b k, s = some ⟨b, 0, none⟩ ∧ ks[i]? = some k ∧ rowAt h ⟨b, i * 2, none⟩ 2 = some (cRow L k) := by
  have hl : n = ks.length := by have := v.1; simpa using this
  obtain ⟨k, hk⟩ : ∃ k, ks[i]? = some k := ⟨_, List.getElem?_eq_getElem (by omega)⟩
  obtain ⟨b, x, hp, _, _, hr, _⟩ := v.at (i := i) (r := cRow L k) (by rw [List.getElem?_map, hk]; rfl)
  exact ⟨b, k, hp, hk, hr⟩

theorem same_ok (r : CD h c da D K p q) (R : Ref h w u C rq E rp X) (s : SimK K C t) (ht : t < 1000000) (hE8 : E.S.length = 8) (k : Int) : CallH Tryz.prog 10 ⟨[ptr c, ptr w, i64 k]⟩ h fun v h' => v = .bool true ∧ Keep h h' [] := by
  have hn8 := Sim.few8 s
  have hn12 : K.l.length ≤ 12 := by omega
  have hclk := s.clock
  have hu : ∀ e ∈ K.l, 0 ≤ e.used ∧ e.used < 4611686018427387904 := fun e he => by
    have := s.used e he
    omega
  have hpair : ∀ {x : Ent}, x ∈ C.L → heldE C.L x.p = true := fun {x} hx => heldE_iff.2 ⟨x, hx, rfl⟩
  refine same_call c w k ⟨by kernel_rfl, (cCounts_ok r.ck).mono ?_⟩
  rintro _ h1 ⟨rfl, rfl⟩
  refine ⟨_, _, rfl, by kernel_rfl, (rcHeld_ok R).mono ?_⟩
  rintro _ h2 ⟨s1, m1, cap1, rfl, v1, k2⟩
  have R2 := R.beside k2
  refine ⟨_, _, _, rfl, _, R2.c.blk.cell rfl, _, _, _, R2.d.blk.cell rfl, SameI h2 C.L, fun _ _ _ x _ => (8 - x).toNat, ⟨0, rfl, by omega, VecR.nil _ _ _, by omega, Keep.refl _ _⟩, ?_⟩
  rintro p5 n5 n6 _ h3 ⟨j, rfl, hj, v5, hn5, k3⟩
  have R3 := R2.beside k3
  refine ⟨fun e => ⟨by kernel_rfl, (rcFind_ok R3.c j).mono ?_⟩, fun e => ?_⟩
  · have hjl : j < 8 := by have := of_decide_eq_true e; omega
    have wj : IntKind.wrap .i64 ((j : Int) + 1) = ((j + 1 : Nat) : Int) := by rw [w64 _ (by omega) (by omega)]; rfl
    have hm : (8 - ((j + 1 : Nat) : Int)).toNat < (8 - (j : Int)).toNat := by omega
    rintro _ h3 ⟨rfl, i, rfl, hf⟩
    rw [wj]
    refine ⟨_, rfl, fun t1 => ?_, fun t1 => ⟨⟨j + 1, rfl, by omega, ?_, by omega, k3⟩, hm⟩⟩
    · have hi : 0 ≤ i := of_decide_eq_true t1
      obtain ⟨m, x, rfl, hm', hx⟩ := hf.resolve_right (fun h => by omega)
      have hml := (List.getElem?_eq_some_iff.1 hm').1
      obtain ⟨a, b, cap, hp, _, _, _, _, _, c2, _⟩ := R3.c.get hm'
      have blk := R3.c.blk
      rw [hp] at blk
      have hmem := List.mem_of_getElem? hm'
      have hch : chE C.L j = x.ch := by rw [← hx]; exact chE_some R3.c.keys hmem
      have hhl : heldE C.L j = true := by rw [← hx]; exact hpair hmem
      refine ⟨_, _, _, blk.cell rfl, ⟨by omega, by omega⟩, _, by rw [addr_add, addr_add]; simpa using c2, ⟨rfl, trivial⟩, fun n9 h4 hn9 hh4 => ?_⟩
      refine VecR.append v5 k3.size [i64 j, .bool x.ch] [.int .i64 (Int.ofNat 0), .bool false] rfl rfl (by simp [isCell]) 78 16 (by omega) (by omega)
        (fun hx px cx => SameI h2 C.L px (n5 + 1) cx ((j + 1 : Nat) : Int) hx ∧ (8 - ((j + 1 : Nat) : Int)).toNat < (8 - (j : Int)).toNat) ?_ n9 h4 hn9 hh4
      intro hy px cx vx kx fx
      refine ⟨⟨j + 1, rfl, by omega, ?_, by omega, k3.trans kx fun b hb => .inr (v5.lt b hb).2⟩, hm⟩
      rw [upto_succ, List.filter_append, List.map_append]
      simp only [List.filter_cons, hhl, List.filter_nil, if_true, List.map_cons, List.map_nil, cRow, hch]
      exact vx
    · have hi : ¬ 0 ≤ i := of_decide_eq_false t1
      have hnone := (hf.resolve_left (fun ⟨j, _, h, _⟩ => by omega)).2
      have hhl : heldE C.L j = false := by
        cases hh : heldE C.L j with
        | false => rfl
        | true => obtain ⟨y, hy, hyp⟩ := heldE_iff.1 hh; exact absurd hyp (hnone y hy)
      rw [upto_succ, List.filter_append]
      simp only [List.filter_cons, hhl, List.filter_nil]
      rw [if_neg (by simp), List.append_nil]
      exact v5
  have hj8 : j = 8 := by have := of_decide_eq_false e; omega
  subst hj8
  have k13 := k2.trans' k3
  refine ⟨by kernel_rfl, (cAll_ok h3 c).mono ?_⟩
  rintro _ h4 ⟨b1, rfl, hb1, k4, _⟩
  have r4 := (r.ck.keep k13 (by simp)).keep k4 (by simp)
  refine ⟨_, rfl, by kernel_rfl, (told_ok r4 hb1 hn12 1048576 (by omega)).mono ?_⟩
  rintro _ h5 ⟨s7, n12, c7, L, rfl, v7, hp, hs, k5⟩
  have hL := Sim.all s hp hs
  have hLlen : L.length ≤ 8 := by have := hp.length_eq; simp at this; omega
  have hrow : ∀ l : List Int, l.map (chRow K) = l.map (cRow C.L) := fun l => List.map_congr_left fun x _ => by simp only [chRow, cRow, s.ch x]
  rw [List.take_of_length_le (by omega), hrow] at v7
  rw [← hL] at v5
  have hn5 : n5 = L.length := by have := v5.1; simpa using this
  have hn12 : n12 = L.length := by have := v7.1; simpa using this
  refine ⟨_, _, _, rfl, fun t1 => ?_, fun _ => ⟨by kernel_rfl, (cAll_ok h5 c).mono ?_⟩⟩
  · rw [hn5, hn12] at t1; simp at t1
  rintro _ h6 ⟨b2, rfl, hb2, k6, _⟩
  have r6 := (r4.keep k5 (by simp)).keep k6 (by simp)
  refine ⟨_, rfl, by kernel_rfl, (told_ok r6 hb2 (by omega) 1 (by omega)).mono ?_⟩
  rintro _ h7 ⟨s8, n14, c8, L2, rfl, v8, hp2, hs2, k7⟩
  have hL2 := Sim.all s hp2 hs2
  rw [← hL] at hL2
  subst hL2
  have hn14 : n14 = min 1 L2.length := by have := v8.1; simpa using this
  have k37 : Keep h3 h7 [] := (((k4.trans' k5).trans' k6).trans' k7)
  have k17 := k13.trans' k37
  have r7 := r6.keep k7 (by simp)
  have R7 := R3.beside k37
  have v5' := v5.keep k37 (by simp)
  have v7' := (v7.keep k6 (by simp)).keep k7 (by simp)
  refine ⟨_, _, _, rfl, ?_⟩
  show (((n14 : Int) != (if (n5 : Int) < 1 then (n5 : Int) else 1)) = true → _) ∧ (((n14 : Int) != (if (n5 : Int) < 1 then (n5 : Int) else 1)) = false → _)
  have hmin : (n14 : Int) = (if (n5 : Int) < 1 then (n5 : Int) else 1) := by
    rw [hn14, hn5]
    split <;> omega
  refine ⟨fun t1 => ?_, fun _ => ?_⟩
  · rw [← hmin] at t1; simp at t1
  refine ⟨fun i hh => hh = h7 ∧ ∃ j : Nat, i = j ∧ j ≤ n12, fun i _ => (n12 - i).toNat, ⟨rfl, 0, rfl, by omega⟩, ?_⟩
  rintro _ h8 ⟨rfl, j, rfl, hj⟩
  refine ⟨fun e => ?_, fun e => ?_⟩
  · have hjl : j < n12 := by have := of_decide_eq_true e; omega
    obtain ⟨ba, ka, rfl, hka, ra⟩ := vec_get v7' hjl
    obtain ⟨bb, kb, rfl, hkb, rb⟩ := vec_get v5' (i := j) (by omega)
    rw [hka] at hkb
    cases hkb
    have wj : IntKind.wrap .i64 ((j : Int) + 1) = ((j + 1 : Nat) : Int) := by rw [w64 _ (by omega) (by omega)]; rfl
    refine ⟨⟨by omega, by omega⟩, ka, chE C.L ka, by rw [addr_add]; simpa [cRow] using ra, ⟨by omega, by omega⟩, ka, chE C.L ka, by rw [addr_add]; simpa [cRow] using rb, rfl, rfl, rfl, true, by simp, nofun, fun _ => ?_⟩
    rw [wj]
    refine ⟨⟨rfl, j + 1, rfl, by omega⟩, ?_⟩
    show ((n12 : Int) - ((j + 1 : Nat) : Int)).toNat < ((n12 : Int) - (j : Int)).toNat
    omega
  refine ⟨_, R7.c.blk.cell rfl, fun _ => ⟨_, R7.c.blk.cell rfl, fun _ => ⟨by kernel_rfl, (cHeld_ok r7 hu (by omega)).mono ?_⟩, fun t1 => ?_⟩, fun t1 => ?_⟩
  · rintro _ h9 ⟨s9, n16, c9, ds, rfl, v9, hheld, k9⟩
    have hd := Sim.held s hheld
    subst hd
    have v1' := (v1.keep k3 (by simp)).keep k37 (by simp)
    have hl9 : n16 = (C.L.map Ent.p).length := by have := v9.1; rwa [ints_len] at this
    have hcl := s.len
    refine ⟨_, _, _, rfl, by kernel_rfl, (rInts_ok v9 (v1'.keep k9 (by simp)) (by simp at hl9; omega)).mono ?_⟩
    rintro _ h10 ⟨rfl, rfl⟩
    refine ⟨_, rfl, fun _ => ⟨by kernel_rfl, (cChanged_ok (r7.keep k9 (by simp)) (by omega)).mono ?_⟩, fun t1 => by simp at t1⟩
    rintro _ h11 ⟨s10, n18, c10, ds, rfl, v10, hchg, k11⟩
    have hd := Sim.changed s hchg
    subst hd
    have R11 := (R7.beside k9).beside k11
    refine ⟨_, _, _, rfl, by kernel_rfl, (rcChanged_ok R11).mono ?_⟩
    rintro _ h12 ⟨s11, n20, c11, rfl, v11, k12⟩
    rw [hE8] at v11
    have hl10 : n18 ≤ 8 := by
      have h1 := v10.1
      rw [ints_len] at h1
      have := List.length_filter_le (chE C.L) (upto 8)
      simp only [upto, List.length_map, List.length_range] at this h1
      omega
    refine ⟨_, _, _, rfl, by kernel_rfl, (rInts_ok (v10.keep k12 (by simp)) v11 (by omega)).mono ?_⟩
    rintro _ h13 ⟨rfl, rfl⟩
    refine ⟨_, rfl, fun _ => ⟨by kernel_rfl, (cHas_ok (((r7.keep k9 (by simp)).keep k11 (by simp)).keep k12 (by simp)) k).mono ?_⟩, fun t1 => by simp at t1⟩
    rintro _ h14 ⟨rfl, rfl⟩
    refine ⟨_, rfl, by kernel_rfl, (rcFind_ok (R11.beside k12).c k).mono ?_⟩
    rintro _ h15 ⟨rfl, i, rfl, hf⟩
    refine ⟨_, rfl, ?_, (((k17.trans' k9).trans' k11).trans' k12)⟩
    congr 1
    rcases hf with ⟨m, x, rfl, hm, hx⟩ | ⟨rfl, hnone⟩
    · obtain ⟨e, he, _⟩ := s.of (List.mem_of_getElem? hm)
      rw [hx] at he
      rw [he]
      simp
    · rw [s.lacks.2 hnone]
      rfl
  · rw [s.misses] at t1; simp at t1
  · rw [s.hits] at t1; simp at t1

end
end Go.Proofs.YtfapgccnhonoiaaGreat

/- The law's function does: what its parts need. -/
namespace Go.Proofs.YtfapgccnhonoiaaGreat

theorem wrap8 (n : Int) : 0 ≤ IntKind.wrap .u8 n ∧ IntKind.wrap .u8 n < 256 := by
  have : IntKind.wrap .u8 n = n % 256 := by
    unfold IntKind.wrap
    simp [IntKind.bits, IntKind.signed]
  omega

/-- Each byte is turned over. -/
theorem xor_loop {h : Heap} {b n : Nat} {l : List Value} (hb : Blk h b l) (hn : n ≤ l.length) (hn2 : n ≤ 1000000) (hu : ∀ m, m < n → ∃ x, l[m]? = some (.int .u8 x)) (Q : Heap → Prop) (hQ : ∀ hh, Keep h hh [b] → Q hh) :
    ∃ (I : Int → Heap → Prop) (M : Int → Heap → Nat), I 0 h ∧ ∀ i hh, I i hh → (decide (i < (n : Int)) = true → (0 ≤ i ∧ i < (n : Int)) ∧ ∃ i7, cellAt hh (Addr.add ⟨b, 0, none⟩ (i.toNat * 1)) = some (.int .u8 i7) ∧ (0 ≤ i ∧ i < (n : Int)) ∧ true = true ∧ okAt hh (Addr.add ⟨b, 0, none⟩ (i.toNat * 1)) ∧
      ∀ h4, h4 = upd hh (Addr.add ⟨b, 0, none⟩ (i.toNat * 1)) (.int .u8 (bitsI .xor .u8 i7 255)) → I (IntKind.wrap .i64 (i + 1)) h4 ∧ M (IntKind.wrap .i64 (i + 1)) h4 < M i hh) ∧ (decide (i < (n : Int)) = false → Q hh) := by
  refine ⟨fun i hh => ∃ (j : Nat) (l' : List Value), i = j ∧ j ≤ n ∧ Blk hh b l' ∧ l'.length = l.length ∧ (∀ m, m < n → ∃ x, l'[m]? = some (.int .u8 x)) ∧ Keep h hh [b], fun i _ => (n - i).toNat, ⟨0, l, rfl, by omega, hb, rfl, hu, Keep.refl _ _⟩, ?_⟩
  rintro _ hh ⟨j, l', rfl, hj, hb', hl', hu', kk⟩
  refine ⟨fun e => ?_, fun _ => hQ hh kk⟩
  have hjn : j < n := by have := of_decide_eq_true e; omega
  obtain ⟨x, hx⟩ := hu' j hjn
  have wj : IntKind.wrap .i64 ((j : Int) + 1) = ((j + 1 : Nat) : Int) := by rw [w64 _ (by omega) (by omega)]; rfl
  refine ⟨⟨by omega, by omega⟩, x, by rw [addr_add]; simpa using hb'.cell hx, ⟨by omega, by omega⟩, rfl, by rw [addr_add]; simpa using hb'.ok (k := j) (by omega), fun h4 hh4 => ?_⟩
  rw [addr_add] at hh4
  simp only [Nat.zero_add, Nat.mul_one, Int.toNat_natCast] at hh4
  have b4 := hb'.upd j (.int .u8 (bitsI .xor .u8 x 255))
  rw [← hh4] at b4
  rw [wj]
  refine ⟨⟨j + 1, _, rfl, by omega, b4, by simpa using hl', fun m hm => ?_, kk.trans' (by rw [hh4]; exact Keep.upd _ _ _ _ _ (by simp))⟩, ?_⟩
  · rw [List.getElem?_set]
    by_cases h : j = m
    · rw [if_pos h, if_pos (by omega)]; exact ⟨_, rfl⟩
    · rw [if_neg h]; exact hu' m hm
  · show ((n : Int) - ((j + 1 : Nat) : Int)).toNat < ((n : Int) - (j : Int)).toNat
    omega

theorem okPage.u8 {pg : List Value} (h : okPage pg) (y : List Value) {n : Nat} (hn : n ≤ 256) : ∀ m, m < n → ∃ x, (pg ++ y)[m]? = some (.int .u8 x) := fun m hm => by
  have hm2 : m < pg.length := by rw [h.1]; omega
  obtain ⟨x, hx⟩ := h.2 pg[m] (List.getElem_mem hm2)
  exact ⟨x, by rw [List.getElem?_append_left hm2, List.getElem?_eq_getElem hm2, hx]⟩

section
variable {h h' : Heap} {c da w u : Nat} {D D' : Dk} {K K' : Ck} {p p' : Pl} {q q' : Cp} {C C' : RCk} {rq rq' : Rq} {E E' : RDk} {rp rp' : Rp} {X Y : List Nat} {t : Nat}

/-- The program's part has acted. -/
theorem progS (rf : Ref h w u C rq E rp (Y ++ cdFoot c da p q)) (cd' : CD h' c da D' K' p' q') (k : Keep h h' (cdFoot c da p q)) (s : ∀ b ∈ cdFoot c da p' q', b ∈ cdFoot c da p q ∨ h.size ≤ b) :
    Ref h' w u C rq E rp (Y ++ cdFoot c da p' q') ∧ Fr h h' (cdFoot c da p q ++ (rq.mut w ++ rp.mut u)) (cdFoot c da p' q' ++ (rq.mut w ++ rp.mut u)) := by
  refine ⟨rf.frame k (fun b hb => .inl (List.mem_append_right _ hb)) (fun b hb => ?_) fun b hb => ?_, (Fr.mk k s).left _⟩
  · rcases List.mem_append.1 hb with hb | hb
    · exact .inl (List.mem_append_left _ hb)
    · exact (s b hb).imp (List.mem_append_right _) id
  · rcases List.mem_append.1 hb with hb | hb
    · exact Nat.lt_of_lt_of_le (rf.old b (List.mem_append_left _ hb)) k.size
    · exact cd'.lt b hb

theorem Ref.off {b : Nat} (rf : Ref h w u C rq E rp X) (hb : b ∈ X) : b ∉ rq.mut w ++ rp.mut u := fun hm => by
  rcases List.mem_append.1 hm with hm | hm
  · exact rf.c.apart b hm (List.mem_append_right _ hb)
  · exact rf.d.apart b hm (List.mem_append_right _ hb)

/-- The reference has acted. -/
theorem refS (cd : CD h c da D K p q) (rf : Ref h w u C rq E rp (Y ++ cdFoot c da p q)) {R' : List Nat} (f : Fr h h' (rq.mut w ++ rp.mut u) R') :
    CD h' c da D K p q ∧ Fr h h' (cdFoot c da p q ++ (rq.mut w ++ rp.mut u)) (cdFoot c da p q ++ R') :=
  ⟨cd.keep f.keep fun _ hb => rf.off (List.mem_append_right _ hb), f.right _⟩

/-- A block of neither has been written to. -/
theorem ownS {b : Nat} (cd : CD h c da D K p q) (rf : Ref h w u C rq E rp ((b :: Y) ++ cdFoot c da p q)) (hb : b ∉ cdFoot c da p q) (k : Keep h h' [b]) : CD h' c da D K p q ∧ Ref h' w u C rq E rp ((b :: Y) ++ cdFoot c da p q) :=
  ⟨cd.keep k fun x hx => by simp only [List.mem_singleton]; rintro rfl; exact hb hx, rf.frame k (fun x hx => .inl (by rw [List.mem_singleton.1 hx]; simp)) (fun _ h => .inl h) fun x hx => Nat.lt_of_lt_of_le (rf.old x hx) k.size⟩

theorem Ref.more {b : Nat} (rf : Ref h w u C rq E rp X) (k : Keep h h' []) (hb : h.size ≤ b) (hlt : b < h'.size) : Ref h' w u C rq E rp (b :: X) :=
  rf.frame k (by simp) (fun x hx => (List.mem_cons.1 hx).elim (fun h => .inr (by omega)) .inl) fun x hx => (List.mem_cons.1 hx).elim (fun h => by omega) fun h => Nat.lt_of_lt_of_le (rf.old x h) k.size

def DoesPost (h h' : Heap) (c da w u t : Nat) (p : Pl) (q : Cp) (rq : Rq) (rp : Rp) : Prop :=
  ∃ D' K' p' q' C' rq' E' rp', CD h' c da D' K' p' q' ∧ Ref h' w u C' rq' E' rp' (cdFoot c da p' q') ∧ Sim D' K' E' C' t ∧ Fr h h' (cdFoot c da p q ++ (rq.mut w ++ rp.mut u)) (cdFoot c da p' q' ++ (rq'.mut w ++ rp'.mut u))

theorem Sim.mono {t' : Nat} (s : Sim D K E C t) (ht : t ≤ t') : Sim D K E C t' := ⟨s.d, s.k.mono ht, s.eight, by have := s.few; omega⟩

theorem dSync2_ok (r : DiskR h da D p) (s : SimD D E) (h8 : D.st.length = 8) (hk : ∀ w ∈ E.W, 0 ≤ w.1) : CallH Tryz.prog 33 ⟨[ptr da]⟩ h fun v h' => ∃ D', v = i64 E.sync.2 ∧ DPost h h' da p D' ∧ SimD D' E.sync.1 ∧ D'.st.length = 8 ∧ D'.ws.length ≤ D.ws.length := by
  obtain ⟨a1, a2, a3⟩ := s.sync hk
  have hsp : D.spend.1.st = D.st ∧ D.spend.1.ws = D.ws := by unfold Dk.spend; split <;> exact ⟨rfl, rfl⟩
  refine (dSync_ok r).mono ?_
  rintro v h' ⟨b1, b2, b3⟩
  by_cases hp : D.pow = 0
  · cases hs : D.spend.2 with
    | false =>
      obtain ⟨rfl, post⟩ := b2 hp hs
      obtain ⟨sd, e⟩ := a2 hp hs
      exact ⟨_, by rw [e], post, sd, by rw [hsp.1]; exact h8, by rw [hsp.2]; exact Nat.le_refl _⟩
    | true =>
      obtain ⟨rfl, post⟩ := b3 hp hs
      obtain ⟨sd, e⟩ := a3 hp hs
      refine ⟨_, by rw [e], post, sd, ?_, by simp [Dk.settle]⟩
      simp only [Dk.settle, Dk.flat, List.length_map, List.length_range, hsp.1]
      exact h8
  · obtain ⟨rfl, rfl⟩ := b1 hp
    obtain ⟨sd, e⟩ := a1 hp
    exact ⟨_, by rw [e], DPost.same r, sd, h8, Nat.le_refl _⟩

end
end Go.Proofs.YtfapgccnhonoiaaGreat

/- The law's function does: Get and Put. -/
namespace Go.Proofs.YtfapgccnhonoiaaGreat

theorem Fr.fresh {h h' h'' : Heap} {A B F : List Nat} (f : Fr h h' A B) (k : Keep h' h'' F) (hF : ∀ b ∈ F, h.size ≤ b) : Fr h h'' A B :=
  ⟨f.keep.trans k fun b hb => .inr (hF b hb), f.sub⟩

theorem Blk.slAt {h : Heap} {b : Nat} {pg : Pg} {x : List Value} (hb : Blk h b (pg ++ x)) (ho : okPage pg) (F : List Nat) (hF : b ∉ F) : SlAt h (some ⟨b, 0, none⟩) 256 pg F :=
  ⟨ho.1, ho.2, .inr ⟨b, 0, rfl, hF, hb.lt, by rw [hb.row (by rw [List.length_append, ho.1]; omega), List.drop_zero, List.take_append_of_le_length (by rw [ho.1]; omega), List.take_of_length_le (by rw [ho.1]; omega)]⟩⟩

theorem Blk.slTake {h : Heap} {b l : Nat} {pg : Pg} (hb : Blk h b pg) (ho : okPage pg) (hl : l ≤ 256) (F : List Nat) (hF : b ∉ F) : SlAt h (some ⟨b, 0, none⟩) l (pg.take l) F :=
  ⟨by rw [List.length_take, ho.1]; omega, fun v hv => ho.2 v (List.mem_of_mem_take hv), .inr ⟨b, 0, rfl, hF, hb.lt, by rw [hb.row (by rw [ho.1]; omega), List.drop_zero]⟩⟩

section
variable {h h' : Heap} {c da w u : Nat} {D D' : Dk} {K K' : Ck} {p p' : Pl} {q q' : Cp} {C C' : RCk} {rq rq' : Rq} {E E' : RDk} {rp rp' : Rp} {X Y : List Nat} {t : Nat}

/-- The program's part has acted; new blocks are kept apart from both. -/
theorem progN {Y' : List Nat} (rf : Ref h w u C rq E rp (Y ++ cdFoot c da p q)) (cd' : CD h' c da D' K' p' q') (k : Keep h h' (cdFoot c da p q)) (s : ∀ b ∈ cdFoot c da p' q', b ∈ cdFoot c da p q ∨ h.size ≤ b) (hY : ∀ b ∈ Y', b ∈ Y ∨ h.size ≤ b) (hlt : ∀ b ∈ Y', b < h'.size) :
    Ref h' w u C rq E rp (Y' ++ cdFoot c da p' q') ∧ Fr h h' (cdFoot c da p q ++ (rq.mut w ++ rp.mut u)) (cdFoot c da p' q' ++ (rq.mut w ++ rp.mut u)) := by
  refine ⟨rf.frame k (fun b hb => .inl (List.mem_append_right _ hb)) (fun b hb => ?_) fun b hb => ?_, (Fr.mk k s).left _⟩
  · rcases List.mem_append.1 hb with hb | hb
    · exact (hY b hb).imp (List.mem_append_left _) id
    · exact (s b hb).imp (List.mem_append_right _) id
  · rcases List.mem_append.1 hb with hb | hb
    · exact hlt b hb
    · exact cd'.lt b hb

theorem Ref.forget {Y : List Nat} (rf : Ref h w u C rq E rp (Y ++ X)) : Ref h w u C rq E rp X := rf.frame (Keep.refl _ []) (by simp) (fun b hb => .inl (List.mem_append_right _ hb)) fun b hb => rf.old b (List.mem_append_right _ hb)

theorem Sim.p0 (s : Sim D K E C t) : ∀ e ∈ K.l, 0 ≤ e.p := fun e he => (s.k.range e he).1

theorem Sim.bounds (s : Sim D K E C t) (ht : t < 10000) : D.ws.length < 1000000 ∧ E.W.length < 900000 ∧ C.L.length < 1000 ∧ E.S.length = 8 := by
  have := s.few
  have := Sim.few8 s.k
  have := s.k.len
  exact ⟨by omega, by rw [s.d.ws]; omega, by omega, by rw [s.d.st]; exact s.eight⟩

def GotS (h h' : Heap) (res : Except Int Pg) (s : Option Addr) (n : Nat) (i : Int) (F : List Nat) : Prop :=
  match res with
  | .error m => s = none ∧ n = 0 ∧ i = m
  | .ok pg => okPage pg ∧ n = 256 ∧ i = 0 ∧ ∃ b x, s = some ⟨b, 0, none⟩ ∧ Blk h' b (pg ++ x) ∧ h.size ≤ b ∧ b ∉ F

/-- Both are asked for a page. -/
theorem bothGet (cd : CD h c da D K p q) (rf : Ref h w u C rq E rp (Y ++ cdFoot c da p q)) (s : Sim D K E C t) (ht : t < 9000) {n1 : Nat} {oD oP oC oN : Int} (hn1 : Blk h n1 [i64 oD, i64 oP, .int .u8 oC, i64 oN]) (hnF : n1 ∉ cdFoot c da p q ++ (rq.mut w ++ rp.mut u))
    (Q : Option Addr → Nat → Nat → Int → Option Addr → Nat → Nat → Int → Heap → Prop)
    (hQ : ∀ res D' K' p' q' C' rq' E' rp' h' p1 n2 n3 i3 p2 n4 n5, GetR D K oP res D' K' → GotS h h' res p1 n2 i3 (cdFoot c da p' q') → GotS h h' res p2 n4 i3 (cdFoot c da p' q' ++ (rq'.mut w ++ rp'.mut u)) → (∀ b ∈ blks p1, b ∉ blks p2) → CD h' c da D' K' p' q' → Ref h' w u C' rq' E' rp' ((blks p1 ++ Y) ++ cdFoot c da p' q') → Sim D' K' E' C' (t + 1) →
      Fr h h' (cdFoot c da p q ++ (rq.mut w ++ rp.mut u)) (cdFoot c da p' q' ++ (rq'.mut w ++ rp'.mut u)) → Q p1 n2 n3 i3 p2 n4 n5 i3 h') :
    ∃ i2, cellAt h ⟨n1, 1, none⟩ = some (i64 i2) ∧ entersB Tryz.prog 18 = true ∧ CallH Tryz.prog 18 ⟨[ptr c, i64 i2]⟩ h fun v1 h1 => ∃ p1 n2 n3 i3, v1 = .tuple ⟨[.slice p1 n2 n3, i64 i3]⟩ ∧
      ∃ i4, cellAt h1 ⟨n1, 1, none⟩ = some (i64 i4) ∧ entersB Tryz.prog 22 = true ∧ CallH Tryz.prog 22 ⟨[ptr w, i64 i4]⟩ h1 fun v2 h2 => ∃ p2 n4 n5 i5, v2 = .tuple ⟨[.slice p2 n4 n5, i64 i5]⟩ ∧ Q p1 n2 n3 i3 p2 n4 n5 i5 h2 := by
  obtain ⟨w1, w2, w3, w4⟩ := s.bounds (by omega)
  have hnC : n1 ∉ cdFoot c da p q := fun hm => hnF (List.mem_append_left _ hm)
  have hnlt := hn1.lt
  refine ⟨_, hn1.cell rfl, by kernel_rfl, (cGet_ok cd s.p0 (by omega) oP).mono ?_⟩
  rintro v1 h1 ⟨res, D1, K1, p1, q1, g1, got1, cd1, k1, s1⟩
  have b1 := hn1.keep k1 hnC
  have hsz1 := k1.size
  have got : ∃ sp n c0 i, v1 = .tuple ⟨[.slice sp n c0, i64 i]⟩ ∧ GotS h h1 res sp n i (cdFoot c da p1 q1) ∧ (∀ b ∈ blks sp, h.size ≤ b ∧ b < h1.size) := by
    cases res with
    | error n => exact ⟨_, _, _, _, got1, ⟨rfl, rfl, rfl⟩, by simp [blks]⟩
    | ok pg =>
      obtain ⟨b, cap, x, rfl, hb, hge, hn, ho⟩ := got1
      exact ⟨_, _, _, _, rfl, ⟨ho, rfl, rfl, b, x, rfl, hb, hge, hn⟩, fun b' hb' => by
        simp only [blks, List.mem_singleton] at hb'
        rw [hb']; exact ⟨hge, hb.lt⟩⟩
  obtain ⟨sp, n, c0, i, rfl, gs, hsp⟩ := got
  obtain ⟨rf1, f1⟩ := progN (Y' := blks sp ++ Y) rf cd1 k1 s1 (fun b hb => (List.mem_append.1 hb).elim (fun h => .inr (hsp b h).1) .inl) fun b hb => (List.mem_append.1 hb).elim (fun h => (hsp b h).2) fun h => Nat.lt_of_lt_of_le (rf.old b (List.mem_append_left _ h)) hsz1
  refine ⟨_, _, _, _, rfl, _, b1.cell rfl, by kernel_rfl, (rcGet_ok rf1 (by omega) w3 oP).mono ?_⟩
  rintro v2 h2 ⟨res', C2, E2, rq2, rp2, r2, told2, rf2, f2⟩
  obtain ⟨rfl, s2⟩ := s.get (by omega) g1 r2
  obtain ⟨cd2, f2'⟩ := refS cd1 rf1 f2
  have gs2 : GotS h h2 res' sp n i (cdFoot c da p1 q1) := by
    cases res' with
    | error n => exact gs
    | ok pg =>
      obtain ⟨ho, h3, h4, b, x, rfl, hb, hge, hn⟩ := gs
      exact ⟨ho, h3, h4, b, x, rfl, hb.keep f2.keep (rf1.off (by simp [blks])), hge, hn⟩
  cases res' with
  | error n =>
    obtain rfl := told2
    obtain ⟨rfl, rfl, rfl⟩ := gs2
    exact ⟨_, _, _, _, rfl, hQ _ _ _ _ _ _ _ _ _ _ _ _ _ _ _ _ _ g1 ⟨rfl, rfl, rfl⟩ ⟨rfl, rfl, rfl⟩ (by simp [blks]) cd2 rf2 s2 (f1.trans f2')⟩
  | ok pg =>
    obtain ⟨ho, b, cap, x, rfl, hb, hge, hnb⟩ := told2
    have hi : i = 0 := gs2.2.2.1
    subst hi
    refine ⟨_, _, _, _, rfl, hQ _ _ _ _ _ _ _ _ _ _ _ _ _ _ _ _ _ g1 gs2 ⟨ho, rfl, rfl, b, x, rfl, hb, by omega, fun hm => (List.mem_append.1 hm).elim (fun h => by have := cd1.lt b h; omega) hnb⟩ (fun b' hb' hm => ?_) cd2 rf2 s2 (f1.trans f2')⟩
    simp only [blks, List.mem_singleton] at hm
    have := (hsp b' hb').2
    omega

theorem getBoth (cd : CD h c da D K p q) (rf : Ref h w u C rq E rp (cdFoot c da p q)) (s : Sim D K E C t) (ht : t < 8000) {n1 : Nat} {oD oP oC oN : Int} (hn1 : Blk h n1 [i64 oD, i64 oP, .int .u8 oC, i64 oN]) (hnF : n1 ∉ cdFoot c da p q ++ (rq.mut w ++ rp.mut u))
    (P : Value → Heap → Prop) (hP : ∀ h', DoesPost h h' c da w u (t + 2) p q rq rp → P (.bool true) h') :
    ∃ i2, cellAt h ⟨n1, 1, none⟩ = some (i64 i2) ∧ entersB Tryz.prog 18 = true ∧ CallH Tryz.prog 18 ⟨[ptr c, i64 i2]⟩ h fun v1 h1 => ∃ p1 n2 n3 i3, v1 = .tuple ⟨[.slice p1 n2 n3, i64 i3]⟩ ∧
      ∃ i4, cellAt h1 ⟨n1, 1, none⟩ = some (i64 i4) ∧ entersB Tryz.prog 22 = true ∧ CallH Tryz.prog 22 ⟨[ptr w, i64 i4]⟩ h1 fun v2 h2 => ∃ p2 n4 n5 i5, v2 = .tuple ⟨[.slice p2 n4 n5, i64 i5]⟩ ∧
        ∃ (I1 : Int → Heap → Prop) (M1 : Int → Heap → Nat), I1 0 h2 ∧ ∀ i6 h3, I1 i6 h3 →
          (decide (i6 < (n2 : Int)) = true → match p1 with
            | some a1 => (0 ≤ i6 ∧ i6 < (n2 : Int)) ∧ ∃ i7, cellAt h3 (a1.add (i6.toNat * 1)) = some (.int .u8 i7) ∧ match p1 with
              | some a2 => (0 ≤ i6 ∧ i6 < (n2 : Int)) ∧ true = true ∧ okAt h3 (a2.add (i6.toNat * 1)) ∧ ∀ h4, h4 = upd h3 (a2.add (i6.toNat * 1)) (.int .u8 (bitsI .xor .u8 i7 255)) → I1 (IntKind.wrap .i64 (i6 + 1)) h4 ∧ M1 (IntKind.wrap .i64 (i6 + 1)) h4 < M1 i6 h3
              | none => False
            | none => False) ∧
          (decide (i6 < (n2 : Int)) = false → ∃ i8, cellAt h3 ⟨n1, 1, none⟩ = some (i64 i8) ∧ entersB Tryz.prog 18 = true ∧ CallH Tryz.prog 18 ⟨[ptr c, i64 i8]⟩ h3 fun v3 h5 => ∃ p4 n6 n7 i9, v3 = .tuple ⟨[.slice p4 n6 n7, i64 i9]⟩ ∧
            ∃ i10, cellAt h5 ⟨n1, 1, none⟩ = some (i64 i10) ∧ entersB Tryz.prog 22 = true ∧ CallH Tryz.prog 22 ⟨[ptr w, i64 i10]⟩ h5 fun v4 h6 => ∃ p5 n8 n9 i11, v4 = .tuple ⟨[.slice p5 n8 n9, i64 i11]⟩ ∧
              ((i3 == i5) = true → ((i9 == i11) = true → (((n2 : Int) == (n4 : Int)) = true → ((i9 != 0) = true → P (.bool true) h6) ∧ ((i9 != 0) = false → entersB Tryz.prog 15 = true ∧ CallH Tryz.prog 15 ⟨[.slice p4 n6 n7, .slice p2 n4 n5]⟩ h6 fun v5 h7 => ∃ t1, v5 = .bool t1 ∧ P (.bool t1) h7)) ∧
                (((n2 : Int) == (n4 : Int)) = false → P (.bool false) h6)) ∧ ((i9 == i11) = false → P (.bool false) h6)) ∧ ((i3 == i5) = false → P (.bool false) h6)) := by
  refine bothGet (Y := []) cd rf s (by omega) hn1 hnF (fun p1 n2 n3 i3 p2 n4 n5 i5 h2 => _) fun res D1 K1 p1' q1 C1 rq1 E1 rp1 h2 p1 n2 n3 i3 p2 n4 n5 g1 got1 got2 hdis cd1 rf1 s1 f1 => ?_
  have hnb : Blk h2 n1 [i64 oD, i64 oP, .int .u8 oC, i64 oN] := hn1.keep f1.keep hnF
  have hnF1 := f1.off hn1.lt hnF
  -- what follows the loop
  have rest : ∀ h3, Keep h2 h3 (blks p1) → ∃ i8, cellAt h3 ⟨n1, 1, none⟩ = some (i64 i8) ∧ entersB Tryz.prog 18 = true ∧ CallH Tryz.prog 18 ⟨[ptr c, i64 i8]⟩ h3 fun v3 h5 => ∃ p4 n6 n7 i9, v3 = .tuple ⟨[.slice p4 n6 n7, i64 i9]⟩ ∧
            ∃ i10, cellAt h5 ⟨n1, 1, none⟩ = some (i64 i10) ∧ entersB Tryz.prog 22 = true ∧ CallH Tryz.prog 22 ⟨[ptr w, i64 i10]⟩ h5 fun v4 h6 => ∃ p5 n8 n9 i11, v4 = .tuple ⟨[.slice p5 n8 n9, i64 i11]⟩ ∧
              ((i3 == i3) = true → ((i9 == i11) = true → (((n2 : Int) == (n4 : Int)) = true → ((i9 != 0) = true → P (.bool true) h6) ∧ ((i9 != 0) = false → entersB Tryz.prog 15 = true ∧ CallH Tryz.prog 15 ⟨[.slice p4 n6 n7, .slice p2 n4 n5]⟩ h6 fun v5 h7 => ∃ t1, v5 = .bool t1 ∧ P (.bool t1) h7)) ∧
                (((n2 : Int) == (n4 : Int)) = false → P (.bool false) h6)) ∧ ((i9 == i11) = false → P (.bool false) h6)) ∧ ((i3 == i3) = false → P (.bool false) h6) := by
    intro h3 k3
    have hpc : ∀ b ∈ blks p1, b ∉ cdFoot c da p1' q1 ∧ h.size ≤ b := by
      cases res with
      | error m => obtain ⟨rfl, _⟩ := got1; simp [blks]
      | ok pg =>
        obtain ⟨_, _, _, b, x, rfl, _, hge, hn⟩ := got1
        intro b' hb'
        simp only [blks, List.mem_singleton] at hb'
        rw [hb']; exact ⟨hn, hge⟩
    have cd3 : CD h3 c da D1 K1 p1' q1 := cd1.keep k3 fun b hb hm => (hpc b hm).1 hb
    have rf3 : Ref h3 w u C1 rq1 E1 rp1 ((blks p1 ++ []) ++ cdFoot c da p1' q1) := rf1.frame k3 (fun b hb => .inl (by simp [hb])) (fun _ h => .inl h) fun b hb => Nat.lt_of_lt_of_le (rf1.old b hb) k3.size
    have f3 : Fr h h3 (cdFoot c da p q ++ (rq.mut w ++ rp.mut u)) (cdFoot c da p1' q1 ++ (rq1.mut w ++ rp1.mut u)) := f1.fresh k3 fun b hb => (hpc b hb).2
    have hn3 : Blk h3 n1 [i64 oD, i64 oP, .int .u8 oC, i64 oN] := hnb.keep k3 fun hm => by have := (hpc n1 hm).2; have := hn1.lt; omega
    have hsz := k3.size
    refine bothGet cd3 rf3 s1 (by omega) hn3 hnF1 (fun p4 n6 n7 i9 p5 n8 n9 i11 h6 => _) fun res2 D2 K2 p2' q2 C2 rq2 E2 rp2 h6 p4 n6 n7 i9 p5 n8 n9 g2 got3 got4 hdis2 cd2 rf2 s2 f2 => ?_
    have post : ∀ h7, Keep h6 h7 [] → DoesPost h h7 c da w u (t + 2) p q rq rp := fun h7 k7 =>
      ⟨D2, K2, p2', q2, C2, rq2, E2, rp2, cd2.keep k7 (by simp), (Ref.forget rf2).beside k7, s2, (f3.trans f2).beside k7⟩
    refine ⟨fun _ => ⟨fun _ => ⟨fun _ => ⟨fun _ => hP h6 (post h6 (Keep.refl _ _)), fun t0 => ⟨by kernel_rfl, ?_⟩⟩, fun t0 => ?_⟩, fun t0 => absurd t0 (by simp)⟩, fun t0 => absurd t0 (by simp)⟩
    · have hi9 : i9 = 0 := by simpa using t0
      obtain ⟨a1, a2⟩ := GetR.again s g1 g2
      cases res with
      | error m =>
        obtain ⟨_, m', rfl, hm'⟩ := a2 m rfl
        obtain ⟨_, _, rfl⟩ := got3
        exact absurd hi9 hm'
      | ok pg =>
        have := a1 pg rfl
        subst this
        obtain ⟨ho, rfl, _, b2, x2, rfl, hb2, hge2, hnb2⟩ := got2
        obtain ⟨_, rfl, _, b4, x4, rfl, hb4, hge4, hnb4⟩ := got3
        have hb2' : Blk h6 b2 (pg ++ x2) := by
          have h1 : Blk h3 b2 (pg ++ x2) := hb2.keep k3 fun hm => hdis b2 hm (by simp [blks])
          exact h1.keep f2.keep hnb2
        refine (rSame_ok (hb4.slAt ho [] (by simp)) (hb2'.slAt ho [] (by simp)) n7 n5 (by omega)).mono ?_
        rintro _ h7 ⟨t1, rfl, ht1, rfl⟩
        have : t1 = true := ht1.2 rfl
        subst this
        exact ⟨true, rfl, hP _ (post _ (Keep.refl _ _))⟩
    · exfalso
      have : n2 = n4 := by
        cases res with
        | error m => obtain ⟨_, rfl, _⟩ := got1; obtain ⟨_, rfl, _⟩ := got2; rfl
        | ok pg => obtain ⟨_, rfl, _⟩ := got1; obtain ⟨_, rfl, _⟩ := got2; rfl
      rw [this] at t0
      simp at t0
  cases res with
  | error m =>
    obtain ⟨rfl, rfl, _⟩ := got1
    refine ⟨fun i hh => i = 0 ∧ hh = h2, fun _ _ => 0, ⟨rfl, rfl⟩, ?_⟩
    rintro i6 h3 ⟨rfl, rfl⟩
    exact ⟨fun e => absurd e (by decide), fun _ => rest _ (Keep.refl _ _)⟩
  | ok pg =>
    obtain ⟨ho, rfl, _, b1, x1, rfl, hb1, _, _⟩ := got1
    exact xor_loop hb1 (by rw [List.length_append, ho.1]; omega) (by omega) (ho.u8 x1 (Nat.le_refl _)) _ fun hh kk => rest hh kk

end
end Go.Proofs.YtfapgccnhonoiaaGreat

/- The law's function does. -/
namespace Go.Proofs.YtfapgccnhonoiaaGreat

section
variable {h0 h h' : Heap} {c da w u : Nat} {D D' : Dk} {K K' : Ck} {p p' : Pl} {q q' : Cp} {C C' : RCk} {rq rq' : Rq} {E E' : RDk} {rp rp' : Rp} {X Y : List Nat} {t : Nat}

theorem DoesPost.pre (k : Keep h0 h []) (x : DoesPost h h' c da w u t p q rq rp) : DoesPost h0 h' c da w u t p q rq rp := by
  obtain ⟨D', K', p', q', C', rq', E', rp', a, b, s, f⟩ := x
  exact ⟨D', K', p', q', C', rq', E', rp', a, b, s, ⟨(k.mono (by simp)).trans' f.keep, fun b hb => (f.sub b hb).imp id fun h => Nat.le_trans k.size h⟩⟩

theorem putBoth (cd : CD h c da D K p q) {b6 : Nat} (rf : Ref h w u C rq E rp ([b6] ++ cdFoot c da p q)) (s : Sim D K E C t) (ht : t < 8000) {n1 : Nat} {oD oP oC oN : Int} (hn1 : Blk h n1 [i64 oD, i64 oP, .int .u8 oC, i64 oN]) (hnF : n1 ∉ cdFoot c da p q ++ (rq.mut w ++ rp.mut u))
    {cc : Int} (hb6 : Blk h b6 (bytePg cc)) (hbF : b6 ∉ cdFoot c da p q) {l : Nat} (hl : l ≤ 256) (P : Value → Heap → Prop) (hP : ∀ h', (∀ g, Keep g h [] → (∀ b ∈ [b6], g.size ≤ b) → DoesPost g h' c da w u (t + 2) p q rq rp) → P (.bool true) h') :
    ∃ i14, cellAt h ⟨n1, 1, none⟩ = some (i64 i14) ∧ entersB Tryz.prog 16 = true ∧ CallH Tryz.prog 16 ⟨[ptr c, i64 i14, .slice (some ⟨b6, 0, none⟩) l 256]⟩ h fun v7 h9 => ∃ i15, v7 = i64 i15 ∧
      ∃ i16, cellAt h9 ⟨n1, 1, none⟩ = some (i64 i16) ∧ entersB Tryz.prog 23 = true ∧ CallH Tryz.prog 23 ⟨[ptr w, i64 i16, .slice (some ⟨b6, 0, none⟩) l 256]⟩ h9 fun v8 h10 => ∃ i17, v8 = i64 i17 ∧
        ∃ (I2 : Int → Heap → Prop) (M2 : Int → Heap → Nat), I2 0 h10 ∧ ∀ i18 h11, I2 i18 h11 →
          (decide (i18 < (l : Int)) = true → (0 ≤ i18 ∧ i18 < (l : Int)) ∧ ∃ i19, cellAt h11 (Addr.add ⟨b6, 0, none⟩ (i18.toNat * 1)) = some (.int .u8 i19) ∧ (0 ≤ i18 ∧ i18 < (l : Int)) ∧ true = true ∧ okAt h11 (Addr.add ⟨b6, 0, none⟩ (i18.toNat * 1)) ∧
            ∀ h12, h12 = upd h11 (Addr.add ⟨b6, 0, none⟩ (i18.toNat * 1)) (.int .u8 (bitsI .xor .u8 i19 255)) → I2 (IntKind.wrap .i64 (i18 + 1)) h12 ∧ M2 (IntKind.wrap .i64 (i18 + 1)) h12 < M2 i18 h11) ∧
          (decide (i18 < (l : Int)) = false → P (.bool (i15 == i17)) h11) := by
  obtain ⟨w1, w2, w3, w4⟩ := s.bounds (by omega)
  have hnC : n1 ∉ cdFoot c da p q := fun hm => hnF (List.mem_append_left _ hm)
  have ho := bytePg_ok cc
  refine ⟨_, hn1.cell rfl, by kernel_rfl, (cPut_ok cd s.p0 (by omega) oP _ l 256 _ (hb6.slTake ho hl _ hbF)).mono ?_⟩
  rintro v1 h1 ⟨n, D1, K1, rfl, g1, p1, q1, cd1, k1, s1⟩
  have b1 := hn1.keep k1 hnC
  have hb61 := hb6.keep k1 hbF
  have hb6lt := hb6.lt
  have hsz1 := k1.size
  have hbF1 : b6 ∉ cdFoot c da p1 q1 := fun hm => (s1 b6 hm).elim hbF fun h => by omega
  obtain ⟨rf1, f1⟩ := progS (Y := [b6]) rf cd1 k1 s1
  refine ⟨_, rfl, _, b1.cell rfl, by kernel_rfl, (rcPut_ok rf1 (by omega) w3 oP (hb61.slTake ho hl _ (rf1.off (by simp)))).mono ?_⟩
  rintro v2 h2 ⟨n', C2, E2, r2, rfl, rq2, rp2, rf2, f2⟩
  obtain ⟨rfl, s2⟩ := s.put (by omega) g1 r2
  obtain ⟨cd2, f2'⟩ := refS cd1 rf1 f2
  have hb62 := hb61.keep f2.keep (rf1.off (by simp))
  refine ⟨_, rfl, xor_loop hb62 (by rw [ho.1]; exact hl) (by omega) (fun m hm => by simpa using ho.u8 [] hl m hm) _ fun hh kk => ?_⟩
  have : (n' == n') = true := by simp
  rw [this]
  obtain ⟨cd3, rf3⟩ := ownS (Y := []) cd2 rf2 hbF1 kk
  exact hP hh fun g kg hg => ⟨D1, K1, p1, q1, C2, rq2, E2, rp2, cd3, Ref.forget (Y := [b6]) rf3, s2.mono (by omega), Fr.fresh ⟨(kg.mono (by simp)).trans' (f1.trans f2').keep, fun b hb => ((f1.trans f2').sub b hb).imp id fun h => Nat.le_trans kg.size h⟩ kk hg⟩

theorem does_ok (cd : CD h c da D K p q) (rf : Ref h w u C rq E rp (cdFoot c da p q)) (s : Sim D K E C t) (ht : t < 8000) (oD oP oC oN : Int) (hC : 0 ≤ oC ∧ oC < 256) (hN : oN < 9223372036854775808) :
    CallH Tryz.prog 9 ⟨[ptr c, ptr da, ptr w, .agg ⟨[i64 oD, i64 oP, .int .u8 oC, i64 oN]⟩]⟩ h fun v h' => v = .bool true ∧ DoesPost h h' c da w u (t + 2) p q rq rp := by
  suffices key : ∀ R : Value → Heap → Prop, (∀ h', DoesPost h h' c da w u (t + 2) p q rq rp → R (.bool true) h') → CallH Tryz.prog 9 ⟨[ptr c, ptr da, ptr w, .agg ⟨[i64 oD, i64 oP, .int .u8 oC, i64 oN]⟩]⟩ h R from key _ fun h' x => ⟨rfl, x⟩
  intro R hR
  refine does_call c da w oD oP oC oN fun n1 h1 hn1 hh1 => ?_
  have k1 : Keep h h1 [] := by rw [hh1]; exact Keep.push _ _ _
  have b1 : Blk h1 n1 [i64 oD, i64 oP, .int .u8 oC, i64 oN] := by rw [hh1, hn1]; exact Blk.new _ _ _
  have hsz1 := k1.size
  have hnF : n1 ∉ cdFoot c da p q ++ (rq.mut w ++ rp.mut u) := fun hm => by
    rcases List.mem_append.1 hm with hm | hm
    · have := cd.lt n1 hm; omega
    · rcases List.mem_append.1 hm with hm | hm
      · have := rf.c.lt n1 hm; omega
      · have := rf.d.lt n1 hm; omega
  have hnC : n1 ∉ cdFoot c da p q := fun hm => hnF (List.mem_append_left _ hm)
  have cd1 : CD h1 c da D K p q := cd.keep k1 (by simp)
  have rf1 : Ref h1 w u C rq E rp (cdFoot c da p q) := rf.beside k1
  obtain ⟨w1, w2, w3, w4⟩ := s.bounds (by omega)
  have hf8 := Sim.few8 s.k
  have hwk : ∀ x ∈ E.W, 0 ≤ x.1 ∧ x.1 < E.S.length := rf.d.keys
  -- when the program's cache has acted, and the reference's
  have fin : ∀ {h2 h3 D2 K2 p2 q2 C3 rq3 E3 rp3} (cd2 : CD h2 c da D2 K2 p2 q2) (rf2 : Ref h2 w u C rq E rp ([] ++ cdFoot c da p2 q2)) (f2 : Fr h1 h2 (cdFoot c da p q ++ (rq.mut w ++ rp.mut u)) (cdFoot c da p2 q2 ++ (rq.mut w ++ rp.mut u)))
      (_ : Ref h3 w u C3 rq3 E3 rp3 ([] ++ cdFoot c da p2 q2)) (_ : Fr h2 h3 (rq.mut w ++ rp.mut u) (rq3.mut w ++ rp3.mut u)), Sim D2 K2 E3 C3 (t + 2) → R (.bool true) h3 := fun {h2 h3 D2 K2 p2 q2 C3 rq3 E3 rp3} cd2 rf2 f2 rf3 f3 s3 => by
    obtain ⟨cd3, f3'⟩ := refS cd2 rf2 f3
    exact hR _ (DoesPost.pre k1 ⟨_, _, _, _, _, _, _, _, cd3, rf3, s3, f2.trans f3'⟩)
  refine ⟨_, b1.cell rfl, fun _ => getBoth cd1 rf1 s (by omega) b1 hnF R fun h' x => hR h' (x.pre k1), fun _ => ⟨fun _ => ?_, fun _ => ⟨fun _ => ?_, fun _ => ⟨fun _ => ?_, fun _ => ⟨fun _ => ?_, fun _ => ⟨fun _ => ?_, fun _ => ⟨fun _ => ?_, fun _ => ⟨fun _ => ?_, fun _ => ⟨fun _ => ?_, fun _ => ⟨fun _ => ?_, fun _ => ?_⟩⟩⟩⟩⟩⟩⟩⟩⟩⟩
  · -- Put
    refine ⟨_, b1.cell rfl, by kernel_rfl, (pg_ok h1 oC).mono ?_⟩
    rintro _ h2 ⟨b6, rfl, hb6, hge, k2⟩
    have cd2 : CD h2 c da D K p q := cd1.keep k2 (by simp)
    have rf2 : Ref h2 w u C rq E rp ([b6] ++ cdFoot c da p q) := rf1.more k2 hge hb6.lt
    have b2 := b1.keep k2 (by simp)
    have hbF : b6 ∉ cdFoot c da p q := fun hm => by have := cd1.lt b6 hm; omega
    have hgo : ∀ h', (∀ g, Keep g h2 [] → (∀ b ∈ [b6], g.size ≤ b) → DoesPost g h' c da w u (t + 2) p q rq rp) → R (.bool true) h' := fun h' x => hR h' (x h (k1.trans' k2) (by simp; omega))
    refine ⟨_, _, _, rfl, _, b2.cell rfl, fun _ => ⟨⟨by omega, by omega⟩, putBoth cd2 rf2 s (by omega) b2 hnF hb6 hbF (l := 255) (by omega) R hgo⟩, fun _ => putBoth cd2 rf2 s (by omega) b2 hnF hb6 hbF (l := 256) (by omega) R hgo⟩
  · -- Pin
    refine ⟨_, b1.cell rfl, _, b1.cell rfl, by kernel_rfl, (cPin_ok cd1.ck oP).mono ?_⟩
    rintro _ h2 ⟨rfl, post⟩
    obtain ⟨p2, q2, cd2, k2, s2⟩ := cd1.cache post
    obtain ⟨rf2, f2⟩ := progS (Y := []) rf1 cd2 k2 s2
    refine ⟨_, rfl, ⟨_, (b1.keep k2 hnC).cell rfl, rfl⟩, by kernel_rfl, (rcPin_ok rf2 oP).mono ?_⟩
    rintro _ h3 ⟨n, C3, rfl, hr, rq3, rp3, rf3, f3⟩
    obtain ⟨rfl, sk⟩ := s.k.pin (by omega) hr
    refine ⟨_, rfl, ?_⟩
    rw [show ((K.pin oP).2 == (K.pin oP).2) = true by simp]
    exact fin cd2 rf2 f2 rf3 f3 ⟨s.d, sk.mono (by omega), s.eight, by have := s.few; omega⟩
  · -- Unpin
    refine ⟨_, b1.cell rfl, _, b1.cell rfl, by kernel_rfl, (cUnpin_ok cd1.ck oP).mono ?_⟩
    rintro _ h2 ⟨rfl, post⟩
    obtain ⟨p2, q2, cd2, k2, s2⟩ := cd1.cache post
    obtain ⟨rf2, f2⟩ := progS (Y := []) rf1 cd2 k2 s2
    refine ⟨_, rfl, ⟨_, (b1.keep k2 hnC).cell rfl, rfl⟩, by kernel_rfl, (rcUnpin_ok rf2 oP).mono ?_⟩
    rintro _ h3 ⟨n, C3, rfl, hr, rq3, rp3, rf3, f3⟩
    obtain ⟨rfl, sk⟩ := s.k.unpin (by omega) hr
    refine ⟨_, rfl, ?_⟩
    rw [show ((K.unpin oP).2 == (K.unpin oP).2) = true by simp]
    exact fin cd2 rf2 f2 rf3 f3 ⟨s.d, sk.mono (by omega), s.eight, by have := s.few; omega⟩
  · -- Forget
    refine ⟨_, b1.cell rfl, _, b1.cell rfl, by kernel_rfl, (cForget_ok cd1.ck oP).mono ?_⟩
    rintro _ h2 ⟨rfl, post⟩
    obtain ⟨p2, q2, cd2, k2, s2⟩ := cd1.cache post
    obtain ⟨rf2, f2⟩ := progS (Y := []) rf1 cd2 k2 s2
    refine ⟨_, rfl, ⟨_, (b1.keep k2 hnC).cell rfl, rfl⟩, by kernel_rfl, (rcForget_ok rf2 oP).mono ?_⟩
    rintro _ h3 ⟨n, C3, rfl, hr, rq3, rp3, rf3, f3⟩
    obtain ⟨rfl, sk⟩ := s.k.forget hr
    refine ⟨_, rfl, ?_⟩
    rw [show ((K.forget oP).2 == (K.forget oP).2) = true by simp]
    exact fin cd2 rf2 f2 rf3 f3 ⟨s.d, sk.mono (by omega), s.eight, by have := s.few; omega⟩
  · -- Flush
    refine ⟨by kernel_rfl, (cFlush_ok cd1 (by omega) (by have := s.few; omega)).mono ?_⟩
    rintro _ h2 ⟨L, D2, K2, n, rfl, hp, hs, hfl, p2, q2, cd2, k2, s2⟩
    obtain ⟨rf2, f2⟩ := progS (Y := []) rf1 cd2 k2 s2
    refine ⟨_, rfl, by kernel_rfl, (rcFlush_ok rf2 (by omega)).mono ?_⟩
    rintro _ h3 ⟨rfl, rq3, rp3, rf3, f3⟩
    obtain ⟨e, s3⟩ := s.flush hp hs hfl
    refine ⟨_, rfl, ?_⟩
    rw [e, show (n == n) = true by simp]
    exact fin cd2 rf2 f2 rf3 f3 (s3.mono (by omega))
  · -- Drop
    refine ⟨by kernel_rfl, (cDrop_ok cd1.ck).mono ?_⟩
    rintro _ h2 ⟨rfl, post⟩
    obtain ⟨p2, q2, cd2, k2, s2⟩ := cd1.cache post
    obtain ⟨rf2, f2⟩ := progS (Y := []) rf1 cd2 k2 s2
    refine ⟨rfl, rfl, rf2.c.blk.ok (by simp), fun h3 hh3 => ?_⟩
    have post := rf2.ofPost (rf2.c.clear hh3)
    obtain ⟨rq3, rp3, rf3, f3⟩ := post
    exact fin cd2 rf2 f2 rf3 f3 ⟨s.d, s.k.drop.mono (by omega), s.eight, by have := s.few; omega⟩
  · -- Sync
    refine ⟨_, rf1.c.blk.cell rfl, by kernel_rfl, (dSync2_ok cd1.dk s.d s.eight fun x hx => (hwk x hx).1).mono ?_⟩
    rintro _ h2 ⟨D2, rfl, post, sd, h8, hws⟩
    obtain ⟨p2, q2, cd2, k2, s2⟩ := cd1.disk post
    obtain ⟨rf2, f2⟩ := progS (Y := []) rf1 cd2 k2 s2
    refine ⟨_, rfl, ⟨_, rf2.c.blk.cell rfl, rfl⟩, by kernel_rfl, (rdSync_ok rf2.d).mono ?_⟩
    rintro _ h3 ⟨rfl, rp3, rd3, f3⟩
    obtain ⟨rf3, f3⟩ := rf2.ofD rd3 f3
    refine ⟨_, rfl, ?_⟩
    rw [show (E.sync.2 == E.sync.2) = true by simp]
    exact fin cd2 rf2 f2 rf3 f3 ⟨sd, s.k.mono (by omega), h8, by have := s.few; omega⟩
  · -- Arm
    refine ⟨_, b1.cell rfl, _, rf1.c.blk.cell rfl, _, b1.cell rfl, by kernel_rfl, (dArm_ok cd1.dk oN).mono ?_⟩
    rintro _ h2 ⟨rfl, post⟩
    obtain ⟨p2, q2, cd2, k2, s2⟩ := cd1.disk post
    obtain ⟨rf2, f2⟩ := progS (Y := []) rf1 cd2 k2 s2
    refine ⟨_, rfl, ⟨_, (b1.keep k2 hnC).cell rfl, rfl⟩, ⟨_, rf2.c.blk.cell rfl, rfl⟩, by kernel_rfl, (rdArm_ok rf2.d oN).mono ?_⟩
    rintro _ h3 ⟨rfl, rp3, rd3, f3⟩
    obtain ⟨rf3, f3⟩ := rf2.ofD rd3 f3
    obtain ⟨sd, e⟩ := s.d.arm hN
    have hst : (D.arm oN).1.st = D.st ∧ (D.arm oN).1.ws = D.ws := by
      unfold Dk.arm
      split
      · exact ⟨rfl, rfl⟩
      · split <;> exact ⟨rfl, rfl⟩
    refine ⟨_, rfl, ?_⟩
    rw [e, show ((D.arm oN).2 == (D.arm oN).2) = true by simp]
    exact fin cd2 rf2 f2 rf3 f3 ⟨sd, s.k.mono (by omega), by rw [hst.1]; exact s.eight, by rw [hst.2]; have := s.few; omega⟩
  · -- Crash
    have hpk : ∀ x ∈ [oC, IntKind.wrap .u8 oN], 0 ≤ x ∧ x < 256 := fun x hx => by
      simp only [List.mem_cons, List.not_mem_nil, or_false] at hx
      rcases hx with rfl | rfl
      · exact hC
      · exact wrap8 oN
    refine ⟨_, rf1.c.blk.cell rfl, _, b1.cell rfl, _, b1.cell rfl, ⟨rfl, rfl, trivial⟩, fun n12 h2 hn12 hh2 => ?_⟩
    have k2 : Keep h1 h2 [] := by rw [hh2]; exact Keep.push _ _ _
    have sl : ∀ {g g' : Heap} {n : Nat} {F : List Nat}, n = g.size → g' = g.push (.cells ⟨[.int .u8 oC, .int .u8 (IntKind.wrap .u8 oN)]⟩ 5 (0, 0)) → (∀ b ∈ F, b < g.size) → SlAt g' (some ⟨n, 0, none⟩) 2 (u8s [oC, IntKind.wrap .u8 oN]) F := fun {g g' n F} hn hg hF => by
      have hb : Blk g' n [.int .u8 oC, .int .u8 (IntKind.wrap .u8 oN)] := by rw [hg, hn]; exact Blk.new _ _ _
      refine ⟨rfl, fun v hv => ?_, .inr ⟨n, 0, rfl, fun hm => by have := hF n hm; omega, hb.lt, by rw [hb.row (by simp)]; rfl⟩⟩
      simp only [u8s, List.map_cons, List.map_nil, List.mem_cons, List.not_mem_nil, or_false] at hv
      rcases hv with rfl | rfl
      · exact ⟨_, rfl⟩
      · exact ⟨_, rfl⟩
    have rf2 := rf1.beside k2
    have b2 := b1.keep k2 (by simp)
    have cd2 : CD h2 c da D K p q := cd1.keep k2 (by simp)
    refine ⟨⟨_, rf2.c.blk.cell rfl, rfl⟩, by kernel_rfl, (rdCrash_ok rf2.d rf2.hd (sl hn12 hh2 fun b hb => rf1.d.lt b hb) hpk (by omega)).mono ?_⟩
    rintro _ h3 ⟨rfl, rp3, rd3, f3⟩
    obtain ⟨rf3, f3⟩ := rf2.ofD rd3 f3
    obtain ⟨cd3, f3'⟩ := refS (Y := []) cd2 rf2 f3
    have hnF2 : n1 ∉ rq.mut w ++ rp.mut u := fun hm => hnF (List.mem_append_right _ hm)
    have b3 := b2.keep f3.keep hnF2
    refine ⟨rfl, _, b3.cell rfl, _, b3.cell rfl, ⟨rfl, rfl, trivial⟩, fun n13 h4 hn13 hh4 => ?_⟩
    have k4 : Keep h3 h4 [] := by rw [hh4]; exact Keep.push _ _ _
    have cd4 : CD h4 c da D K p q := cd3.keep k4 (by simp)
    refine ⟨by kernel_rfl, (dCrash_ok cd4.dk (fun x hx => ?_) (sl hn13 hh4 fun b hb => cd3.dk.lt b hb) hpk).mono ?_⟩
    · rw [← s.d.ws] at hx
      have := hwk x hx
      rw [s.d.st] at this
      exact this
    rintro _ h5 ⟨rfl, post⟩
    obtain ⟨p5, q5, cd5, k5, s5⟩ := cd4.disk post
    obtain ⟨rf5, f5⟩ := progS (Y := []) (rf3.beside k4) cd5 k5 s5
    refine ⟨0, rfl, ?_⟩
    have f14 : Fr h1 h4 (cdFoot c da p q ++ (rq.mut w ++ rp.mut u)) (cdFoot c da p q ++ (rq.mut w ++ rp3.mut u)) := by
      have : Fr h1 h2 (cdFoot c da p q ++ (rq.mut w ++ rp.mut u)) (cdFoot c da p q ++ (rq.mut w ++ rp.mut u)) := ⟨k2.mono (by simp), fun _ hb => .inl hb⟩
      exact (this.trans f3').beside k4
    refine hR _ (DoesPost.pre k1 ⟨_, _, _, _, _, _, _, _, cd5, rf5, ⟨s.d.crash _, s.k.mono (by omega), ?_, ?_⟩, f14.trans f5⟩)
    · simp only [Dk.crash, crashAll_len]; exact s.eight
    · simp [Dk.crash]
  · exact hR _ (DoesPost.pre k1 ⟨D, K, p, q, C, rq, E, rp, cd1, rf1, s.mono (by omega), Keep.refl _ _, fun _ hb => .inl hb⟩)

end
end Go.Proofs.YtfapgccnhonoiaaGreat

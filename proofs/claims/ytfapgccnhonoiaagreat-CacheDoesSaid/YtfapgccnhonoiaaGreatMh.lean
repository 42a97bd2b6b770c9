/- The conditions of the reference's functions, as text; what each function of the reference's disk does; no condition beyond those each theorem states. -/
import Derived.Test.YtfapgccnhonoiaaGreatMg

/- The conditions of some functions of the program, as text (printed by a tool of this claim's author, wip/tool), and that they are enough for a call. -/
set_option linter.unusedVariables false
namespace Go.Proofs.YtfapgccnhonoiaaGreat

/-- incipit/incipitref03.New -/
def rdNew_vc (q0 : Int) (h : Heap) (R : Value → Heap → Prop) : Prop :=
  (decide (q0 < (8 : Int)) = true → R (Value.tuple { toList := [Value.pointer none, Value.int IntKind.i64 (1 : Int)] : Array Value }) h) ∧
 (decide (q0 < (8 : Int)) = false →
  (decide (q0 > (2048 : Int)) = true → R (Value.tuple { toList := [Value.pointer none, Value.int IntKind.i64 (1 : Int)] : Array Value }) h) ∧
   (decide (q0 > (2048 : Int)) = false →
    ∀ (n1 : Nat) (rec1 : Array Obj),
     n1 = Array.size h →
      rec1 = Array.push h (Obj.cells { toList := [Value.slice none (0 : Nat) (0 : Nat), Value.slice none (0 : Nat) (0 : Nat), Value.int IntKind.i64 (-1 : Int), Value.bool false, Value.int IntKind.i64 (0 : Int)] : Array Value } (45 : Nat)) →
       ∃ (I1 : Int → Heap → Prop),
        ∃ (M1 : Int → Heap → Nat),
         I1 (0 : Int) rec1 ∧
          ∀ (i1 : Int) (h1 : Heap),
           I1 i1 h1 →
            (decide (i1 < q0) = true →
              ∃ (p1 : Option Addr),
               ∃ (n2 : Nat),
                ∃ (n3 : Nat),
                 cellAt h1 { block := n1, off := (0 : Nat) : Addr } = some (Value.slice p1 n2 n3) ∧
                  ((0 : Int) ≤ (256 : Int) ∧ (256 : Int) ≤ (256 : Int) ∧ (↑(1 : Nat) : Int) * (256 : Int) ≤ (281474976710656 : Int) ∧ (256 : Int) ≤ (281474976710656 : Int)) ∧
                   ∀ (n4 : Nat) (rec2 : Array Obj),
                    n4 = Array.size h1 →
                     rec2 = Array.push h1 (Obj.cells { toList := zrow [Value.int IntKind.u8 (Int.ofNat (0))] (256 : Nat) : Array Value } (5 : TypeId)) →
                      (∃ (p2 : Option Addr), ∃ (n5 : Nat), ∃ (n6 : Nat), cellAt rec2 { block := n1, off := (0 : Nat) : Addr } = some (Value.slice p2 n5 n6) ∧ (Value.slice p2 n5 n6, false) = (Value.slice p1 n2 n3, false)) ∧
                       ((0 : Nat) + (1 : Nat) = (1 : Nat) ∧ True) ∧
                        ∀ (n7 : Nat) (rec3 : Array Obj),
                         n7 = Array.size rec2 →
                          rec3 = Array.push rec2 (Obj.cells { toList := [Value.slice (some { block := n4, off := (0 : Nat) : Addr }) (256 : Nat) (256 : Nat)] : Array Value } (46 : TypeId)) →
                           (∃ (p3 : Option Addr), ∃ (n8 : Nat), ∃ (n9 : Nat), cellAt rec3 { block := n1, off := (0 : Nat) : Addr } = some (Value.slice p3 n8 n9) ∧ (Value.slice p3 n8 n9, false) = (Value.slice p1 n2 n3, false)) ∧
                            ∃ (l1 : List Value),
                             srcIs rec3 (1 : Nat) (1 : Nat) (Value.slice (some { block := n7, off := (0 : Nat) : Addr }) (1 : Nat) (1 : Nat)) l1 ∧
                              (∀ (v1 : Value), v1 ∈ l1 → isCell v1 = true) ∧
                               List.length l1 = (1 : Nat) ∧
                                (n2 + (1 : Nat) ≤ n3 →
                                  match p1 with
                                  | some a1 =>
                                   okRow rec3 (Addr.add a1 (n2 * (1 : Nat))) (List.length l1) ∧
                                    ∀ (h2 : Heap),
                                     h2 = updRow rec3 (Addr.add a1 (n2 * (1 : Nat))) (0 : Nat) l1 →
                                      true = true ∧
                                       okAt h2 { block := n1, off := (0 : Nat) : Addr } ∧
                                        ∀ (h3 : Heap), h3 = upd h2 { block := n1, off := (0 : Nat) : Addr } (Value.slice p1 (n2 + (1 : Nat)) n3) → I1 (IntKind.wrap IntKind.i64 (i1 + (1 : Int))) h3 ∧ M1 (IntKind.wrap IntKind.i64 (i1 + (1 : Int))) h3 < M1 i1 h1
                                  | none =>
                                   true = true ∧
                                    okAt rec3 { block := n1, off := (0 : Nat) : Addr } ∧
                                     ∀ (h4 : Heap), h4 = upd rec3 { block := n1, off := (0 : Nat) : Addr } (Value.slice p1 (n2 + (1 : Nat)) n3) → I1 (IntKind.wrap IntKind.i64 (i1 + (1 : Int))) h4 ∧ M1 (IntKind.wrap IntKind.i64 (i1 + (1 : Int))) h4 < M1 i1 h1) ∧
                                 (n3 < n2 + (1 : Nat) →
                                  (n2 + (1 : Nat)) * (24 : Nat) ≤ (70368744177664 : Nat) ∧
                                   (0 : Nat) < (24 : Nat) ∧
                                    ∃ (l2 : List Value),
                                     srcIs rec3 (1 : Nat) n2 (Value.slice p1 n2 n3) l2 ∧
                                      ∀ (n10 : Nat),
                                       n2 + (1 : Nat) ≤ n10 →
                                        ∀ (n11 : Nat) (rec4 : Array Obj),
                                         n11 = Array.size rec3 →
                                          rec4 = Array.push rec3 (Obj.cells { toList := List.append (List.append l2 l1) (zrow [Value.slice none (0) (0)] (n10 - (n2 + (1 : Nat)))) : Array Value } (46 : TypeId)) →
                                           true = true ∧
                                            okAt rec4 { block := n1, off := (0 : Nat) : Addr } ∧
                                             ∀ (h5 : Heap),
                                              h5 = upd rec4 { block := n1, off := (0 : Nat) : Addr } (Value.slice (some { block := n11, off := (0 : Nat) : Addr }) (n2 + (1 : Nat)) n10) →
                                               I1 (IntKind.wrap IntKind.i64 (i1 + (1 : Int))) h5 ∧ M1 (IntKind.wrap IntKind.i64 (i1 + (1 : Int))) h5 < M1 i1 h1)) ∧
             (decide (i1 < q0) = false → R (Value.tuple { toList := [Value.pointer (some { block := n1, off := (0 : Nat) : Addr }), Value.int IntKind.i64 (0 : Int)] : Array Value }) h1)))

theorem rdNew_call (q0 : Int) {h : Heap} {R : Value → Heap → Prop} (H : rdNew_vc q0 h R) : CallH Tryz.prog 6 ⟨[.int .i64 q0]⟩ h R :=
  callH_of_dCode tabOK mixed [(.int .i64 q0, false)] Tryz.func6 (c := bodyC Tryz.f6) (by kernel_rfl) (by kernel_rfl : Tryz.f6.ntmps = 30) rfl
    (Eq.mp (by kernel_rfl : rdNew_vc q0 h R = dCode Tryz.prog T ⟨[], [(5, [(5, .int .i64)])], [], [], []⟩ (bodyC Tryz.f6) none (dEnd T (Tryz.f6.results.toList) R) (startE 30 [(.int .i64 q0, false)]) h) H)

/-- (*incipit/incipitref03.Disk).Read -/
def rdRead_vc (q0 : Nat) (q1 : Int) (h : Heap) (R : Value → Heap → Prop) : Prop :=
  entersB Tryz.prog (50 : Nat) = true ∧
 CallH Tryz.prog (50 : Nat) { toList := [Value.pointer (some { block := q0, off := (0 : Nat) : Addr }), Value.int IntKind.i64 q1] : Array Value } h fun (v1 : Value) (h1 : Heap) =>
  ∃ (t1 : Bool),
   v1 = Value.bool t1 ∧
    ((!t1) = true → R (Value.tuple { toList := [Value.slice none (0 : Nat) (0 : Nat), Value.int IntKind.i64 (1 : Int)] : Array Value }) h1) ∧
     ((!t1) = false →
      ∃ (t2 : Bool),
       cellAt h1 { block := q0, off := (3 : Nat) : Addr } = some (Value.bool t2) ∧
        (t2 = true → R (Value.tuple { toList := [Value.slice none (0 : Nat) (0 : Nat), Value.int IntKind.i64 (5 : Int)] : Array Value }) h1) ∧
         (t2 = false →
          entersB Tryz.prog (52 : Nat) = true ∧
           CallH Tryz.prog (52 : Nat) { toList := [Value.pointer (some { block := q0, off := (0 : Nat) : Addr }), Value.int IntKind.i64 q1] : Array Value } h1 fun (v2 : Value) (h2 : Heap) =>
            ∃ (p1 : Option Addr),
             ∃ (n1 : Nat),
              ∃ (n2 : Nat),
               v2 = Value.slice p1 n1 n2 ∧
                entersB Tryz.prog (51 : Nat) = true ∧
                 CallH Tryz.prog (51 : Nat) { toList := [Value.slice none (0 : Nat) (0 : Nat), Value.slice p1 n1 n2] : Array Value } h2 fun (v3 : Value) (h3 : Heap) =>
                  ∃ (p2 : Option Addr), ∃ (n3 : Nat), ∃ (n4 : Nat), v3 = Value.slice p2 n3 n4 ∧ R (Value.tuple { toList := [Value.slice p2 n3 n4, Value.int IntKind.i64 (0 : Int)] : Array Value }) h3))

theorem rdRead_call (q0 : Nat) (q1 : Int) {h : Heap} {R : Value → Heap → Prop} (H : rdRead_vc q0 q1 h R) : CallH Tryz.prog 14 ⟨[.pointer (some ⟨q0, 0, none⟩), .int .i64 q1]⟩ h R :=
  callH_of_dCode tabOK mixed [(.pointer (some ⟨q0, 0, none⟩), false), (.int .i64 q1, false)] Tryz.func14 (c := bodyC Tryz.f14) (by kernel_rfl) (by kernel_rfl : Tryz.f14.ntmps = 18) rfl
    (Eq.mp (by kernel_rfl : rdRead_vc q0 q1 h R = dCode Tryz.prog T ⟨[], [], [], [], []⟩ (bodyC Tryz.f14) none (dEnd T (Tryz.f14.results.toList) R) (startE 18 [(.pointer (some ⟨q0, 0, none⟩), false), (.int .i64 q1, false)]) h) H)

/-- (*incipit/incipitref03.Disk).Sync -/
def rdSync_vc (q0 : Nat) (h : Heap) (R : Value → Heap → Prop) : Prop :=
  ∃ (t1 : Bool),
 cellAt h { block := q0, off := (3 : Nat) : Addr } = some (Value.bool t1) ∧
  (t1 = true → R (Value.int IntKind.i64 (5 : Int)) h) ∧
   (t1 = false →
    entersB Tryz.prog (72 : Nat) = true ∧
     CallH Tryz.prog (72 : Nat) { toList := [Value.pointer (some { block := q0, off := (0 : Nat) : Addr })] : Array Value } h fun (v1 : Value) (h1 : Heap) =>
      ∃ (t2 : Bool),
       v1 = Value.bool t2 ∧
        (t2 = true → R (Value.int IntKind.i64 (5 : Int)) h1) ∧
         (t2 = false →
          ∃ (I1 : Int → Heap → Prop),
           ∃ (M1 : Int → Heap → Nat),
            I1 (0 : Int) h1 ∧
             ∀ (i1 : Int) (h2 : Heap),
              I1 i1 h2 →
               ∃ (p1 : Option Addr),
                ∃ (n1 : Nat),
                 ∃ (n2 : Nat),
                  cellAt h2 { block := q0, off := (1 : Nat) : Addr } = some (Value.slice p1 n1 n2) ∧
                   (decide (i1 < (↑n1 : Int)) = true →
                     ∃ (p2 : Option Addr),
                      ∃ (n3 : Nat),
                       ∃ (n4 : Nat),
                        cellAt h2 { block := q0, off := (0 : Nat) : Addr } = some (Value.slice p2 n3 n4) ∧
                         ∃ (p3 : Option Addr),
                          ∃ (n5 : Nat),
                           ∃ (n6 : Nat),
                            cellAt h2 { block := q0, off := (1 : Nat) : Addr } = some (Value.slice p3 n5 n6) ∧
                             match p3 with
                             | some a1 =>
                              ((0 : Int) ≤ i1 ∧ i1 < (↑n5 : Int)) ∧
                               ∃ (i2 : Int),
                                cellAt h2 (Addr.add a1 (Int.toNat i1 * (2 : Nat))) = some (Value.int IntKind.i64 i2) ∧
                                 ∃ (p5 : Option Addr),
                                  ∃ (n7 : Nat),
                                   ∃ (n8 : Nat),
                                    cellAt h2 { block := q0, off := (1 : Nat) : Addr } = some (Value.slice p5 n7 n8) ∧
                                     match p5 with
                                     | some a2 =>
                                      ((0 : Int) ≤ i1 ∧ i1 < (↑n7 : Int)) ∧
                                       ∃ (p6 : Option Addr),
                                        ∃ (n9 : Nat),
                                         ∃ (n10 : Nat),
                                          cellAt h2 (Addr.add (Addr.add a2 (Int.toNat i1 * (2 : Nat))) (1 : Nat)) = some (Value.slice p6 n9 n10) ∧
                                           match p2 with
                                           | some a3 =>
                                            ((0 : Int) ≤ i2 ∧ i2 < (↑n3 : Int)) ∧
                                             true = true ∧
                                              okAt h2 (Addr.add a3 (Int.toNat i2 * (1 : Nat))) ∧
                                               ∀ (h3 : Heap), h3 = upd h2 (Addr.add a3 (Int.toNat i2 * (1 : Nat))) (Value.slice p6 n9 n10) → I1 (IntKind.wrap IntKind.i64 (i1 + (1 : Int))) h3 ∧ M1 (IntKind.wrap IntKind.i64 (i1 + (1 : Int))) h3 < M1 i1 h2
                                           | none => False
                                     | none => False
                             | none => False) ∧
                    (decide (i1 < (↑n1 : Int)) = false → true = true ∧ okAt h2 { block := q0, off := (1 : Nat) : Addr } ∧ ∀ (h4 : Heap), h4 = upd h2 { block := q0, off := (1 : Nat) : Addr } (Value.slice none (0 : Nat) (0 : Nat)) → R (Value.int IntKind.i64 (0 : Int)) h4)))

theorem rdSync_call (q0 : Nat) {h : Heap} {R : Value → Heap → Prop} (H : rdSync_vc q0 h R) : CallH Tryz.prog 34 ⟨[.pointer (some ⟨q0, 0, none⟩)]⟩ h R :=
  callH_of_dCode tabOK mixed [(.pointer (some ⟨q0, 0, none⟩), false)] Tryz.func34 (c := bodyC Tryz.f34) (by kernel_rfl) (by kernel_rfl : Tryz.f34.ntmps = 45) rfl
    (Eq.mp (by kernel_rfl : rdSync_vc q0 h R = dCode Tryz.prog T ⟨[], [(4, [(3, .int .i64)])], [], [], []⟩ (bodyC Tryz.f34) none (dEnd T (Tryz.f34.results.toList) R) (startE 45 [(.pointer (some ⟨q0, 0, none⟩), false)]) h) H)

/-- (*incipit/incipitref03.Disk).Arm -/
def rdArm_vc (q0 : Nat) (q1 : Int) (h : Heap) (R : Value → Heap → Prop) : Prop :=
  (decide (q1 < (0 : Int)) = true → R (Value.int IntKind.i64 (1 : Int)) h) ∧
 (decide (q1 < (0 : Int)) = false →
  ∃ (t1 : Bool),
   cellAt h { block := q0, off := (3 : Nat) : Addr } = some (Value.bool t1) ∧
    (t1 = true → R (Value.int IntKind.i64 (5 : Int)) h) ∧ (t1 = false → true = true ∧ okAt h { block := q0, off := (2 : Nat) : Addr } ∧ ∀ (h1 : Heap), h1 = upd h { block := q0, off := (2 : Nat) : Addr } (Value.int IntKind.i64 q1) → R (Value.int IntKind.i64 (0 : Int)) h1))

theorem rdArm_call (q0 : Nat) (q1 : Int) {h : Heap} {R : Value → Heap → Prop} (H : rdArm_vc q0 q1 h R) : CallH Tryz.prog 36 ⟨[.pointer (some ⟨q0, 0, none⟩), .int .i64 q1]⟩ h R :=
  callH_of_dCode tabOK mixed [(.pointer (some ⟨q0, 0, none⟩), false), (.int .i64 q1, false)] Tryz.func36 (c := bodyC Tryz.f36) (by kernel_rfl) (by kernel_rfl : Tryz.f36.ntmps = 15) rfl
    (Eq.mp (by kernel_rfl : rdArm_vc q0 q1 h R = dCode Tryz.prog T ⟨[], [], [], [], []⟩ (bodyC Tryz.f36) none (dEnd T (Tryz.f36.results.toList) R) (startE 15 [(.pointer (some ⟨q0, 0, none⟩), false), (.int .i64 q1, false)]) h) H)

/-- (*incipit/incipitref03.Disk).Crash -/
def rdCrash_vc (q0 : Nat) (q1p : Option Addr) (q1l : Nat) (q1c : Nat) (h : Heap) (R : Value → Heap → Prop) : Prop :=
  ∃ (I1 : Int → Heap → Prop),
 ∃ (M1 : Int → Heap → Nat),
  I1 (0 : Int) h ∧
   ∀ (i1 : Int) (h1 : Heap),
    I1 i1 h1 →
     ∃ (p1 : Option Addr),
      ∃ (n1 : Nat),
       ∃ (n2 : Nat),
        cellAt h1 { block := q0, off := (1 : Nat) : Addr } = some (Value.slice p1 n1 n2) ∧
         (decide (i1 < (↑n1 : Int)) = true →
           (decide (i1 < (↑q1l : Int)) = true →
             match q1p with
             | some a1 =>
              ((0 : Int) ≤ i1 ∧ i1 < (↑q1l : Int)) ∧
               ∃ (i2 : Int),
                cellAt h1 (Addr.add a1 (Int.toNat i1 * (1 : Nat))) = some (Value.int IntKind.u8 i2) ∧
                 (5 : Int) ≠ (0 : Int) ∧
                  ∃ (p3 : Option Addr),
                   ∃ (n3 : Nat),
                    ∃ (n4 : Nat),
                     cellAt h1 { block := q0, off := (0 : Nat) : Addr } = some (Value.slice p3 n3 n4) ∧
                      ∃ (p4 : Option Addr),
                       ∃ (n5 : Nat),
                        ∃ (n6 : Nat),
                         cellAt h1 { block := q0, off := (1 : Nat) : Addr } = some (Value.slice p4 n5 n6) ∧
                          match p4 with
                          | some a2 =>
                           ((0 : Int) ≤ i1 ∧ i1 < (↑n5 : Int)) ∧
                            ∃ (i3 : Int),
                             cellAt h1 (Addr.add a2 (Int.toNat i1 * (2 : Nat))) = some (Value.int IntKind.i64 i3) ∧
                              ∃ (p5 : Option Addr),
                               ∃ (n7 : Nat),
                                ∃ (n8 : Nat),
                                 cellAt h1 { block := q0, off := (1 : Nat) : Addr } = some (Value.slice p5 n7 n8) ∧
                                  match p5 with
                                  | some a3 =>
                                   ((0 : Int) ≤ i1 ∧ i1 < (↑n7 : Int)) ∧
                                    ∃ (p6 : Option Addr),
                                     ∃ (n9 : Nat),
                                      ∃ (n10 : Nat),
                                       cellAt h1 (Addr.add (Addr.add a3 (Int.toNat i1 * (2 : Nat))) (1 : Nat)) = some (Value.slice p6 n9 n10) ∧
                                        ((0 : Int) ≤ IntKind.wrap IntKind.i64 (IntKind.wrap IntKind.i64 (Int.tmod i2 (5 : Int)) * (64 : Int)) ∧ IntKind.wrap IntKind.i64 (IntKind.wrap IntKind.i64 (Int.tmod i2 (5 : Int)) * (64 : Int)) ≤ (↑n10 : Int)) ∧
                                         ∃ (p7 : Option Addr),
                                          ∃ (n11 : Nat),
                                           ∃ (n12 : Nat),
                                            cellAt h1 { block := q0, off := (0 : Nat) : Addr } = some (Value.slice p7 n11 n12) ∧
                                             ∃ (p8 : Option Addr),
                                              ∃ (n13 : Nat),
                                               ∃ (n14 : Nat),
                                                cellAt h1 { block := q0, off := (1 : Nat) : Addr } = some (Value.slice p8 n13 n14) ∧
                                                 match p8 with
                                                 | some a4 =>
                                                  ((0 : Int) ≤ i1 ∧ i1 < (↑n13 : Int)) ∧
                                                   ∃ (i4 : Int),
                                                    cellAt h1 (Addr.add a4 (Int.toNat i1 * (2 : Nat))) = some (Value.int IntKind.i64 i4) ∧
                                                     match p7 with
                                                     | some a5 =>
                                                      ((0 : Int) ≤ i4 ∧ i4 < (↑n11 : Int)) ∧
                                                       ∃ (p9 : Option Addr),
                                                        ∃ (n15 : Nat),
                                                         ∃ (n16 : Nat),
                                                          cellAt h1 (Addr.add a5 (Int.toNat i4 * (1 : Nat))) = some (Value.slice p9 n15 n16) ∧
                                                           ((0 : Int) ≤ IntKind.wrap IntKind.i64 (IntKind.wrap IntKind.i64 (Int.tmod i2 (5 : Int)) * (64 : Int)) ∧ IntKind.wrap IntKind.i64 (IntKind.wrap IntKind.i64 (Int.tmod i2 (5 : Int)) * (64 : Int)) ≤ (↑n15 : Int)) ∧
                                                            entersB Tryz.prog (51 : Nat) = true ∧
                                                             CallH Tryz.prog (51 : Nat)
                                                              {
                                                               toList :=
                                                                [Value.slice p6 (Int.toNat (IntKind.wrap IntKind.i64 (IntKind.wrap IntKind.i64 (Int.tmod i2 (5 : Int)) * (64 : Int)))) n10,
                                                                 Value.slice
                                                                  (if n16 = Int.toNat (IntKind.wrap IntKind.i64 (IntKind.wrap IntKind.i64 (Int.tmod i2 (5 : Int)) * (64 : Int))) then p9
                                                                  else Option.map (fun (a6 : Addr) => Addr.add a6 (Int.toNat (IntKind.wrap IntKind.i64 (IntKind.wrap IntKind.i64 (Int.tmod i2 (5 : Int)) * (64 : Int))) * (1 : Nat))) p9)
                                                                  (n15 - Int.toNat (IntKind.wrap IntKind.i64 (IntKind.wrap IntKind.i64 (Int.tmod i2 (5 : Int)) * (64 : Int)))) (n16 - Int.toNat (IntKind.wrap IntKind.i64 (IntKind.wrap IntKind.i64 (Int.tmod i2 (5 : Int)) * (64 : Int))))] :
                                                               Array Value }
                                                              h1 fun (v1 : Value) (h2 : Heap) =>
                                                              ∃ (p10 : Option Addr),
                                                               ∃ (n17 : Nat),
                                                                ∃ (n18 : Nat),
                                                                 v1 = Value.slice p10 n17 n18 ∧
                                                                  (∃ (i5 : Int), cellAt h2 (Addr.add a2 (Int.toNat i1 * (2 : Nat))) = some (Value.int IntKind.i64 i5) ∧ (Value.int IntKind.i64 i5, false) = (Value.int IntKind.i64 i3, false)) ∧
                                                                   (∃ (p11 : Option Addr), ∃ (n19 : Nat), ∃ (n20 : Nat), cellAt h2 { block := q0, off := (1 : Nat) : Addr } = some (Value.slice p11 n19 n20) ∧ (Value.slice p11 n19 n20, false) = (Value.slice p4 n5 n6, false)) ∧
                                                                    (∃ (p12 : Option Addr), ∃ (n21 : Nat), ∃ (n22 : Nat), cellAt h2 { block := q0, off := (0 : Nat) : Addr } = some (Value.slice p12 n21 n22) ∧ (Value.slice p12 n21 n22, false) = (Value.slice p3 n3 n4, false)) ∧
                                                                     match p3 with
                                                                     | some a7 =>
                                                                      ((0 : Int) ≤ i3 ∧ i3 < (↑n3 : Int)) ∧
                                                                       true = true ∧
                                                                        okAt h2 (Addr.add a7 (Int.toNat i3 * (1 : Nat))) ∧
                                                                         ∀ (h3 : Heap), h3 = upd h2 (Addr.add a7 (Int.toNat i3 * (1 : Nat))) (Value.slice p10 n17 n18) → I1 (IntKind.wrap IntKind.i64 (i1 + (1 : Int))) h3 ∧ M1 (IntKind.wrap IntKind.i64 (i1 + (1 : Int))) h3 < M1 i1 h1
                                                                     | none => False
                                                     | none => False
                                                 | none => False
                                  | none => False
                          | none => False
             | none => False) ∧
            (decide (i1 < (↑q1l : Int)) = false →
             ∃ (p13 : Option Addr),
              ∃ (n23 : Nat),
               ∃ (n24 : Nat),
                cellAt h1 { block := q0, off := (0 : Nat) : Addr } = some (Value.slice p13 n23 n24) ∧
                 ∃ (p14 : Option Addr),
                  ∃ (n25 : Nat),
                   ∃ (n26 : Nat),
                    cellAt h1 { block := q0, off := (1 : Nat) : Addr } = some (Value.slice p14 n25 n26) ∧
                     match p14 with
                     | some a8 =>
                      ((0 : Int) ≤ i1 ∧ i1 < (↑n25 : Int)) ∧
                       ∃ (i6 : Int),
                        cellAt h1 (Addr.add a8 (Int.toNat i1 * (2 : Nat))) = some (Value.int IntKind.i64 i6) ∧
                         ∃ (p15 : Option Addr),
                          ∃ (n27 : Nat),
                           ∃ (n28 : Nat),
                            cellAt h1 { block := q0, off := (1 : Nat) : Addr } = some (Value.slice p15 n27 n28) ∧
                             match p15 with
                             | some a9 =>
                              ((0 : Int) ≤ i1 ∧ i1 < (↑n27 : Int)) ∧
                               ∃ (p16 : Option Addr),
                                ∃ (n29 : Nat),
                                 ∃ (n30 : Nat),
                                  cellAt h1 (Addr.add (Addr.add a9 (Int.toNat i1 * (2 : Nat))) (1 : Nat)) = some (Value.slice p16 n29 n30) ∧
                                   ((0 : Int) ≤ (0 : Int) ∧ (0 : Int) ≤ (↑n30 : Int)) ∧
                                    ∃ (p17 : Option Addr),
                                     ∃ (n31 : Nat),
                                      ∃ (n32 : Nat),
                                       cellAt h1 { block := q0, off := (0 : Nat) : Addr } = some (Value.slice p17 n31 n32) ∧
                                        ∃ (p18 : Option Addr),
                                         ∃ (n33 : Nat),
                                          ∃ (n34 : Nat),
                                           cellAt h1 { block := q0, off := (1 : Nat) : Addr } = some (Value.slice p18 n33 n34) ∧
                                            match p18 with
                                            | some a10 =>
                                             ((0 : Int) ≤ i1 ∧ i1 < (↑n33 : Int)) ∧
                                              ∃ (i7 : Int),
                                               cellAt h1 (Addr.add a10 (Int.toNat i1 * (2 : Nat))) = some (Value.int IntKind.i64 i7) ∧
                                                match p17 with
                                                | some a11 =>
                                                 ((0 : Int) ≤ i7 ∧ i7 < (↑n31 : Int)) ∧
                                                  ∃ (p19 : Option Addr),
                                                   ∃ (n35 : Nat),
                                                    ∃ (n36 : Nat),
                                                     cellAt h1 (Addr.add a11 (Int.toNat i7 * (1 : Nat))) = some (Value.slice p19 n35 n36) ∧
                                                      ((0 : Int) ≤ (0 : Int) ∧ (0 : Int) ≤ (↑n35 : Int)) ∧
                                                       entersB Tryz.prog (51 : Nat) = true ∧
                                                        CallH Tryz.prog (51 : Nat) { toList := [Value.slice p16 (0 : Nat) n30, Value.slice (if n36 = (0 : Nat) then p19 else Option.map (fun (a12 : Addr) => a12) p19) (n35 - (0 : Nat)) (n36 - (0 : Nat))] : Array Value } h1
                                                         fun (v2 : Value) (h4 : Heap) =>
                                                         ∃ (p20 : Option Addr),
                                                          ∃ (n37 : Nat),
                                                           ∃ (n38 : Nat),
                                                            v2 = Value.slice p20 n37 n38 ∧
                                                             (∃ (i8 : Int), cellAt h4 (Addr.add a8 (Int.toNat i1 * (2 : Nat))) = some (Value.int IntKind.i64 i8) ∧ (Value.int IntKind.i64 i8, false) = (Value.int IntKind.i64 i6, false)) ∧
                                                              (∃ (p21 : Option Addr), ∃ (n39 : Nat), ∃ (n40 : Nat), cellAt h4 { block := q0, off := (1 : Nat) : Addr } = some (Value.slice p21 n39 n40) ∧ (Value.slice p21 n39 n40, false) = (Value.slice p14 n25 n26, false)) ∧
                                                               (∃ (p22 : Option Addr), ∃ (n41 : Nat), ∃ (n42 : Nat), cellAt h4 { block := q0, off := (0 : Nat) : Addr } = some (Value.slice p22 n41 n42) ∧ (Value.slice p22 n41 n42, false) = (Value.slice p13 n23 n24, false)) ∧
                                                                match p13 with
                                                                | some a13 =>
                                                                 ((0 : Int) ≤ i6 ∧ i6 < (↑n23 : Int)) ∧
                                                                  true = true ∧
                                                                   okAt h4 (Addr.add a13 (Int.toNat i6 * (1 : Nat))) ∧
                                                                    ∀ (h5 : Heap), h5 = upd h4 (Addr.add a13 (Int.toNat i6 * (1 : Nat))) (Value.slice p20 n37 n38) → I1 (IntKind.wrap IntKind.i64 (i1 + (1 : Int))) h5 ∧ M1 (IntKind.wrap IntKind.i64 (i1 + (1 : Int))) h5 < M1 i1 h1
                                                                | none => False
                                                | none => False
                                            | none => False
                             | none => False
                     | none => False)) ∧
          (decide (i1 < (↑n1 : Int)) = false →
           true = true ∧
            okAt h1 { block := q0, off := (1 : Nat) : Addr } ∧
             ∀ (h6 : Heap),
              h6 = upd h1 { block := q0, off := (1 : Nat) : Addr } (Value.slice none (0 : Nat) (0 : Nat)) →
               true = true ∧
                okAt h6 { block := q0, off := (3 : Nat) : Addr } ∧
                 ∀ (h7 : Heap),
                  h7 = upd h6 { block := q0, off := (3 : Nat) : Addr } (Value.bool false) →
                   true = true ∧ okAt h7 { block := q0, off := (2 : Nat) : Addr } ∧ ∀ (h8 : Heap), h8 = upd h7 { block := q0, off := (2 : Nat) : Addr } (Value.int IntKind.i64 (-1 : Int)) → R (Value.tuple { toList := [] : Array Value }) h8)

theorem rdCrash_call (q0 : Nat) (q1p : Option Addr) (q1l : Nat) (q1c : Nat) {h : Heap} {R : Value → Heap → Prop} (H : rdCrash_vc q0 q1p q1l q1c h R) : CallH Tryz.prog 37 ⟨[.pointer (some ⟨q0, 0, none⟩), .slice q1p q1l q1c]⟩ h R :=
  callH_of_dCode tabOK mixed [(.pointer (some ⟨q0, 0, none⟩), false), (.slice q1p q1l q1c, false)] Tryz.func37 (c := bodyC Tryz.f37) (by kernel_rfl) (by kernel_rfl : Tryz.f37.ntmps = 75) rfl
    (Eq.mp (by kernel_rfl : rdCrash_vc q0 q1p q1l q1c h R = dCode Tryz.prog T ⟨[], [(1, [(4, .int .i64)])], [], [], []⟩ (bodyC Tryz.f37) none (dEnd T (Tryz.f37.results.toList) R) (startE 75 [(.pointer (some ⟨q0, 0, none⟩), false), (.slice q1p q1l q1c, false)]) h) H)

/-- (*incipit/incipitref03.Disk).Is -/
def rdIs_vc (q0 : Nat) (q1 : Int) (h : Heap) (R : Value → Heap → Prop) : Prop :=
  (decide (q1 ≥ (0 : Int)) = true → ∃ (p1 : Option Addr), ∃ (n1 : Nat), ∃ (n2 : Nat), cellAt h { block := q0, off := (0 : Nat) : Addr } = some (Value.slice p1 n1 n2) ∧ R (Value.bool (decide (q1 < (↑n1 : Int)))) h) ∧ (decide (q1 ≥ (0 : Int)) = false → R (Value.bool false) h)

theorem rdIs_call (q0 : Nat) (q1 : Int) {h : Heap} {R : Value → Heap → Prop} (H : rdIs_vc q0 q1 h R) : CallH Tryz.prog 50 ⟨[.pointer (some ⟨q0, 0, none⟩), .int .i64 q1]⟩ h R :=
  callH_of_dCode tabOK mixed [(.pointer (some ⟨q0, 0, none⟩), false), (.int .i64 q1, false)] Tryz.func50 (c := bodyC Tryz.f50) (by kernel_rfl) (by kernel_rfl : Tryz.f50.ntmps = 16) rfl
    (Eq.mp (by kernel_rfl : rdIs_vc q0 q1 h R = dCode Tryz.prog T ⟨[], [], [], [], []⟩ (bodyC Tryz.f50) none (dEnd T (Tryz.f50.results.toList) R) (startE 16 [(.pointer (some ⟨q0, 0, none⟩), false), (.int .i64 q1, false)]) h) H)

/-- (*incipit/incipitref03.Disk).shows -/
def rdShows_vc (q0 : Nat) (q1 : Int) (h : Heap) (R : Value → Heap → Prop) : Prop :=
  ∃ (p1 : Option Addr),
 ∃ (n1 : Nat),
  ∃ (n2 : Nat),
   cellAt h { block := q0, off := (1 : Nat) : Addr } = some (Value.slice p1 n1 n2) ∧
    ∃ (I1 : Int → Heap → Prop),
     ∃ (M1 : Int → Heap → Nat),
      I1 (IntKind.wrap IntKind.i64 ((↑n1 : Int) - (1 : Int))) h ∧
       ∀ (i1 : Int) (h1 : Heap),
        I1 i1 h1 →
         (decide (i1 ≥ (0 : Int)) = true →
           ∃ (p2 : Option Addr),
            ∃ (n3 : Nat),
             ∃ (n4 : Nat),
              cellAt h1 { block := q0, off := (1 : Nat) : Addr } = some (Value.slice p2 n3 n4) ∧
               match p2 with
               | some a1 =>
                ((0 : Int) ≤ i1 ∧ i1 < (↑n3 : Int)) ∧
                 ∃ (i2 : Int),
                  cellAt h1 (Addr.add a1 (Int.toNat i1 * (2 : Nat))) = some (Value.int IntKind.i64 i2) ∧
                   ((i2 == q1) = true →
                     ∃ (p4 : Option Addr),
                      ∃ (n5 : Nat),
                       ∃ (n6 : Nat),
                        cellAt h1 { block := q0, off := (1 : Nat) : Addr } = some (Value.slice p4 n5 n6) ∧
                         match p4 with
                         | some a2 => ((0 : Int) ≤ i1 ∧ i1 < (↑n5 : Int)) ∧ ∃ (p5 : Option Addr), ∃ (n7 : Nat), ∃ (n8 : Nat), cellAt h1 (Addr.add (Addr.add a2 (Int.toNat i1 * (2 : Nat))) (1 : Nat)) = some (Value.slice p5 n7 n8) ∧ R (Value.slice p5 n7 n8) h1
                         | none => False) ∧
                    ((i2 == q1) = false → I1 (IntKind.wrap IntKind.i64 (i1 - (1 : Int))) h1 ∧ M1 (IntKind.wrap IntKind.i64 (i1 - (1 : Int))) h1 < M1 i1 h1)
               | none => False) ∧
          (decide (i1 ≥ (0 : Int)) = false →
           ∃ (p6 : Option Addr),
            ∃ (n9 : Nat),
             ∃ (n10 : Nat),
              cellAt h1 { block := q0, off := (0 : Nat) : Addr } = some (Value.slice p6 n9 n10) ∧
               match p6 with
               | some a3 => ((0 : Int) ≤ q1 ∧ q1 < (↑n9 : Int)) ∧ ∃ (p7 : Option Addr), ∃ (n11 : Nat), ∃ (n12 : Nat), cellAt h1 (Addr.add a3 (Int.toNat q1 * (1 : Nat))) = some (Value.slice p7 n11 n12) ∧ R (Value.slice p7 n11 n12) h1
               | none => False)

theorem rdShows_call (q0 : Nat) (q1 : Int) {h : Heap} {R : Value → Heap → Prop} (H : rdShows_vc q0 q1 h R) : CallH Tryz.prog 52 ⟨[.pointer (some ⟨q0, 0, none⟩), .int .i64 q1]⟩ h R :=
  callH_of_dCode tabOK mixed [(.pointer (some ⟨q0, 0, none⟩), false), (.int .i64 q1, false)] Tryz.func52 (c := bodyC Tryz.f52) (by kernel_rfl) (by kernel_rfl : Tryz.f52.ntmps = 41) rfl
    (Eq.mp (by kernel_rfl : rdShows_vc q0 q1 h R = dCode Tryz.prog T ⟨[], [(2, [(5, .int .i64)])], [], [], []⟩ (bodyC Tryz.f52) none (dEnd T (Tryz.f52.results.toList) R) (startE 41 [(.pointer (some ⟨q0, 0, none⟩), false), (.int .i64 q1, false)]) h) H)

/-- (*incipit/incipitref03.Disk).Write -/
def rdWrite_vc (q0 : Nat) (q1 : Int) (q2p : Option Addr) (q2l : Nat) (q2c : Nat) (h : Heap) (R : Value → Heap → Prop) : Prop :=
  entersB Tryz.prog (50 : Nat) = true ∧
 CallH Tryz.prog (50 : Nat) { toList := [Value.pointer (some { block := q0, off := (0 : Nat) : Addr }), Value.int IntKind.i64 q1] : Array Value } h fun (v1 : Value) (h1 : Heap) =>
  ∃ (t1 : Bool),
   v1 = Value.bool t1 ∧
    ((!t1) = true → R (Value.int IntKind.i64 (1 : Int)) h1) ∧
     ((!t1) = false →
      (((↑q2l : Int) != (256 : Int)) = true → R (Value.int IntKind.i64 (1 : Int)) h1) ∧
       (((↑q2l : Int) != (256 : Int)) = false →
        ∃ (t2 : Bool),
         cellAt h1 { block := q0, off := (3 : Nat) : Addr } = some (Value.bool t2) ∧
          (t2 = true → R (Value.int IntKind.i64 (5 : Int)) h1) ∧
           (t2 = false →
            ∃ (p1 : Option Addr),
             ∃ (n1 : Nat),
              ∃ (n2 : Nat),
               cellAt h1 { block := q0, off := (1 : Nat) : Addr } = some (Value.slice p1 n1 n2) ∧
                entersB Tryz.prog (51 : Nat) = true ∧
                 CallH Tryz.prog (51 : Nat) { toList := [Value.slice none (0 : Nat) (0 : Nat), Value.slice q2p q2l q2c] : Array Value } h1 fun (v2 : Value) (h2 : Heap) =>
                  ∃ (p2 : Option Addr),
                   ∃ (n3 : Nat),
                    ∃ (n4 : Nat),
                     v2 = Value.slice p2 n3 n4 ∧
                      (∃ (p3 : Option Addr), ∃ (n5 : Nat), ∃ (n6 : Nat), cellAt h2 { block := q0, off := (1 : Nat) : Addr } = some (Value.slice p3 n5 n6) ∧ (Value.slice p3 n5 n6, false) = (Value.slice p1 n1 n2, false)) ∧
                       ((0 : Nat) + (1 : Nat) + (1 : Nat) = (2 : Nat) ∧ True) ∧
                        ∀ (n7 : Nat) (rec1 : Array Obj),
                         n7 = Array.size h2 →
                          rec1 = Array.push h2 (Obj.cells { toList := [Value.int IntKind.i64 q1, Value.slice p2 n3 n4] : Array Value } (108 : TypeId)) →
                           (∃ (p4 : Option Addr), ∃ (n8 : Nat), ∃ (n9 : Nat), cellAt rec1 { block := q0, off := (1 : Nat) : Addr } = some (Value.slice p4 n8 n9) ∧ (Value.slice p4 n8 n9, false) = (Value.slice p1 n1 n2, false)) ∧
                            ∃ (l1 : List Value),
                             srcIs rec1 (2 : Nat) (1 : Nat) (Value.slice (some { block := n7, off := (0 : Nat) : Addr }) (1 : Nat) (1 : Nat)) l1 ∧
                              (∀ (v3 : Value), v3 ∈ l1 → isCell v3 = true) ∧
                               List.length l1 = (2 : Nat) ∧
                                (n1 + (1 : Nat) ≤ n2 →
                                  match p1 with
                                  | some a1 =>
                                   okRow rec1 (Addr.add a1 (n1 * (2 : Nat))) (List.length l1) ∧
                                    ∀ (h3 : Heap),
                                     h3 = updRow rec1 (Addr.add a1 (n1 * (2 : Nat))) (0 : Nat) l1 →
                                      true = true ∧
                                       okAt h3 { block := q0, off := (1 : Nat) : Addr } ∧
                                        ∀ (h4 : Heap),
                                         h4 = upd h3 { block := q0, off := (1 : Nat) : Addr } (Value.slice p1 (n1 + (1 : Nat)) n2) →
                                          entersB Tryz.prog (72 : Nat) = true ∧
                                           CallH Tryz.prog (72 : Nat) { toList := [Value.pointer (some { block := q0, off := (0 : Nat) : Addr })] : Array Value } h4 fun (v4 : Value) (h5 : Heap) =>
                                            ∃ (t3 : Bool), v4 = Value.bool t3 ∧ (t3 = true → R (Value.int IntKind.i64 (5 : Int)) h5) ∧ (t3 = false → R (Value.int IntKind.i64 (0 : Int)) h5)
                                  | none =>
                                   true = true ∧
                                    okAt rec1 { block := q0, off := (1 : Nat) : Addr } ∧
                                     ∀ (h6 : Heap),
                                      h6 = upd rec1 { block := q0, off := (1 : Nat) : Addr } (Value.slice p1 (n1 + (1 : Nat)) n2) →
                                       entersB Tryz.prog (72 : Nat) = true ∧
                                        CallH Tryz.prog (72 : Nat) { toList := [Value.pointer (some { block := q0, off := (0 : Nat) : Addr })] : Array Value } h6 fun (v5 : Value) (h7 : Heap) =>
                                         ∃ (t4 : Bool), v5 = Value.bool t4 ∧ (t4 = true → R (Value.int IntKind.i64 (5 : Int)) h7) ∧ (t4 = false → R (Value.int IntKind.i64 (0 : Int)) h7)) ∧
                                 (n2 < n1 + (1 : Nat) →
                                  (n1 + (1 : Nat)) * (32 : Nat) ≤ (70368744177664 : Nat) ∧
                                   (0 : Nat) < (32 : Nat) ∧
                                    ∃ (l2 : List Value),
                                     srcIs rec1 (2 : Nat) n1 (Value.slice p1 n1 n2) l2 ∧
                                      ∀ (n10 : Nat),
                                       n1 + (1 : Nat) ≤ n10 →
                                        ∀ (n11 : Nat) (rec2 : Array Obj),
                                         n11 = Array.size rec1 →
                                          rec2 = Array.push rec1 (Obj.cells { toList := List.append (List.append l2 l1) (zrow [Value.int IntKind.i64 (Int.ofNat (0)), Value.slice none (0) (0)] (n10 - (n1 + (1 : Nat)))) : Array Value } (108 : TypeId)) →
                                           true = true ∧
                                            okAt rec2 { block := q0, off := (1 : Nat) : Addr } ∧
                                             ∀ (h8 : Heap),
                                              h8 = upd rec2 { block := q0, off := (1 : Nat) : Addr } (Value.slice (some { block := n11, off := (0 : Nat) : Addr }) (n1 + (1 : Nat)) n10) →
                                               entersB Tryz.prog (72 : Nat) = true ∧
                                                CallH Tryz.prog (72 : Nat) { toList := [Value.pointer (some { block := q0, off := (0 : Nat) : Addr })] : Array Value } h8 fun (v6 : Value) (h9 : Heap) =>
                                                 ∃ (t5 : Bool), v6 = Value.bool t5 ∧ (t5 = true → R (Value.int IntKind.i64 (5 : Int)) h9) ∧ (t5 = false → R (Value.int IntKind.i64 (0 : Int)) h9)))))

theorem rdWrite_call (q0 : Nat) (q1 : Int) (q2p : Option Addr) (q2l : Nat) (q2c : Nat) {h : Heap} {R : Value → Heap → Prop} (H : rdWrite_vc q0 q1 q2p q2l q2c h R) : CallH Tryz.prog 68 ⟨[.pointer (some ⟨q0, 0, none⟩), .int .i64 q1, .slice q2p q2l q2c]⟩ h R :=
  callH_of_dCode tabOK mixed [(.pointer (some ⟨q0, 0, none⟩), false), (.int .i64 q1, false), (.slice q2p q2l q2c, false)] Tryz.func68 (c := bodyC Tryz.f68) (by kernel_rfl) (by kernel_rfl : Tryz.f68.ntmps = 35) rfl
    (Eq.mp (by kernel_rfl : rdWrite_vc q0 q1 q2p q2l q2c h R = dCode Tryz.prog T ⟨[], [], [], [], []⟩ (bodyC Tryz.f68) none (dEnd T (Tryz.f68.results.toList) R) (startE 35 [(.pointer (some ⟨q0, 0, none⟩), false), (.int .i64 q1, false), (.slice q2p q2l q2c, false)]) h) H)

/-- (*incipit/incipitref03.Disk).goes -/
def rdGoes_vc (q0 : Nat) (h : Heap) (R : Value → Heap → Prop) : Prop :=
  ∃ (i1 : Int),
 cellAt h { block := q0, off := (2 : Nat) : Addr } = some (Value.int IntKind.i64 i1) ∧
  ((i1 == (0 : Int)) = true → true = true ∧ okAt h { block := q0, off := (3 : Nat) : Addr } ∧ ∀ (h1 : Heap), h1 = upd h { block := q0, off := (3 : Nat) : Addr } (Value.bool true) → R (Value.bool true) h1) ∧
   ((i1 == (0 : Int)) = false →
    ∃ (i2 : Int),
     cellAt h { block := q0, off := (2 : Nat) : Addr } = some (Value.int IntKind.i64 i2) ∧
      (decide (i2 > (0 : Int)) = true →
        ∃ (i3 : Int),
         cellAt h { block := q0, off := (2 : Nat) : Addr } = some (Value.int IntKind.i64 i3) ∧
          true = true ∧
           okAt h { block := q0, off := (2 : Nat) : Addr } ∧
            ∀ (h2 : Heap),
             h2 = upd h { block := q0, off := (2 : Nat) : Addr } (Value.int IntKind.i64 (IntKind.wrap IntKind.i64 (i3 - (1 : Int)))) →
              ∃ (i4 : Int),
               cellAt h2 { block := q0, off := (4 : Nat) : Addr } = some (Value.int IntKind.i64 i4) ∧
                true = true ∧ okAt h2 { block := q0, off := (4 : Nat) : Addr } ∧ ∀ (h3 : Heap), h3 = upd h2 { block := q0, off := (4 : Nat) : Addr } (Value.int IntKind.i64 (IntKind.wrap IntKind.i64 (i4 + (1 : Int)))) → R (Value.bool false) h3) ∧
       (decide (i2 > (0 : Int)) = false →
        ∃ (i5 : Int),
         cellAt h { block := q0, off := (4 : Nat) : Addr } = some (Value.int IntKind.i64 i5) ∧
          true = true ∧ okAt h { block := q0, off := (4 : Nat) : Addr } ∧ ∀ (h4 : Heap), h4 = upd h { block := q0, off := (4 : Nat) : Addr } (Value.int IntKind.i64 (IntKind.wrap IntKind.i64 (i5 + (1 : Int)))) → R (Value.bool false) h4))

theorem rdGoes_call (q0 : Nat) {h : Heap} {R : Value → Heap → Prop} (H : rdGoes_vc q0 h R) : CallH Tryz.prog 72 ⟨[.pointer (some ⟨q0, 0, none⟩)]⟩ h R :=
  callH_of_dCode tabOK mixed [(.pointer (some ⟨q0, 0, none⟩), false)] Tryz.func72 (c := bodyC Tryz.f72) (by kernel_rfl) (by kernel_rfl : Tryz.f72.ntmps = 32) rfl
    (Eq.mp (by kernel_rfl : rdGoes_vc q0 h R = dCode Tryz.prog T ⟨[], [], [], [], []⟩ (bodyC Tryz.f72) none (dEnd T (Tryz.f72.results.toList) R) (startE 32 [(.pointer (some ⟨q0, 0, none⟩), false)]) h) H)

/-- incipit/incipitref01.Join -/
def rJoin_vc (q0p : Option Addr) (q0l : Nat) (q0c : Nat) (q1p : Option Addr) (q1l : Nat) (q1c : Nat) (h : Heap) (R : Value → Heap → Prop) : Prop :=
  True ∧
 ∀ (n1 : Nat) (rec1 : Array Obj),
  n1 = Array.size h →
   rec1 = Array.push h (Obj.cells { toList := [] : Array Value } (5 : TypeId)) →
    ∃ (l1 : List Value),
     srcIs rec1 (1 : Nat) q0l (Value.slice q0p q0l q0c) l1 ∧
      (∀ (v1 : Value), v1 ∈ l1 → isCell v1 = true) ∧
       List.length l1 = q0l * (1 : Nat) ∧
        ((0 : Nat) + q0l ≤ (0 : Nat) →
          okRow rec1 { block := n1, off := (0 : Nat) : Addr } (List.length l1) ∧
           ∀ (h1 : Heap),
            h1 = updRow rec1 { block := n1, off := (0 : Nat) : Addr } (0 : Nat) l1 →
             ∃ (l2 : List Value),
              srcIs h1 (1 : Nat) q1l (Value.slice q1p q1l q1c) l2 ∧
               (∀ (v2 : Value), v2 ∈ l2 → isCell v2 = true) ∧
                List.length l2 = q1l * (1 : Nat) ∧
                 ((0 : Nat) + q0l + q1l ≤ (0 : Nat) →
                   okRow h1 (Addr.add { block := n1, off := (0 : Nat) : Addr } (((0 : Nat) + q0l) * (1 : Nat))) (List.length l2) ∧
                    ∀ (h2 : Heap), h2 = updRow h1 (Addr.add { block := n1, off := (0 : Nat) : Addr } (((0 : Nat) + q0l) * (1 : Nat))) (0 : Nat) l2 → R (Value.slice (some { block := n1, off := (0 : Nat) : Addr }) ((0 : Nat) + q0l + q1l) (0 : Nat)) h2) ∧
                  ((0 : Nat) < (0 : Nat) + q0l + q1l →
                   ((0 : Nat) + q0l + q1l) * (1 : Nat) ≤ (70368744177664 : Nat) ∧
                    (0 : Nat) < (1 : Nat) ∧
                     ∃ (l3 : List Value),
                      srcIs h1 (1 : Nat) ((0 : Nat) + q0l) (Value.slice (some { block := n1, off := (0 : Nat) : Addr }) ((0 : Nat) + q0l) (0 : Nat)) l3 ∧
                       ∀ (n2 : Nat),
                        (0 : Nat) + q0l + q1l ≤ n2 →
                         ∀ (n3 : Nat) (rec2 : Array Obj),
                          n3 = Array.size h1 →
                           rec2 = Array.push h1 (Obj.cells { toList := List.append (List.append l3 l2) (zrow [Value.int IntKind.u8 (Int.ofNat (0))] (n2 - ((0 : Nat) + q0l + q1l))) : Array Value } (5 : TypeId)) →
                            R (Value.slice (some { block := n3, off := (0 : Nat) : Addr }) ((0 : Nat) + q0l + q1l) n2) rec2)) ∧
         ((0 : Nat) < (0 : Nat) + q0l →
          ((0 : Nat) + q0l) * (1 : Nat) ≤ (70368744177664 : Nat) ∧
           (0 : Nat) < (1 : Nat) ∧
            ∃ (l4 : List Value),
             srcIs rec1 (1 : Nat) (0 : Nat) (Value.slice (some { block := n1, off := (0 : Nat) : Addr }) (0 : Nat) (0 : Nat)) l4 ∧
              ∀ (n4 : Nat),
               (0 : Nat) + q0l ≤ n4 →
                ∀ (n5 : Nat) (rec3 : Array Obj),
                 n5 = Array.size rec1 →
                  rec3 = Array.push rec1 (Obj.cells { toList := List.append (List.append l4 l1) (zrow [Value.int IntKind.u8 (Int.ofNat (0))] (n4 - ((0 : Nat) + q0l))) : Array Value } (5 : TypeId)) →
                   ∃ (l5 : List Value),
                    srcIs rec3 (1 : Nat) q1l (Value.slice q1p q1l q1c) l5 ∧
                     (∀ (v3 : Value), v3 ∈ l5 → isCell v3 = true) ∧
                      List.length l5 = q1l * (1 : Nat) ∧
                       ((0 : Nat) + q0l + q1l ≤ n4 →
                         okRow rec3 (Addr.add { block := n5, off := (0 : Nat) : Addr } (((0 : Nat) + q0l) * (1 : Nat))) (List.length l5) ∧
                          ∀ (h3 : Heap), h3 = updRow rec3 (Addr.add { block := n5, off := (0 : Nat) : Addr } (((0 : Nat) + q0l) * (1 : Nat))) (0 : Nat) l5 → R (Value.slice (some { block := n5, off := (0 : Nat) : Addr }) ((0 : Nat) + q0l + q1l) n4) h3) ∧
                        (n4 < (0 : Nat) + q0l + q1l →
                         ((0 : Nat) + q0l + q1l) * (1 : Nat) ≤ (70368744177664 : Nat) ∧
                          (0 : Nat) < (1 : Nat) ∧
                           ∃ (l6 : List Value),
                            srcIs rec3 (1 : Nat) ((0 : Nat) + q0l) (Value.slice (some { block := n5, off := (0 : Nat) : Addr }) ((0 : Nat) + q0l) n4) l6 ∧
                             ∀ (n6 : Nat),
                              (0 : Nat) + q0l + q1l ≤ n6 →
                               ∀ (n7 : Nat) (rec4 : Array Obj),
                                n7 = Array.size rec3 →
                                 rec4 = Array.push rec3 (Obj.cells { toList := List.append (List.append l6 l5) (zrow [Value.int IntKind.u8 (Int.ofNat (0))] (n6 - ((0 : Nat) + q0l + q1l))) : Array Value } (5 : TypeId)) →
                                  R (Value.slice (some { block := n7, off := (0 : Nat) : Addr }) ((0 : Nat) + q0l + q1l) n6) rec4))

theorem rJoin_call (q0p : Option Addr) (q0l : Nat) (q0c : Nat) (q1p : Option Addr) (q1l : Nat) (q1c : Nat) {h : Heap} {R : Value → Heap → Prop} (H : rJoin_vc q0p q0l q0c q1p q1l q1c h R) : CallH Tryz.prog 51 ⟨[.slice q0p q0l q0c, .slice q1p q1l q1c]⟩ h R :=
  callH_of_dCode tabOK mixed [(.slice q0p q0l q0c, false), (.slice q1p q1l q1c, false)] Tryz.func51 (c := bodyC Tryz.f51) (by kernel_rfl) (by kernel_rfl : Tryz.f51.ntmps = 13) rfl
    (Eq.mp (by kernel_rfl : rJoin_vc q0p q0l q0c q1p q1l q1c h R = dCode Tryz.prog T ⟨[], [], [], [], []⟩ (bodyC Tryz.f51) none (dEnd T (Tryz.f51.results.toList) R) (startE 13 [(.slice q0p q0l q0c, false), (.slice q1p q1l q1c, false)]) h) H)

end Go.Proofs.YtfapgccnhonoiaaGreat

/- Slices that grow: of elements of some cells each. -/
namespace Go.Proofs.YtfapgccnhonoiaaGreat

/-- Rows and what each stands for. -/
def RowsR {α : Type} (Q : List Value → α → Prop) : List (List Value) → List α → Prop
  | [], [] => True
  | r :: rs, a :: l => Q r a ∧ RowsR Q rs l
  | _, _ => False

section
variable {α : Type} {Q Q' : List Value → α → Prop}

theorem RowsR.len : ∀ {rs : List (List Value)} {l : List α}, RowsR Q rs l → rs.length = l.length
  | [], [], _ => rfl
  | [], _ :: _, h => h.elim
  | _ :: _, [], h => h.elim
  | _ :: rs, _ :: l, h => by simp [RowsR.len h.2]

theorem RowsR.mono (hQ : ∀ r a, Q r a → Q' r a) : ∀ {rs : List (List Value)} {l : List α}, RowsR Q rs l → RowsR Q' rs l
  | [], [], _ => trivial
  | [], _ :: _, h => h.elim
  | _ :: _, [], h => h.elim
  | _ :: _, _ :: _, h => ⟨hQ _ _ h.1, RowsR.mono hQ h.2⟩

theorem RowsR.get : ∀ {rs : List (List Value)} {l : List α}, RowsR Q rs l → ∀ {i : Nat} {a : α}, l[i]? = some a → ∃ r, rs[i]? = some r ∧ Q r a
  | [], [], _, i, a, h => by simp at h
  | [], _ :: _, h, _, _, _ => h.elim
  | _ :: _, [], h, _, _, _ => h.elim
  | r :: rs, x :: l, h, 0, a, hi => by
    simp only [List.getElem?_cons_zero, Option.some.injEq] at hi
    subst hi
    exact ⟨r, rfl, h.1⟩
  | r :: rs, x :: l, h, i + 1, a, hi => by
    simp only [List.getElem?_cons_succ] at hi ⊢
    exact RowsR.get h.2 hi

theorem RowsR.set : ∀ {rs : List (List Value)} {l : List α}, RowsR Q rs l → ∀ (i : Nat) {r : List Value} {a : α}, Q r a → RowsR Q (rs.set i r) (l.set i a)
  | [], [], _, _, _, _, _ => trivial
  | [], _ :: _, h, _, _, _, _ => h.elim
  | _ :: _, [], h, _, _, _, _ => h.elim
  | _ :: _, _ :: _, h, 0, _, _, hq => ⟨hq, h.2⟩
  | _ :: _, _ :: _, h, i + 1, _, _, hq => ⟨h.1, RowsR.set h.2 i hq⟩

theorem RowsR.snoc : ∀ {rs : List (List Value)} {l : List α}, RowsR Q rs l → ∀ {r : List Value} {a : α}, Q r a → RowsR Q (rs ++ [r]) (l ++ [a])
  | [], [], _, _, _, hq => ⟨hq, trivial⟩
  | [], _ :: _, h, _, _, _ => h.elim
  | _ :: _, [], h, _, _, _ => h.elim
  | _ :: _, _ :: _, h, _, _, hq => ⟨h.1, RowsR.snoc h.2 hq⟩

theorem RowsR.app : ∀ {rs : List (List Value)} {l : List α}, RowsR Q rs l → ∀ {rs' : List (List Value)} {l' : List α}, RowsR Q rs' l' → RowsR Q (rs ++ rs') (l ++ l')
  | [], [], _, _, _, h => h
  | [], _ :: _, h, _, _, _ => h.elim
  | _ :: _, [], h, _, _, _ => h.elim
  | _ :: _, _ :: _, h, _, _, hq => ⟨h.1, RowsR.app h.2 hq⟩

end

/-- A slice with its room, of rows of k cells. -/
def VecR (h : Heap) (k : Nat) (p : Option Addr) (n c lo : Nat) (rs : List (List Value)) : Prop :=
  n = rs.length ∧ (∀ r ∈ rs, r.length = k) ∧ ((p = none ∧ c = 0 ∧ rs = []) ∨ ∃ b x, p = some ⟨b, 0, none⟩ ∧ lo ≤ b ∧ Blk h b (rs.flatten ++ x) ∧ n ≤ c ∧ x.length = (c - n) * k)

section
variable {h h' : Heap} {k : Nat} {p : Option Addr} {n c lo : Nat} {rs : List (List Value)}

theorem VecR.nil (h : Heap) (k lo : Nat) : VecR h k none 0 0 lo [] := ⟨rfl, nofun, .inl ⟨rfl, rfl, rfl⟩⟩

theorem VecR.keep {F : List Nat} (v : VecR h k p n c lo rs) (kk : Keep h h' F) (hF : ∀ b ∈ blks p, b ∉ F) : VecR h' k p n c lo rs := by
  obtain ⟨h1, h0, h2⟩ := v
  refine ⟨h1, h0, ?_⟩
  rcases h2 with h2 | ⟨b, x, rfl, h3, h4, h5, h6⟩
  · exact .inl h2
  · exact .inr ⟨b, x, rfl, h3, h4.keep kk (hF b (by simp [blks])), h5, h6⟩

theorem VecR.lt (v : VecR h k p n c lo rs) : ∀ b ∈ blks p, b < h.size ∧ lo ≤ b := by
  intro b hb
  rcases v.2.2 with ⟨rfl, _, _⟩ | ⟨b', x, rfl, h3, h4, _⟩
  · simp [blks] at hb
  · simp only [blks, List.mem_singleton] at hb
    rw [hb]; exact ⟨h4.lt, h3⟩

theorem VecR.mono {lo' : Nat} (v : VecR h k p n c lo rs) (hl : lo' ≤ lo) : VecR h k p n c lo' rs := by
  obtain ⟨h1, h0, h2⟩ := v
  refine ⟨h1, h0, ?_⟩
  rcases h2 with h2 | ⟨b, x, rfl, h3, h4, h5⟩
  · exact .inl h2
  · exact .inr ⟨b, x, rfl, Nat.le_trans hl h3, h4, h5⟩

theorem VecR.at (v : VecR h k p n c lo rs) {i : Nat} {r : List Value} (hi : rs[i]? = some r) : ∃ b x, p = some ⟨b, 0, none⟩ ∧ lo ≤ b ∧ Blk h b (rs.flatten ++ x) ∧ rowAt h ⟨b, i * k, none⟩ k = some r ∧ (∀ j w, r[j]? = some w → cellAt h ⟨b, i * k + j, none⟩ = some w) ∧ (∀ j, j < k → okAt h ⟨b, i * k + j, none⟩) ∧ okRow h ⟨b, i * k, none⟩ k := by
  obtain ⟨hlt, _⟩ := List.getElem?_eq_some_iff.1 hi
  obtain ⟨h1, h0, h2⟩ := v
  rcases h2 with ⟨_, _, rfl⟩ | ⟨b, x, rfl, h3, h4, h5, h6⟩
  · simp at hlt
  · have hroom := flat_room h0 hlt
    have hr := flat_row k rs i r h0 hi
    have hlen : r.length = k := h0 r (List.mem_of_getElem? hi)
    have hrow : rowAt h ⟨b, i * k, none⟩ k = some r := by
      rw [h4.row (by rw [List.length_append]; omega), List.drop_append_of_le_length (by omega), List.take_append_of_le_length (by rw [List.length_drop]; omega), hr]
    refine ⟨b, x, rfl, h3, h4, hrow, fun j w hj => ?_, fun j hj => h4.ok (by rw [List.length_append]; omega), h4.okRow (by rw [List.length_append]; omega)⟩
    have := (cellAt_of_row hrow).2 j w hj
    rwa [addr_add] at this

theorem VecR.set (v : VecR h k p n c lo rs) {i j : Nat} {r : List Value} (hi : rs[i]? = some r) (hj : j < k) (w : Value) {b : Nat} (hp : p = some ⟨b, 0, none⟩) (hh : h' = upd h ⟨b, i * k + j, none⟩ w) : VecR h' k p n c lo (rs.set i (r.set j w)) := by
  obtain ⟨hlt, _⟩ := List.getElem?_eq_some_iff.1 hi
  obtain ⟨h1, h0, h2⟩ := v
  have hlen : r.length = k := h0 r (List.mem_of_getElem? hi)
  refine ⟨by rw [List.length_set]; exact h1, fun r' hr' => ?_, ?_⟩
  · rcases List.mem_or_eq_of_mem_set hr' with h | rfl
    · exact h0 r' h
    · rw [List.length_set]; exact hlen
  rcases h2 with ⟨_, _, rfl⟩ | ⟨b', x, hp', h3, h4, h5, h6⟩
  · simp at hlt
  · rw [hp] at hp'
    cases hp'
    have hroom := flat_room h0 hlt
    have hr := flat_row k rs i r h0 hi
    refine .inr ⟨b, x, hp, h3, ?_, h5, h6⟩
    have b2 := h4.upd (i * k + j) w
    rw [← hh] at b2
    have e1 : (rs.flatten ++ x).set (i * k + j) w = rs.flatten.set (i * k + j) w ++ x := List.set_append_left _ _ (by omega)
    rw [e1] at b2
    have e2 : rs.flatten.set (i * k + j) w = (rs.set i (r.set j w)).flatten := by
      rw [← flat_set k rs i (r.set j w) h0 hlt]
      have e3 : rs.flatten = rs.flatten.take (i * k) ++ r ++ rs.flatten.drop (i * k + k) := by
        rw [← hr]
        conv => lhs; rw [← List.take_append_drop (i * k) rs.flatten]
        rw [List.append_assoc]
        congr 1
        conv => lhs; rw [← List.take_append_drop k (rs.flatten.drop (i * k))]
        rw [List.drop_drop]
      conv => lhs; rw [e3]
      rw [List.append_assoc, List.set_append_right _ _ (by rw [List.length_take]; omega)]
      rw [show i * k + j - (List.take (i * k) rs.flatten).length = j by rw [List.length_take]; omega]
      rw [List.set_append_left _ _ (by omega), List.append_assoc]
    rw [e2] at b2
    exact b2

/-- One more. -/
theorem VecR.append (V : VecR h k p n c lo rs) (hlo : lo ≤ h.size) (row z : List Value) (hk : row.length = k) (hz : z.length = k) (hw : ∀ v ∈ row, isCell v = true) (e : TypeId) (sz : Nat) (hsz : 0 < sz) (hs : (n + 1) * sz ≤ 70368744177664) (K : Heap → Option Addr → Nat → Prop)
    (hK : ∀ h' p' c', VecR h' k p' (n + 1) c' lo (rs ++ [row]) → Keep h h' (blks p) → (∀ b ∈ blks p', b ∈ blks p ∨ h.size ≤ b) → K h' p' c') (n7 : Nat) (h4 : Heap) (hn7 : n7 = h.size) (hh4 : h4 = h.push (.cells ⟨row⟩ e (0, 0))) :
    ∃ l1, srcIs h4 k 1 (.slice (some ⟨n7, 0, none⟩) 1 1) l1 ∧ (∀ v, v ∈ l1 → isCell v = true) ∧ l1.length = k ∧
      (n + 1 ≤ c → match (generalizing := false) p with
        | some a1 => okRow h4 (a1.add (n * k)) l1.length ∧ ∀ h5, h5 = updRow h4 (a1.add (n * k)) 0 l1 → K h5 p c
        | none => K h4 p c) ∧
      (c < n + 1 → (n + 1) * sz ≤ 70368744177664 ∧ 0 < sz ∧ ∃ l2, srcIs h4 k n (.slice p n c) l2 ∧ ∀ n8, n + 1 ≤ n8 → ∀ (n9 : Nat) (h5 : Heap), n9 = h4.size → h5 = h4.push (.cells ⟨List.append (List.append l2 l1) (zrow z (n8 - (n + 1)))⟩ e (0, 0)) → K h5 (some ⟨n9, 0, none⟩) n8) := by
  have k4 : Keep h h4 [] := by rw [hh4]; exact Keep.push _ _ _
  have b4 : Blk h4 n7 row := by rw [hh4, hn7]; exact Blk.new _ _ _
  have s4 : h4.size = h.size + 1 := by rw [hh4]; simp
  have hrows : ∀ r ∈ rs ++ [row], r.length = k := fun r hr => by
    rcases List.mem_append.1 hr with h | h
    · exact V.2.1 r h
    · rw [List.mem_singleton.1 h]; exact hk
  refine ⟨row, ?_, hw, hk, ?_, ?_⟩
  · show rowAt h4 ⟨n7, 0, none⟩ (1 * k) = some row
    rw [b4.row (by omega)]
    simp [← hk]
  · intro hle
    obtain ⟨h1, h0, h2⟩ := V
    rcases h2 with ⟨rfl, hc, _⟩ | ⟨b, x, rfl, h3, hb, hcn, hx⟩
    · omega
    · have hb4 := hb.keep k4 (by simp)
      have hfl : rs.flatten.length = n * k := by rw [flat_len k rs h0, h1]
      have hxk : k ≤ x.length := by
        rw [hx, show c - n = (c - (n + 1)) + 1 by omega, Nat.succ_mul]
        omega
      simp only [addr_add, Nat.zero_add]
      refine ⟨hb4.okRow (by rw [List.length_append]; omega), fun h5 hh5 => hK h5 _ c ⟨by simp [h1], hrows, .inr ⟨b, x.drop k, rfl, h3, ?_, hle, ?_⟩⟩ ?_ (fun _ hb => .inl hb)⟩
      · have := hb4.updRow (k := n * k) (vs := row) (by rw [List.length_append]; omega)
        rw [← hh5] at this
        have e1 : (rs.flatten ++ x).take (n * k) = rs.flatten := by rw [← hfl]; simp
        have e2 : (rs.flatten ++ x).drop (n * k + row.length) = x.drop k := by rw [← hfl, List.drop_append, hk]; simp
        rw [e1, e2] at this
        simpa using this
      · rw [List.length_drop, hx, show c - n = (c - (n + 1)) + 1 by omega, Nat.succ_mul]
        omega
      · refine (k4.mono (F' := blks (some ⟨b, 0, none⟩)) (by simp)).trans' ?_
        rw [hh5]
        exact Keep.updRow _ _ _ _ _ (by simp [blks])
  · intro _
    refine ⟨hs, hsz, rs.flatten, ?_, fun n8 hn8 n9 h5 hn9 hh5 => hK h5 _ n8 ⟨by simp [V.1], hrows, .inr ⟨n9, zrow z (n8 - (n + 1)), rfl, by omega, ?_, hn8, ?_⟩⟩ ?_ ?_⟩
    · obtain ⟨h1, h0, h2⟩ := V
      rcases h2 with ⟨rfl, hc, rfl⟩ | ⟨b, x, rfl, h3, hb, hcn, hx⟩
      · rfl
      · show rowAt h4 ⟨b, 0, none⟩ (n * k) = some rs.flatten
        have hfl : rs.flatten.length = n * k := by rw [flat_len k rs h0, h1]
        rw [(hb.keep k4 (by simp)).row (by rw [List.length_append]; omega), ← hfl]
        simp
    · rw [hh5, hn9]
      have := Blk.new h4 (List.append (List.append rs.flatten row) (zrow z (n8 - (n + 1)))) e
      simpa using this
    · rw [zrow_len, hz]
    · refine (k4.mono (by simp)).trans' ?_
      rw [hh5]
      exact Keep.push _ _ _
    · intro b hb
      simp only [blks, List.mem_singleton] at hb
      right; omega

end
end Go.Proofs.YtfapgccnhonoiaaGreat

/- The references: one row of bytes behind another. -/
namespace Go.Proofs.YtfapgccnhonoiaaGreat

/-- A slice of bytes, be it empty. -/
def SlB (h : Heap) (q : Option Addr) (l : Nat) (pg : List Value) : Prop :=
  (∀ v ∈ pg, ∃ n : Int, v = .int .u8 n) ∧ pg.length = l ∧ ((q = none ∧ l = 0) ∨ ∃ b o, q = some ⟨b, o, none⟩ ∧ b < h.size ∧ rowAt h ⟨b, o, none⟩ l = some pg)

theorem SlB.nil (h : Heap) : SlB h none 0 [] := ⟨nofun, rfl, .inl ⟨rfl, rfl⟩⟩

theorem SlB.keep {h h' : Heap} {q : Option Addr} {l : Nat} {pg : List Value} (s : SlB h q l pg) (k : Keep h h' []) : SlB h' q l pg := by
  obtain ⟨h1, h2, h3⟩ := s
  refine ⟨h1, h2, ?_⟩
  rcases h3 with h3 | ⟨b, o, rfl, hb, hr⟩
  · exact .inl h3
  · exact .inr ⟨b, o, rfl, Nat.lt_of_lt_of_le hb k.size, by rw [rowAt_same (k.same b hb (by simp))]; exact hr⟩

theorem SlB.src {h : Heap} {q : Option Addr} {l c : Nat} {pg : List Value} (s : SlB h q l pg) : srcIs h 1 l (.slice q l c) pg ∧ (∀ v, v ∈ pg → isCell v = true) ∧ pg.length = l * 1 := by
  obtain ⟨h1, h2, h3⟩ := s
  refine ⟨?_, fun v hv => by obtain ⟨n, rfl⟩ := h1 v hv; rfl, by omega⟩
  rcases h3 with ⟨rfl, rfl⟩ | ⟨b, o, rfl, hb, hr⟩
  · exact List.eq_nil_of_length_eq_zero h2
  · show rowAt h ⟨b, o, none⟩ (l * 1) = some pg
    rw [Nat.mul_one]; exact hr

theorem SlAt.b {h : Heap} {q : Option Addr} {l : Nat} {pg : List Value} {F : List Nat} (s : SlAt h q l pg F) (h0 : 0 < l) : SlB h q l pg := by
  obtain ⟨h1, h2, h3⟩ := s
  obtain ⟨b, o, rfl, _, hb, hr⟩ := h3.resolve_left (by omega)
  exact ⟨h2, h1, .inr ⟨b, o, rfl, hb, hr⟩⟩

/-- More bytes behind those of a slice whose array is known. -/
theorem ext_ok {h : Heap} {b n c : Nat} {vs x : List Value} (hb : Blk h b (vs ++ x)) (hn : n = vs.length) (hx : n + x.length = c) {q : Option Addr} {l cq : Nat} {pg : List Value} (s : SlB h q l pg) (z : Value) (ty : TypeId) (hs : (n + l) * 1 ≤ 70368744177664) (K : Heap → Nat → Nat → Prop)
    (hK : ∀ h' b' c' x', Blk h' b' ((vs ++ pg) ++ x') → n + l + x'.length = c' → Keep h h' [b] → (b' = b ∨ h.size ≤ b') → K h' b' c') :
    ∃ l1, srcIs h 1 l (.slice q l cq) l1 ∧ (∀ v, v ∈ l1 → isCell v = true) ∧ l1.length = l * 1 ∧
      (n + l ≤ c → okRow h (Addr.add ⟨b, 0, none⟩ (n * 1)) l1.length ∧ ∀ h', h' = updRow h (Addr.add ⟨b, 0, none⟩ (n * 1)) 0 l1 → K h' b c) ∧
      (c < n + l → (n + l) * 1 ≤ 70368744177664 ∧ 0 < 1 ∧ ∃ l3, srcIs h 1 n (.slice (some ⟨b, 0, none⟩) n c) l3 ∧ ∀ n2, n + l ≤ n2 → ∀ (n3 : Nat) (h' : Heap), n3 = h.size → h' = h.push (.cells ⟨List.append (List.append l3 l1) (zrow [z] (n2 - (n + l)))⟩ ty (0, 0)) → K h' n3 n2) := by
  obtain ⟨s1, s2, s3⟩ := s.src (c := cq)
  have hl : pg.length = l := s.2.1
  refine ⟨pg, s1, s2, s3, fun hle => ?_, fun hlt => ⟨hs, by omega, vs, ?_, fun n2 hn2 n3 h' hn3 hh' => ?_⟩⟩
  · rw [addr_add, Nat.zero_add, Nat.mul_one]
    refine ⟨hb.okRow (by rw [List.length_append]; omega), fun h' hh' => hK h' b c (x.drop l) ?_ (by rw [List.length_drop]; omega) (by rw [hh']; exact Keep.updRow _ _ _ _ _ (by simp)) (.inl rfl)⟩
    have := hb.updRow (k := n) (vs := pg) (by rw [List.length_append]; omega)
    rw [← hh'] at this
    have e1 : (vs ++ x).take n = vs := by rw [hn]; simp
    have e2 : (vs ++ x).drop (n + pg.length) = x.drop l := by rw [hn, List.drop_append, hl]; simp
    rw [e1, e2] at this
    exact this
  · show rowAt h ⟨b, 0, none⟩ (n * 1) = some vs
    rw [hb.row (by rw [List.length_append]; omega), hn]
    simp
  · refine hK h' n3 n2 (zrow [z] (n2 - (n + l))) ?_ (by rw [zrow_len]; simp; omega) (by rw [hh']; exact Keep.push _ _ _) (.inr (by omega))
    rw [hh', hn3]
    exact Blk.new _ _ _

theorem rJoin_ok {h : Heap} {q1 q2 : Option Addr} {l1 l2 c1 c2 : Nat} {pg1 pg2 : List Value} (s1 : SlB h q1 l1 pg1) (s2 : SlB h q2 l2 pg2) (hl : l1 + l2 ≤ 1000000000) : CallH Tryz.prog 51 ⟨[.slice q1 l1 c1, .slice q2 l2 c2]⟩ h fun v h' =>
    ∃ b cap x, v = .slice (some ⟨b, 0, none⟩) (l1 + l2) cap ∧ Blk h' b ((pg1 ++ pg2) ++ x) ∧ l1 + l2 + x.length = cap ∧ h.size ≤ b ∧ Keep h h' [] := by
  refine rJoin_call q1 l1 c1 q2 l2 c2 ⟨trivial, fun n1 h0 hn1 hh0 => ?_⟩
  have k0 : Keep h h0 [] := by rw [hh0]; exact Keep.push _ _ _
  have b0 : Blk h0 n1 ([] ++ []) := by rw [hh0, hn1]; exact Blk.new _ _ _
  have s0 := k0.size
  have e2 := ext_ok (n := 0) (c := 0) b0 rfl rfl (s1.keep k0) (cq := c1) (.int .u8 (Int.ofNat 0)) 5 (by omega) (fun h' b c => ∃ m, srcIs h' 1 l2 (.slice q2 l2 c2) m ∧ (∀ v, v ∈ m → isCell v = true) ∧ m.length = l2 * 1 ∧
    (0 + l1 + l2 ≤ c → okRow h' (Addr.add ⟨b, 0, none⟩ ((0 + l1) * 1)) m.length ∧ ∀ h2, h2 = updRow h' (Addr.add ⟨b, 0, none⟩ ((0 + l1) * 1)) 0 m → ∃ b' cap x, Value.slice (some ⟨b, 0, none⟩) (0 + l1 + l2) c = .slice (some ⟨b', 0, none⟩) (l1 + l2) cap ∧ Blk h2 b' ((pg1 ++ pg2) ++ x) ∧ l1 + l2 + x.length = cap ∧ h.size ≤ b' ∧ Keep h h2 []) ∧
    (c < 0 + l1 + l2 → (0 + l1 + l2) * 1 ≤ 70368744177664 ∧ 0 < 1 ∧ ∃ l3, srcIs h' 1 (0 + l1) (.slice (some ⟨b, 0, none⟩) (0 + l1) c) l3 ∧ ∀ n2, 0 + l1 + l2 ≤ n2 → ∀ (n3 : Nat) (h2 : Heap), n3 = h'.size → h2 = h'.push (.cells ⟨List.append (List.append l3 m) (zrow [.int .u8 (Int.ofNat 0)] (n2 - (0 + l1 + l2)))⟩ 5 (0, 0)) →
      ∃ b' cap x, Value.slice (some ⟨n3, 0, none⟩) (0 + l1 + l2) n2 = .slice (some ⟨b', 0, none⟩) (l1 + l2) cap ∧ Blk h2 b' ((pg1 ++ pg2) ++ x) ∧ l1 + l2 + x.length = cap ∧ h.size ≤ b' ∧ Keep h h2 [])) ?_
  · exact e2
  intro h' b c x hb hx kk hbb
  have hl1 : pg1.length = l1 := s1.2.1
  have hbge : h.size ≤ b := by rcases hbb with rfl | h1 <;> omega
  have kh : Keep h h' [] := k0.trans kk (by simp; omega)
  exact ext_ok hb (by simp [hl1]) (by omega) (s2.keep kh) (.int .u8 (Int.ofNat 0)) 5 (by omega) (fun h2 b2 c2 => ∃ b' cap x, Value.slice (some ⟨b2, 0, none⟩) (0 + l1 + l2) c2 = .slice (some ⟨b', 0, none⟩) (l1 + l2) cap ∧ Blk h2 b' ((pg1 ++ pg2) ++ x) ∧ l1 + l2 + x.length = cap ∧ h.size ≤ b' ∧ Keep h h2 [])
    fun h2 b2 c2 x2 hb2 hx2 kk2 hbb2 => ⟨b2, c2, x2, by rw [Nat.zero_add], by simpa using hb2, by omega, by have := kh.size; rcases hbb2 with rfl | h1 <;> omega, kh.trans kk2 (by simp; exact hbge)⟩

end Go.Proofs.YtfapgccnhonoiaaGreat

/- The reference's disk: what it is, told without places. Part 1. -/
namespace Go.Proofs.YtfapgccnhonoiaaGreat

abbrev Pg := List Value

/-- A slice of a page's bytes, in none of the blocks X. -/
def ByV (h : Heap) (X : List Nat) (v : Value) (pg : Pg) : Prop := okPage pg ∧ ∃ b cap x, v = .slice (some ⟨b, 0, none⟩) 256 cap ∧ Blk h b (pg ++ x) ∧ 256 + x.length = cap ∧ b ∉ X

theorem ByV.move {h h' : Heap} {X X' F : List Nat} {v : Value} {pg : Pg} (s : ByV h X v pg) (k : Keep h h' F) (hF : ∀ b ∈ F, b ∈ X ∨ h.size ≤ b) (hX : ∀ b ∈ X', b ∈ X ∨ h.size ≤ b) : ByV h' X' v pg := by
  obtain ⟨h1, b, cap, x, h2, h3, h4, h5⟩ := s
  have hlt := h3.lt
  have off : ∀ {Y : List Nat}, (∀ b ∈ Y, b ∈ X ∨ h.size ≤ b) → b ∉ Y := fun hY hb => (hY b hb).elim h5 fun h => by omega
  exact ⟨h1, b, cap, x, h2, h3.keep k (off hF), h4, off hX⟩

theorem ByV.slB {h : Heap} {X : List Nat} {v : Value} {pg : Pg} (s : ByV h X v pg) : ∃ b cap, v = .slice (some ⟨b, 0, none⟩) 256 cap ∧ 256 ≤ cap ∧ SlB h (some ⟨b, 0, none⟩) 256 pg ∧ SlAt h (some ⟨b, 0, none⟩) 256 pg X := by
  obtain ⟨h1, b, cap, x, h2, h3, h4, h5⟩ := s
  have hr : rowAt h ⟨b, 0, none⟩ 256 = some pg := by
    rw [h3.row (by rw [List.length_append, h1.1]; omega), List.drop_zero, List.take_append_of_le_length (by rw [h1.1]; omega), List.take_of_length_le (by rw [h1.1]; omega)]
  exact ⟨b, cap, h2, by omega, ⟨h1.2, h1.1, .inr ⟨b, 0, rfl, h3.lt, hr⟩⟩, ⟨h1.1, h1.2, .inr ⟨b, 0, rfl, h5, h3.lt, hr⟩⟩⟩

theorem ByV.isSl {h : Heap} {X : List Nat} {v : Value} {pg : Pg} (s : ByV h X v pg) : isCell v = true := by
  obtain ⟨_, b, cap, x, rfl, _⟩ := s
  rfl

structure RDk where
  S : List Pg
  W : List (Int × Pg)
  left : Int
  off : Bool
  done : Int

structure Rp where
  sp : Option Addr
  sc : Nat
  wp : Option Addr
  wc : Nat
  sr : List (List Value)
  wr : List (List Value)

def Rp.mut (p : Rp) (u : Nat) : List Nat := u :: (blks p.sp ++ blks p.wp)

def sRow (h : Heap) (X : List Nat) (r : List Value) (pg : Pg) : Prop := ∃ v, r = [v] ∧ ByV h X v pg
def wRow (h : Heap) (X : List Nat) (r : List Value) (w : Int × Pg) : Prop := ∃ v, r = [i64 w.1, v] ∧ ByV h X v w.2

structure RdR (h : Heap) (u : Nat) (E : RDk) (p : Rp) (X : List Nat) : Prop where
  blk : Blk h u [.slice p.sp E.S.length p.sc, .slice p.wp E.W.length p.wc, i64 E.left, .bool E.off, i64 E.done]
  sv : VecR h 1 p.sp E.S.length p.sc 0 p.sr
  wv : VecR h 2 p.wp E.W.length p.wc 0 p.wr
  sq : RowsR (sRow h (p.mut u ++ X)) p.sr E.S
  wq : RowsR (wRow h (p.mut u ++ X)) p.wr E.W
  nodup : (p.mut u).Nodup
  apart : ∀ b ∈ p.mut u, b ∉ X
  many : 0 < E.S.length
  few : E.S.length ≤ 2048 ∧ E.W.length ≤ 1000000
  keys : ∀ w ∈ E.W, 0 ≤ w.1 ∧ w.1 < E.S.length

section
variable {h h' : Heap} {u : Nat} {E : RDk} {p : Rp} {X X' F : List Nat}

theorem RdR.lt (r : RdR h u E p X) : ∀ b ∈ p.mut u, b < h.size := by
  intro b hb
  simp only [Rp.mut, List.mem_cons, List.mem_append] at hb
  rcases hb with rfl | hb | hb
  · exact r.blk.lt
  · exact (r.sv.lt b hb).1
  · exact (r.wv.lt b hb).1

theorem rows_move {h h' : Heap} {X X' F : List Nat} (k : Keep h h' F) (hF : ∀ b ∈ F, b ∈ X ∨ h.size ≤ b) (hX : ∀ b ∈ X', b ∈ X ∨ h.size ≤ b) :
    (∀ {rs l}, RowsR (sRow h X) rs l → RowsR (sRow h' X') rs l) ∧ (∀ {rs l}, RowsR (wRow h X) rs l → RowsR (wRow h' X') rs l) :=
  ⟨fun q => q.mono fun _ _ ⟨v, h1, h2⟩ => ⟨v, h1, h2.move k hF hX⟩, fun q => q.mono fun _ _ ⟨v, h1, h2⟩ => ⟨v, h1, h2.move k hF hX⟩⟩

/-- What others do leaves it. -/
theorem RdR.frame (r : RdR h u E p X) (k : Keep h h' F) (hF : ∀ b ∈ F, b ∈ X ∨ h.size ≤ b) (hX : ∀ b ∈ X', b ∈ X ∨ h.size ≤ b) : RdR h' u E p X' := by
  have off : ∀ {Y : List Nat}, (∀ b ∈ Y, b ∈ X ∨ h.size ≤ b) → ∀ b ∈ p.mut u, b ∉ Y := fun hY b hb hx => (hY b hx).elim (r.apart b hb) fun h => by have := r.lt b hb; omega
  have m := rows_move (X := p.mut u ++ X) (X' := p.mut u ++ X') k (fun b hb => (hF b hb).imp (List.mem_append_right _) id) fun b hb => (List.mem_append.1 hb).elim (fun h => .inl (List.mem_append_left _ h)) fun h => (hX b h).imp (List.mem_append_right _) id
  exact ⟨r.blk.keep k (off hF u (by simp [Rp.mut])), r.sv.keep k fun b hb => off hF b (by simp [Rp.mut, hb]), r.wv.keep k fun b hb => off hF b (by simp [Rp.mut, hb]), m.1 r.sq, m.2 r.wq, r.nodup, off hX, r.many, r.few, r.keys⟩

/-- Behind a call of its own. -/
def RPost (h h' : Heap) (u : Nat) (p : Rp) (E' : RDk) (X : List Nat) : Prop := ∃ p', RdR h' u E' p' X ∧ Fr h h' (p.mut u) (p'.mut u)

theorem RPost.same (r : RdR h u E p X) : RPost h h u p E X := ⟨p, r, Keep.refl _ _, fun _ hb => .inl hb⟩

theorem Fr.trans {h h' h'' : Heap} {A B C : List Nat} (f : Fr h h' A B) (g : Fr h' h'' B C) : Fr h h'' A C :=
  ⟨f.keep.trans g.keep f.sub, fun b hb => (g.sub b hb).elim (f.sub b) fun h => .inr (Nat.le_trans f.keep.size h)⟩

theorem RPost.via {h'' : Heap} {p' : Rp} {E'' : RDk} (f : Fr h h' (p.mut u) (p'.mut u)) (x : RPost h' h'' u p' E'' X) : RPost h h'' u p E'' X := by
  obtain ⟨p2, r, g⟩ := x
  exact ⟨p2, r, f.trans g⟩

/-- Only the first block has changed, in its last three places. -/
theorem RdR.flags (r : RdR h u E p X) (left : Int) (off : Bool) (done : Int) (k : Keep h h' [u]) (hb : Blk h' u [.slice p.sp E.S.length p.sc, .slice p.wp E.W.length p.wc, i64 left, .bool off, i64 done]) :
    RPost h h' u p { E with left := left, off := off, done := done } X := by
  have hn := r.nodup
  simp only [Rp.mut, List.nodup_cons, List.mem_append, not_or] at hn
  have m := rows_move (X := p.mut u ++ X) (X' := p.mut u ++ X) k (fun b hb => .inl (by simp only [List.mem_singleton] at hb; rw [hb]; simp [Rp.mut])) fun b hb => .inl hb
  exact ⟨p, ⟨hb, r.sv.keep k (fun x hx => by simp only [List.mem_singleton]; rintro rfl; exact hn.1.1 hx), r.wv.keep k (fun x hx => by simp only [List.mem_singleton]; rintro rfl; exact hn.1.2 hx), m.1 r.sq, m.2 r.wq, r.nodup, r.apart, r.many, r.few, r.keys⟩,
    ⟨k.mono fun b hb => .inl (by simp only [List.mem_singleton] at hb; rw [hb]; simp [Rp.mut]), fun b hb => .inl hb⟩⟩

theorem rdIs_ok (r : RdR h u E p X) (k : Int) : CallH Tryz.prog 50 ⟨[ptr u, i64 k]⟩ h fun v h' => v = .bool (decide (0 ≤ k ∧ k < E.S.length)) ∧ h' = h := by
  refine rdIs_call u k ⟨fun e => ⟨_, _, _, r.blk.cell rfl, ?_, rfl⟩, fun e => ⟨?_, rfl⟩⟩
  · have : 0 ≤ k := of_decide_eq_true e
    simp [this]
  · have : ¬ 0 ≤ k := of_decide_eq_false e
    simp [this]

/-- What a page shows. -/
def RDk.showR (E : RDk) (k : Int) (pg : Pg) : Prop :=
  (∃ i : Nat, E.W[i]? = some (k, pg) ∧ ∀ j w, i < j → E.W[j]? = some w → w.1 ≠ k) ∨ ((∀ w ∈ E.W, w.1 ≠ k) ∧ E.S[k.toNat]? = some pg)

theorem rdShows_ok (r : RdR h u E p X) (k : Int) (h0 : 0 ≤ k) (h1 : k < E.S.length) : CallH Tryz.prog 52 ⟨[ptr u, i64 k]⟩ h fun v h' => h' = h ∧ ∃ pg, E.showR k pg ∧ ByV h (p.mut u ++ X) v pg := by
  have hfew := r.few
  have hlen := r.wq.len
  refine rdShows_call u k ⟨_, _, _, r.blk.cell rfl, fun i hh => hh = h ∧ -1 ≤ i ∧ i < E.W.length ∧ ∀ (j : Nat) w, i < j → E.W[j]? = some w → w.1 ≠ k, fun i _ => (i + 1).toNat, ?_, ?_⟩
  · rw [w64 _ (by omega) (by omega)]
    refine ⟨rfl, by omega, by omega, fun j w hj hw => ?_⟩
    have := (List.getElem?_eq_some_iff.1 hw).1
    omega
  rintro i hh ⟨rfl, hi1, hi2, hi3⟩
  refine ⟨fun e => ?_, fun e => ?_⟩
  · have hi0 : 0 ≤ i := of_decide_eq_true e
    have hlt : i.toNat < E.W.length := by omega
    obtain ⟨w, hw⟩ : ∃ w, E.W[i.toNat]? = some w := ⟨_, List.getElem?_eq_getElem hlt⟩
    obtain ⟨row, hrow, v, rfl, hv⟩ := r.wq.get hw
    obtain ⟨b, x, hp, _, _, _, hcell, _⟩ := r.wv.at hrow
    refine ⟨_, _, _, r.blk.cell rfl, ?_⟩
    rw [hp]
    refine ⟨⟨hi0, by omega⟩, w.1, by rw [addr_add]; simpa using hcell 0 (i64 w.1) rfl, fun t => ?_, fun t => ?_⟩
    · have hwk : w.1 = k := by simpa using t
      obtain ⟨b2, cap, hv2, _⟩ := hv.slB
      refine ⟨_, _, _, r.blk.cell rfl, ?_⟩
      rw [hp]
      refine ⟨⟨hi0, by omega⟩, some ⟨b2, 0, none⟩, 256, cap, by rw [addr_add, addr_add]; simpa [hv2] using hcell 1 v rfl, rfl, w.2, .inl ⟨i.toNat, by rw [hw, ← hwk], fun j w' hj hw' => hi3 j w' (by omega) hw'⟩, by rw [← hv2]; exact hv⟩
    · have hwk : w.1 ≠ k := by simpa using t
      rw [w64 _ (by omega) (by omega)]
      refine ⟨⟨rfl, by omega, by omega, fun j w' hj hw' => ?_⟩, ?_⟩
      · by_cases hji : i < j
        · exact hi3 j w' hji hw'
        · have : j = i.toNat := by omega
          rw [this, hw] at hw'
          rw [← Option.some.inj hw']
          exact hwk
      · show (i - 1 + 1).toNat < (i + 1).toNat
        omega
  · have hi0 : ¬ 0 ≤ i := of_decide_eq_false e
    have hlt : k.toNat < E.S.length := by omega
    obtain ⟨pg, hpg⟩ : ∃ pg, E.S[k.toNat]? = some pg := ⟨_, List.getElem?_eq_getElem hlt⟩
    obtain ⟨row, hrow, v, rfl, hv⟩ := r.sq.get hpg
    obtain ⟨b, x, hp, _, _, _, hcell, _⟩ := r.sv.at hrow
    obtain ⟨b2, cap, hv2, _⟩ := hv.slB
    refine ⟨_, _, _, r.blk.cell rfl, ?_⟩
    rw [hp]
    refine ⟨⟨h0, h1⟩, some ⟨b2, 0, none⟩, 256, cap, by rw [addr_add]; simpa [hv2] using hcell 0 v rfl, rfl, pg, .inr ⟨fun w hw => ?_, hpg⟩, by rw [← hv2]; exact hv⟩
    obtain ⟨j, hj, rfl⟩ := List.getElem_of_mem hw
    exact hi3 j _ (by omega) (List.getElem?_eq_getElem hj)

/-- A page's own copy. -/
theorem rdRead_ok (r : RdR h u E p X) (k : Int) : CallH Tryz.prog 14 ⟨[ptr u, i64 k]⟩ h fun v h' => Keep h h' [] ∧
    (¬ (0 ≤ k ∧ k < E.S.length) → v = .tuple ⟨[.slice none 0 0, i64 1]⟩) ∧ ((0 ≤ k ∧ k < E.S.length) → E.off = true → v = .tuple ⟨[.slice none 0 0, i64 5]⟩) ∧
    ((0 ≤ k ∧ k < E.S.length) → E.off = false → ∃ pg b cap x, E.showR k pg ∧ okPage pg ∧ v = .tuple ⟨[.slice (some ⟨b, 0, none⟩) 256 cap, i64 0]⟩ ∧ Blk h' b (pg ++ x) ∧ 256 + x.length = cap ∧ h.size ≤ b) := by
  refine rdRead_call u k ⟨by kernel_rfl, (rdIs_ok r k).mono ?_⟩
  rintro _ h1 ⟨rfl, rfl⟩
  refine ⟨_, rfl, fun e => ?_, fun e => ?_⟩
  · have hk : ¬ (0 ≤ k ∧ k < E.S.length) := by
      intro hk
      simp [hk] at e
    exact ⟨Keep.refl _ _, fun _ => rfl, fun h => absurd h hk, fun h => absurd h hk⟩
  have hk : 0 ≤ k ∧ k < E.S.length := by simpa using e
  refine ⟨_, r.blk.cell rfl, fun eo => ?_, fun eo => ⟨by kernel_rfl, (rdShows_ok r k hk.1 hk.2).mono ?_⟩⟩
  · exact ⟨Keep.refl _ _, fun h => absurd hk h, fun _ _ => rfl, (fun _ h => by rw [eo] at h; cases h)⟩
  rintro v h2 ⟨rfl, pg, hsh, hv⟩
  obtain ⟨b, cap, rfl, hcap, hs, _⟩ := hv.slB
  refine ⟨_, _, _, rfl, by kernel_rfl, (rJoin_ok (c1 := 0) (c2 := cap) (SlB.nil h2) hs (by omega)).mono ?_⟩
  rintro _ h3 ⟨b3, cap3, x3, rfl, hb3, hx3, hge, k3⟩
  exact ⟨_, _, _, rfl, k3, fun h => absurd hk h, (fun _ h => by rw [eo] at h; cases h), fun _ _ => ⟨pg, b3, cap3, x3, hsh, hv.1, by rw [Nat.zero_add], by simpa using hb3, by omega, hge⟩⟩

def RDk.goes (E : RDk) : RDk × Bool :=
  if E.left = 0 then ({ E with off := true }, true) else ({ E with left := if 0 < E.left then IntKind.wrap .i64 (E.left - 1) else E.left, done := IntKind.wrap .i64 (E.done + 1) }, false)

theorem rdGoes_ok (r : RdR h u E p X) : CallH Tryz.prog 72 ⟨[ptr u]⟩ h fun v h' => v = .bool E.goes.2 ∧ RPost h h' u p E.goes.1 X := by
  refine rdGoes_call u ⟨_, r.blk.cell rfl, fun e => ⟨rfl, r.blk.ok (by simp), fun h1 hh1 => ?_⟩, fun e => ⟨_, r.blk.cell rfl, fun e2 => ⟨_, r.blk.cell rfl, rfl, r.blk.ok (by simp), fun h2 hh2 => ?_⟩, fun e2 => ⟨_, r.blk.cell rfl, rfl, r.blk.ok (by simp), fun h2 hh2 => ?_⟩⟩⟩
  · have hz : E.left = 0 := by simpa using e
    have k1 : Keep h h1 [u] := by rw [hh1]; exact Keep.upd _ _ _ _ _ (by simp)
    have b1 := r.blk.upd 3 (.bool true)
    rw [← hh1] at b1
    unfold RDk.goes
    rw [if_pos hz]
    exact ⟨rfl, r.flags E.left true E.done k1 b1⟩
  · have hz : ¬ E.left = 0 := by simpa using e
    have hp : 0 < E.left := of_decide_eq_true e2
    have k2 : Keep h h2 [u] := by rw [hh2]; exact Keep.upd _ _ _ _ _ (by simp)
    have b2 := r.blk.upd 2 (i64 (IntKind.wrap .i64 (E.left - 1)))
    rw [← hh2] at b2
    refine ⟨_, b2.cell rfl, rfl, b2.ok (by simp), fun h3 hh3 => ?_⟩
    have k3 : Keep h2 h3 [u] := by rw [hh3]; exact Keep.upd _ _ _ _ _ (by simp)
    have b3 := b2.upd 4 (i64 (IntKind.wrap .i64 (E.done + 1)))
    rw [← hh3] at b3
    unfold RDk.goes
    rw [if_neg hz, if_pos hp]
    exact ⟨rfl, r.flags _ E.off _ (k2.trans' k3) b3⟩
  · have hz : ¬ E.left = 0 := by simpa using e
    have hp : ¬ 0 < E.left := of_decide_eq_false e2
    have k2 : Keep h h2 [u] := by rw [hh2]; exact Keep.upd _ _ _ _ _ (by simp)
    have b2 := r.blk.upd 4 (i64 (IntKind.wrap .i64 (E.done + 1)))
    rw [← hh2] at b2
    unfold RDk.goes
    rw [if_neg hz, if_neg hp]
    exact ⟨rfl, r.flags _ E.off _ k2 b2⟩

theorem rdArm_ok (r : RdR h u E p X) (n : Int) : CallH Tryz.prog 36 ⟨[ptr u, i64 n]⟩ h fun v h' => v = i64 (if n < 0 then 1 else if E.off then 5 else 0) ∧ RPost h h' u p (if n < 0 ∨ E.off = true then E else { E with left := n }) X := by
  refine rdArm_call u n ⟨fun e => ?_, fun e => ⟨_, r.blk.cell rfl, fun e2 => ?_, fun e2 => ⟨rfl, r.blk.ok (by simp), fun h1 hh1 => ?_⟩⟩⟩
  · have hn : n < 0 := of_decide_eq_true e
    rw [if_pos hn, if_pos (.inl hn)]
    exact ⟨rfl, RPost.same r⟩
  · have hn : ¬ n < 0 := of_decide_eq_false e
    rw [if_neg hn, if_pos e2, if_pos (.inr e2)]
    exact ⟨rfl, RPost.same r⟩
  · have hn : ¬ n < 0 := of_decide_eq_false e
    have k1 : Keep h h1 [u] := by rw [hh1]; exact Keep.upd _ _ _ _ _ (by simp)
    have b1 := r.blk.upd 2 (i64 n)
    rw [← hh1] at b1
    rw [if_neg hn, if_neg (by simp [e2]), if_neg (by simp [hn, e2])]
    exact ⟨rfl, r.flags n E.off E.done k1 b1⟩

end
end Go.Proofs.YtfapgccnhonoiaaGreat

/- The reference's disk, part 2: New, Write. -/
namespace Go.Proofs.YtfapgccnhonoiaaGreat

def RDk.new (n : Nat) : RDk := ⟨List.replicate n (bytePg 0), [], -1, false, 0⟩

def NewI (h : Heap) (n u : Nat) (X : List Nat) (i : Int) (hh : Heap) : Prop :=
  ∃ (j : Nat) (sp : Option Addr) (sc : Nat) (sr : List (List Value)), i = j ∧ j ≤ n ∧ Blk hh u [.slice sp j sc, .slice none 0 0, i64 (-1), .bool false, i64 0] ∧ VecR hh 1 sp j sc (h.size + 1) sr ∧ RowsR (sRow hh ((u :: blks sp) ++ X)) sr (List.replicate j (bytePg 0)) ∧ Keep h hh []

theorem rdNew_ok (h : Heap) (n : Nat) (h8 : 8 ≤ n) (hm : n ≤ 2048) (X : List Nat) (hX : ∀ b ∈ X, b < h.size) : CallH Tryz.prog 6 ⟨[i64 n]⟩ h fun v h' =>
    ∃ u p, v = .tuple ⟨[ptr u, i64 0]⟩ ∧ RdR h' u (RDk.new n) p X ∧ Keep h h' [] ∧ ∀ b ∈ p.mut u, h.size ≤ b := by
  refine rdNew_call n ⟨fun e => absurd (of_decide_eq_true e) (by omega), fun _ => ⟨fun e => absurd (of_decide_eq_true e) (by omega), fun _ u h0 hu hh0 => ?_⟩⟩
  have k0 : Keep h h0 [] := by rw [hh0]; exact Keep.push _ _ _
  have b0 : Blk h0 u [.slice none 0 0, .slice none 0 0, i64 (-1), .bool false, i64 0] := by rw [hh0, hu]; exact Blk.new _ _ _
  refine ⟨NewI h n u X,
    fun i _ => (n - i).toNat, ⟨0, none, 0, [], rfl, by omega, b0, VecR.nil _ _ _, trivial, k0⟩, ?_⟩
  rintro _ h1 ⟨j, sp, sc, sr, rfl, hj, b1, v1, q1, k1⟩
  have hult := b1.lt
  refine ⟨fun e => ?_, fun e => ?_⟩
  · have hjn : j < n := by have := of_decide_eq_true e; omega
    refine ⟨_, _, _, b1.cell rfl, ⟨by omega, by omega, by omega, by omega⟩, fun n4 h2 hn4 hh2 => ?_⟩
    have k2 : Keep h1 h2 [] := by rw [hh2]; exact Keep.push _ _ _
    have s2 : h2.size = h1.size + 1 := by rw [hh2]; simp
    have z2 : Blk h2 n4 (bytePg 0 ++ []) := by
      rw [hh2, hn4]
      have := Blk.new h1 (zrow [Value.int .u8 (Int.ofNat 0)] 256) 5
      rw [zrow_one] at this
      rw [zrow_one, List.append_nil]
      exact this
    have b2 := b1.keep k2 (by simp)
    refine ⟨⟨_, _, _, b2.cell rfl, rfl⟩, ⟨rfl, trivial⟩, fun n7 h3 hn7 hh3 => ⟨?_, ?_⟩⟩
    · have k3 : Keep h2 h3 [] := by rw [hh3]; exact Keep.push _ _ _
      exact ⟨_, _, _, (b2.keep k3 (by simp)).cell rfl, rfl⟩
    have wj : IntKind.wrap .i64 ((j : Int) + 1) = ((j + 1 : Nat) : Int) := by rw [w64 _ (by omega) (by omega)]; rfl
    have hk1 := k1.size
    refine VecR.append (v1.keep k2 (by simp)) (by omega) [.slice (some ⟨n4, 0, none⟩) 256 256] [.slice none 0 0] rfl rfl (by simp [isCell]) 46 24 (by omega) (by omega)
      (fun hx px cx => true = true ∧ okAt hx ⟨u, 0, none⟩ ∧ ∀ hy, hy = upd hx ⟨u, 0, none⟩ (.slice px (j + 1) cx) → NewI h n u X (IntKind.wrap .i64 ((j : Int) + 1)) hy ∧ ((n : Int) - IntKind.wrap .i64 ((j : Int) + 1)).toNat < ((n : Int) - (j : Int)).toNat) ?_ n7 h3 hn7 hh3
    intro hx px cx vx kx fx
    have hunp : u ∉ blks sp := fun hm => by have := v1.lt u hm; omega
    have bx := b2.keep kx hunp
    refine ⟨rfl, bx.ok (by simp), fun hy hhy => ?_⟩
    have ky : Keep hx hy [u] := by rw [hhy]; exact Keep.upd _ _ _ _ _ (by simp)
    have by' := bx.upd 0 (.slice px (j + 1) cx)
    rw [← hhy] at by'
    have sx := kx.size
    have upx : u ∉ blks px := fun hm => (fx u hm).elim hunp fun h => by omega
    have mem2 : ∀ b ∈ (u :: blks px) ++ X, b ∈ ((u :: blks sp) ++ X) ∨ h1.size ≤ b := fun b hb => by
      simp only [List.cons_append, List.mem_cons, List.mem_append] at hb ⊢
      rcases hb with hb | hb | hb
      · exact .inl (.inl hb)
      · exact (fx b hb).imp (fun h => .inr (.inl h)) fun h => by omega
      · exact .inl (.inr (.inr hb))
    have kxy : Keep h2 hy (u :: blks sp) := (kx.mono fun b hb => .inl (List.mem_cons_of_mem _ hb)).trans' (ky.mono (by simp))
    have k1y : Keep h1 hy (u :: blks sp) := (k2.mono (by simp)).trans' kxy
    rw [wj]
    refine ⟨⟨j + 1, px, cx, _, rfl, by omega, by', vx.keep ky (fun x hx => by simp only [List.mem_singleton]; rintro rfl; exact upx hx), ?_, ?_⟩, ?_⟩
    · rw [List.replicate_succ']
      refine RowsR.snoc (q1.mono fun r pg ⟨v, h1', h2'⟩ => ⟨v, h1', h2'.move k1y (fun b hb => .inl (by simp only [List.cons_append, List.mem_cons, List.mem_append] at hb ⊢; rcases hb with hb | hb; exact .inl hb; exact .inr (.inl hb))) mem2⟩) ⟨_, rfl, bytePg_ok 0, n4, 256, [], rfl, ?_, rfl, ?_⟩
      · refine z2.keep kxy ?_
        simp only [List.mem_cons, not_or]
        exact ⟨by omega, fun hm => by have := v1.lt n4 hm; omega⟩
      · intro hm
        simp only [List.cons_append, List.mem_cons, List.mem_append] at hm
        rcases hm with hm | hm | hm
        · omega
        · rcases fx n4 hm with h | h
          · have := v1.lt n4 h; omega
          · omega
        · have := hX n4 hm; omega
    · refine k1.trans k1y fun b hb => .inr ?_
      rcases List.mem_cons.1 hb with rfl | hb
      · omega
      · have := v1.lt b hb; omega
    · show ((n : Int) - ((j + 1 : Nat) : Int)).toNat < ((n : Int) - (j : Int)).toNat
      omega
  · have hjn : j = n := by have := of_decide_eq_false e; omega
    subst hjn
    refine ⟨u, ⟨sp, sc, none, 0, sr, []⟩, rfl, ⟨?_, ?_, VecR.nil _ _ _, ?_, trivial, ?_, ?_, ?_, ?_, nofun⟩, k1, ?_⟩
    · simpa [RDk.new] using b1
    · have := v1.mono (Nat.zero_le _)
      simpa [RDk.new] using this
    · simpa [Rp.mut, blks, RDk.new] using q1
    · simp only [Rp.mut, List.nodup_cons]
      refine ⟨fun hm => ?_, ?_⟩
      · simp only [blks, List.append_nil] at hm
        have := v1.lt u hm; omega
      · cases sp with
        | none => simp [blks]
        | some a => simp [blks]
    · intro b hb hx
      have h1 := hX b hx
      simp only [Rp.mut, List.mem_cons, List.mem_append] at hb
      rcases hb with rfl | hb | hb
      · omega
      · have := v1.lt b hb; omega
      · simp [blks] at hb
    · simp [RDk.new]; omega
    · simp [RDk.new]; omega
    · intro b hb
      simp only [Rp.mut, List.mem_cons, List.mem_append] at hb
      rcases hb with rfl | hb | hb
      · omega
      · have := v1.lt b hb; omega
      · simp [blks] at hb

def RDk.at (E : RDk) (k l : Int) : Int := if k < 0 ∨ (E.S.length : Int) ≤ k ∨ l ≠ 256 then 1 else if E.off then 5 else 0
def RDk.lay (E : RDk) (k : Int) (pg : Pg) : RDk := { E with W := E.W ++ [(k, pg)] }
def RDk.write (E : RDk) (k : Int) (pg : Pg) : RDk × Int := ((E.lay k pg).goes.1, if (E.lay k pg).goes.2 then 5 else 0)

section
variable {h h' : Heap} {u : Nat} {E : RDk} {p : Rp} {X X' F : List Nat}

theorem rdWrite_ok (r : RdR h u E p X) (hX : ∀ b ∈ X, b < h.size) (k : Int) {q : Option Addr} {l c : Nat} {pg : Pg} (s : SlB h q l pg) (hl : l ≤ 1000) (hb : E.W.length < 1000000) : CallH Tryz.prog 68 ⟨[ptr u, i64 k, .slice q l c]⟩ h fun v h' =>
    (E.at k l ≠ 0 → v = i64 (E.at k l) ∧ h' = h) ∧ (E.at k l = 0 → v = i64 (E.write k pg).2 ∧ RPost h h' u p (E.write k pg).1 X) := by
  suffices key : ∀ R : Value → Heap → Prop, (∀ v h', ((E.at k l ≠ 0 → v = i64 (E.at k l) ∧ h' = h) ∧ (E.at k l = 0 → v = i64 (E.write k pg).2 ∧ RPost h h' u p (E.write k pg).1 X)) → R v h') → CallH Tryz.prog 68 ⟨[ptr u, i64 k, .slice q l c]⟩ h R from key _ fun _ _ h => h
  intro R hR
  refine rdWrite_call u k q l c ⟨by kernel_rfl, (rdIs_ok r k).mono ?_⟩
  rintro _ h1 ⟨rfl, rfl⟩
  refine ⟨_, rfl, fun e => ?_, fun e => ?_⟩
  · have hk : E.at k l = 1 := by
      unfold RDk.at
      rw [if_pos]
      have : ¬ (0 ≤ k ∧ k < E.S.length) := by
        intro hk
        simp [hk] at e
      omega
    refine hR _ _ ?_
    rw [hk]
    exact ⟨fun _ => ⟨rfl, rfl⟩, fun h => by cases h⟩
  have hk : 0 ≤ k ∧ k < E.S.length := by simpa using e
  refine ⟨fun e2 => ?_, fun e2 => ?_⟩
  · have hl2 : (l : Int) ≠ 256 := by simpa using e2
    have : E.at k l = 1 := by unfold RDk.at; rw [if_pos (.inr (.inr hl2))]
    refine hR _ _ ?_
    rw [this]
    exact ⟨fun _ => ⟨rfl, rfl⟩, fun h => by cases h⟩
  have hl2 : l = 256 := by
    have : (l : Int) = 256 := by simpa using e2
    omega
  subst hl2
  have hpg : okPage pg := ⟨s.2.1, s.1⟩
  refine ⟨_, r.blk.cell rfl, fun eo => ?_, fun eo => ?_⟩
  · have : E.at k (256 : Nat) = 5 := by unfold RDk.at; rw [if_neg (by omega), if_pos eo]
    refine hR _ _ ?_
    rw [this]
    exact ⟨fun _ => ⟨rfl, rfl⟩, fun h => by cases h⟩
  have hat : E.at k (256 : Nat) = 0 := by unfold RDk.at; rw [if_neg (by omega), if_neg (by simp [eo])]
  refine ⟨_, _, _, r.blk.cell rfl, by kernel_rfl, (rJoin_ok (c1 := 0) (c2 := c) (SlB.nil h1) s (by omega)).mono ?_⟩
  rintro _ h2 ⟨b2, cap2, x2, rfl, hb2, hx2, hge, k2⟩
  simp only [List.nil_append] at hb2
  have r2 : RdR h2 u E p X := r.frame k2 (by simp) (fun b hb => .inl hb)
  have hrlt := r.lt
  refine ⟨_, _, _, rfl, ⟨_, _, _, r2.blk.cell rfl, rfl⟩, ⟨rfl, trivial⟩, fun n7 h3 hn7 hh3 => ⟨?_, ?_⟩⟩
  · have k3 : Keep h2 h3 [] := by rw [hh3]; exact Keep.push _ _ _
    exact ⟨_, _, _, (r2.blk.keep k3 (by simp)).cell rfl, rfl⟩
  have hfew := r.few
  have s2 := k2.size
  have hb2lt := hb2.lt
  -- the longer row of writes
  have step : ∀ hx px cx, VecR hx 2 px (E.W.length + 1) cx 0 (p.wr ++ [[i64 k, .slice (some ⟨b2, 0, none⟩) (0 + 256) cap2]]) → Keep h2 hx (blks p.wp) → (∀ b ∈ blks px, b ∈ blks p.wp ∨ h2.size ≤ b) → okAt hx ⟨u, 1, none⟩ ∧ ∀ hy, hy = upd hx ⟨u, 1, none⟩ (.slice px (E.W.length + 1) cx) →
      CallH Tryz.prog 72 ⟨[ptr u]⟩ hy fun v h' => ∃ t, v = .bool t ∧ (t = true → R (i64 5) h') ∧ (t = false → R (i64 0) h') := by
    intro hx px cx vx kx fx
    have hn := r.nodup
    simp only [Rp.mut, List.nodup_cons, List.mem_append, not_or] at hn
    have hnd := List.nodup_append.1 hn.2
    have bx := r2.blk.keep kx hn.1.2
    refine ⟨bx.ok (by simp), fun hy hhy => ?_⟩
    have ky : Keep hx hy [u] := by rw [hhy]; exact Keep.upd _ _ _ _ _ (by simp)
    have by' := bx.upd 1 (.slice px (E.W.length + 1) cx)
    rw [← hhy] at by'
    have sx := kx.size
    have sy := ky.size
    have hult := hrlt u (by simp [Rp.mut])
    have upx : u ∉ blks px := fun hm => (fx u hm).elim hn.1.2 fun h => by omega
    have kxy : Keep h2 hy (u :: blks p.wp) := (kx.mono fun b hb => .inl (List.mem_cons_of_mem _ hb)).trans' (ky.mono (by simp))
    have sub2 : ∀ b ∈ u :: blks p.wp, b ∈ p.mut u := fun b hb => by
      simp only [Rp.mut, List.mem_cons, List.mem_append] at hb ⊢
      rcases hb with hb | hb
      · exact .inl hb
      · exact .inr (.inr hb)
    have mutx : ∀ b ∈ ({ p with wp := px, wc := cx, wr := p.wr ++ [[i64 k, .slice (some ⟨b2, 0, none⟩) (0 + 256) cap2]] } : Rp).mut u, b ∈ p.mut u ∨ h2.size ≤ b := fun b hb => by
      simp only [Rp.mut, List.mem_cons, List.mem_append] at hb ⊢
      rcases hb with hb | hb | hb
      · exact .inl (.inl hb)
      · exact .inl (.inr (.inl hb))
      · exact (fx b hb).imp (fun h => .inr (.inr h)) id
    have m := rows_move (X := p.mut u ++ X) (X' := ({ p with wp := px, wc := cx, wr := p.wr ++ [[i64 k, .slice (some ⟨b2, 0, none⟩) (0 + 256) cap2]] } : Rp).mut u ++ X) kxy (fun b hb => .inl (List.mem_append_left _ (sub2 b hb)))
      fun b hb => (List.mem_append.1 hb).elim (fun h => (mutx b h).imp (List.mem_append_left _) id) fun h => .inl (List.mem_append_right _ h)
    have hsp : ∀ b ∈ blks p.sp, b ∉ u :: blks p.wp := fun b hb hx => by
      rcases List.mem_cons.1 hx with rfl | hx
      · exact hn.1.1 hb
      · exact hnd.2.2 b hb b hx rfl
    have ry : RdR hy u (E.lay k pg) { p with wp := px, wc := cx, wr := p.wr ++ [[i64 k, .slice (some ⟨b2, 0, none⟩) (0 + 256) cap2]] } X := by
      refine ⟨?_, r2.sv.keep kxy hsp, ?_, m.1 r2.sq, ?_, ?_, ?_, r.many, ?_, ?_⟩
      · simpa [RDk.lay] using by'
      · have := vx.keep ky (fun x hx => by simp only [List.mem_singleton]; rintro rfl; exact upx hx)
        simpa [RDk.lay] using this
      · refine RowsR.snoc (m.2 r2.wq) ⟨_, rfl, hpg, b2, cap2, x2, by rw [Nat.zero_add], hb2.keep kxy ?_, by omega, ?_⟩
        · intro hm
          have := hrlt b2 (sub2 b2 hm); omega
        · intro hm
          rcases List.mem_append.1 hm with hm | hm
          · rcases mutx b2 hm with h | h
            · have := hrlt b2 h; omega
            · omega
          · have := hX b2 hm; omega
      · simp only [Rp.mut, List.nodup_cons, List.mem_append, not_or]
        refine ⟨⟨hn.1.1, upx⟩, List.nodup_append.2 ⟨hnd.1, ?_, fun a ha b hb hab => ?_⟩⟩
        · cases px <;> simp [blks]
        · subst hab
          rcases fx a hb with h | h
          · exact hnd.2.2 a ha a h rfl
          · have := hrlt a (by simp [Rp.mut, ha]); omega
      · intro b hb hx
        rcases mutx b hb with h | h
        · exact r.apart b h hx
        · have := hX b hx; omega
      · refine ⟨hfew.1, ?_⟩
        simp only [RDk.lay, List.length_append, List.length_cons, List.length_nil]
        omega
      · intro w hw
        rcases List.mem_append.1 hw with h | h
        · exact r.keys w h
        · rw [List.mem_singleton.1 h]; exact hk
    have f12 : Fr h1 hy (p.mut u) (({ p with wp := px, wc := cx, wr := p.wr ++ [[i64 k, .slice (some ⟨b2, 0, none⟩) (0 + 256) cap2]] } : Rp).mut u) :=
      ⟨(k2.mono (by simp)).trans' (kxy.mono fun b hb => .inl (sub2 b hb)), fun b hb => (mutx b hb).imp id fun h => by omega⟩
    refine (rdGoes_ok ry).mono ?_
    rintro _ h5 ⟨rfl, post⟩
    have post' := RPost.via f12 post
    refine ⟨_, rfl, fun t => hR _ _ ⟨fun h => absurd hat h, fun _ => ⟨?_, post'⟩⟩, fun t => hR _ _ ⟨fun h => absurd hat h, fun _ => ⟨?_, post'⟩⟩⟩
    · unfold RDk.write; rw [t]; rfl
    · unfold RDk.write; rw [t]; rfl
  refine VecR.append r2.wv (by omega) [i64 k, .slice (some ⟨b2, 0, none⟩) (0 + 256) cap2] [.int .i64 (Int.ofNat 0), .slice none 0 0] rfl rfl (by simp [isCell]) 108 32 (by omega) (by omega)
    (fun hx px cx => true = true ∧ okAt hx ⟨u, 1, none⟩ ∧ ∀ hy, hy = upd hx ⟨u, 1, none⟩ (.slice px (E.W.length + 1) cx) → entersB Tryz.prog 72 = true ∧ CallH Tryz.prog 72 ⟨[ptr u]⟩ hy fun v h' => ∃ t, v = .bool t ∧ (t = true → R (i64 5) h') ∧ (t = false → R (i64 0) h')) ?_ n7 h3 hn7 hh3
  intro hx px cx vx kx fx
  obtain ⟨h1', h2'⟩ := step hx px cx vx kx fx
  exact ⟨rfl, h1', fun hy hhy => ⟨by kernel_rfl, h2' hy hhy⟩⟩

end
end Go.Proofs.YtfapgccnhonoiaaGreat

/- The reference's disk, part 3: Sync, Crash. -/
namespace Go.Proofs.YtfapgccnhonoiaaGreat

def setAll : List (Int × Pg) → List Pg → List Pg
  | [], S => S
  | w :: r, S => setAll r (S.set w.1.toNat w.2)

theorem setAll_snoc : ∀ (l : List (Int × Pg)) (w : Int × Pg) (S : List Pg), setAll (l ++ [w]) S = (setAll l S).set w.1.toNat w.2
  | [], _, _ => rfl
  | x :: r, w, S => by simp only [List.cons_append, setAll]; exact setAll_snoc r w _

theorem setAll_len : ∀ (l : List (Int × Pg)) (S : List Pg), (setAll l S).length = S.length
  | [], _ => rfl
  | x :: r, S => by simp only [setAll]; rw [setAll_len r, List.length_set]

def RDk.sync (E : RDk) : RDk × Int :=
  if E.off = true then (E, 5) else if E.goes.2 = true then (E.goes.1, 5) else ({ E.goes.1 with S := setAll E.W E.S, W := [] }, 0)

theorem RDk.goes_same (E : RDk) : E.goes.1.S = E.S ∧ E.goes.1.W = E.W := by
  unfold RDk.goes
  split <;> exact ⟨rfl, rfl⟩

section
variable {h h' : Heap} {u : Nat} {E : RDk} {p : Rp} {X X' F : List Nat}

/-- One page is stable by now. -/
theorem RdR.setS (r : RdR h u E p X) {k : Int} (h0 : 0 ≤ k) (h1 : k < E.S.length) {v : Value} {pg : Pg} (hv : ByV h (p.mut u ++ X) v pg) {b : Nat} (hp : p.sp = some ⟨b, 0, none⟩) (hh : h' = upd h ⟨b, k.toNat, none⟩ v) :
    RdR h' u { E with S := E.S.set k.toNat pg } { p with sr := p.sr.set k.toNat [v] } X ∧ Fr h h' (p.mut u) (p.mut u) := by
  have hlt : k.toNat < p.sr.length := by rw [r.sq.len]; omega
  obtain ⟨row, hrow⟩ : ∃ row, p.sr[k.toNat]? = some row := ⟨_, List.getElem?_eq_getElem hlt⟩
  have hbm : b ∈ p.mut u := by simp [Rp.mut, hp, blks]
  have hbs : b ∈ blks p.sp := by simp [hp, blks]
  have kk : Keep h h' [b] := by rw [hh]; exact Keep.upd _ _ _ _ _ (by simp)
  have hn := r.nodup
  simp only [Rp.mut, List.nodup_cons, List.mem_append, not_or] at hn
  have hnd := List.nodup_append.1 hn.2
  have m := rows_move (X := p.mut u ++ X) (X' := p.mut u ++ X) kk (fun x hx => .inl (by rw [List.mem_singleton.1 hx]; exact List.mem_append_left _ hbm)) fun b hb => .inl hb
  have sv' := r.sv.set (h' := h') hrow (j := 0) (by omega) v hp (by rw [hh, Nat.mul_one, Nat.add_zero])
  have hrl : row.length = 1 := r.sv.2.1 row (List.mem_of_getElem? hrow)
  have hrs : row.set 0 v = [v] := by
    match row, hrl with
    | [a], _ => rfl
  rw [hrs] at sv'
  refine ⟨⟨?_, by simpa using sv', r.wv.keep kk fun x hx => ?_, (m.1 r.sq).set k.toNat ⟨v, rfl, hv.move kk (fun x hx => .inl (by rw [List.mem_singleton.1 hx]; exact List.mem_append_left _ hbm)) fun b hb => .inl hb⟩, m.2 r.wq, r.nodup, r.apart, by simpa using r.many, by simpa using r.few, by simpa using r.keys⟩,
    ⟨kk.mono fun x hx => .inl (by rw [List.mem_singleton.1 hx]; exact hbm), fun b hb => .inl hb⟩⟩
  · simp only [List.length_set]
    refine r.blk.keep kk ?_
    simp only [List.mem_singleton]
    rintro rfl
    exact hn.1.1 hbs
  · simp only [List.mem_singleton]
    rintro rfl
    exact hnd.2.2 x hbs x hx rfl

/-- Nothing waits any more. -/
theorem RdR.clearW (r : RdR h u E p X) (hh : h' = upd h ⟨u, 1, none⟩ (.slice none 0 0)) : RdR h' u { E with W := [] } { p with wp := none, wc := 0, wr := [] } X ∧ Fr h h' (p.mut u) (({ p with wp := none, wc := 0, wr := [] } : Rp).mut u) := by
  have kk : Keep h h' [u] := by rw [hh]; exact Keep.upd _ _ _ _ _ (by simp)
  have hb := r.blk.upd 1 (.slice none 0 0)
  rw [← hh] at hb
  have hn := r.nodup
  simp only [Rp.mut, List.nodup_cons, List.mem_append, not_or] at hn
  have hnd := List.nodup_append.1 hn.2
  have sub : ∀ b ∈ ({ p with wp := none, wc := 0, wr := [] } : Rp).mut u, b ∈ p.mut u := fun b hb => by
    simp only [Rp.mut, blks, List.append_nil, List.mem_cons, List.mem_append] at hb ⊢
    rcases hb with hb | hb
    · exact .inl hb
    · exact .inr (.inl hb)
  have hu : u ∈ p.mut u := by simp [Rp.mut]
  have m := rows_move (X := p.mut u ++ X) (X' := ({ p with wp := none, wc := 0, wr := [] } : Rp).mut u ++ X) kk (fun x hx => .inl (by rw [List.mem_singleton.1 hx]; exact List.mem_append_left _ hu)) fun b hb => .inl ((List.mem_append.1 hb).elim (fun h => List.mem_append_left _ (sub b h)) fun h => List.mem_append_right _ h)
  refine ⟨⟨hb, r.sv.keep kk fun x hx => ?_, VecR.nil _ _ _, m.1 r.sq, trivial, ?_, fun b hb => r.apart b (sub b hb), r.many, ⟨r.few.1, by simp⟩, nofun⟩, ⟨kk.mono fun x hx => .inl (by rw [List.mem_singleton.1 hx]; exact hu), fun b hb => .inl (sub b hb)⟩⟩
  · simp only [List.mem_singleton]
    rintro rfl
    exact hn.1.1 hx
  · simp only [Rp.mut, blks, List.append_nil, List.nodup_cons]
    exact ⟨hn.1.1, hnd.1⟩

theorem take_succ_get {α : Type} {l : List α} {i : Nat} {a : α} (h : l[i]? = some a) : l.take (i + 1) = l.take i ++ [a] := by
  rw [List.take_add_one, h]; rfl

theorem rdSync_ok (r : RdR h u E p X) : CallH Tryz.prog 34 ⟨[ptr u]⟩ h fun v h' => v = i64 E.sync.2 ∧ RPost h h' u p E.sync.1 X := by
  refine rdSync_call u ⟨_, r.blk.cell rfl, fun e => ?_, fun eo => ⟨by kernel_rfl, (rdGoes_ok r).mono ?_⟩⟩
  · unfold RDk.sync
    rw [if_pos e]
    exact ⟨rfl, RPost.same r⟩
  rintro _ h1 ⟨rfl, p1, r1, f1⟩
  obtain ⟨eS, eW⟩ := E.goes_same
  refine ⟨_, rfl, fun t => ?_, fun t => ?_⟩
  · unfold RDk.sync
    rw [if_neg (by simp [eo]), if_pos t]
    exact ⟨rfl, p1, r1, f1⟩
  have hlenW := r1.few.2
  refine ⟨fun i hh => ∃ (j : Nat) (q : Rp), i = j ∧ j ≤ E.W.length ∧ RdR hh u { E.goes.1 with S := setAll (E.W.take j) E.S } q X ∧ Fr h hh (p.mut u) (q.mut u), fun i _ => (E.W.length - i).toNat, ⟨0, p1, rfl, by omega, ?_, f1⟩, ?_⟩
  · have : ({ E.goes.1 with S := setAll (E.W.take 0) E.S } : RDk) = E.goes.1 := by
      rw [List.take_zero]
      simp only [setAll]
      rw [← eS]
    rw [this]; exact r1
  rintro _ h2 ⟨j, q, rfl, hj, r2, f2⟩
  rw [eW] at hlenW
  have blk2 := r2.blk
  simp only [eW] at blk2
  refine ⟨_, _, _, blk2.cell rfl, fun e => ?_, fun e => ?_⟩
  · have hjl : j < E.W.length := by have := of_decide_eq_true e; omega
    obtain ⟨w, hw⟩ : ∃ w, E.W[j]? = some w := ⟨_, List.getElem?_eq_getElem hjl⟩
    obtain ⟨row, hrow, v, rfl, hv⟩ := r2.wq.get (by simpa [eW] using hw)
    obtain ⟨b, x, hp, _, _, _, hcell, _⟩ := r2.wv.at hrow
    obtain ⟨b2, cap, hv2, _⟩ := hv.slB
    have hk := r2.keys w (by simp only [eW]; exact List.mem_of_getElem? hw)
    have hsl : (setAll (E.W.take j) E.S).length = E.S.length := setAll_len _ _
    obtain ⟨rw', hrw⟩ : ∃ row, q.sr[w.1.toNat]? = some row := ⟨_, List.getElem?_eq_getElem (by rw [r2.sq.len]; omega)⟩
    obtain ⟨bs, xs, hps, _, _, _, _, hoks, _⟩ := r2.sv.at hrw
    refine ⟨_, _, _, blk2.cell rfl, _, _, _, blk2.cell rfl, ?_⟩
    rw [hp]
    refine ⟨⟨by omega, by omega⟩, w.1, by rw [addr_add]; simpa using hcell 0 (i64 w.1) rfl, _, _, _, blk2.cell rfl, ?_⟩
    rw [hp]
    refine ⟨⟨by omega, by omega⟩, some ⟨b2, 0, none⟩, 256, cap, by rw [addr_add, addr_add]; simpa [hv2] using hcell 1 v rfl, ?_⟩
    rw [hps]
    refine ⟨⟨hk.1, hk.2⟩, rfl, by rw [addr_add]; simpa using hoks 0 (by omega), fun h3 hh3 => ?_⟩
    rw [addr_add] at hh3
    simp only [Nat.zero_add, Nat.mul_one] at hh3
    obtain ⟨r3, f3⟩ := r2.setS (h' := h3) hk.1 hk.2 hv hps (by rw [hh3, hv2])
    have wj : IntKind.wrap .i64 ((j : Int) + 1) = ((j + 1 : Nat) : Int) := by rw [w64 _ (by omega) (by omega)]; rfl
    rw [wj]
    refine ⟨⟨j + 1, { q with sr := q.sr.set w.1.toNat [v] }, rfl, by omega, ?_, f2.trans f3⟩, ?_⟩
    · rw [take_succ_get hw, setAll_snoc]
      exact r3
    · show ((E.W.length : Int) - ((j + 1 : Nat) : Int)).toNat < ((E.W.length : Int) - (j : Int)).toNat
      omega
  · have hjl : j = E.W.length := by have := of_decide_eq_false e; omega
    refine ⟨rfl, blk2.ok (by simp), fun h4 hh4 => ?_⟩
    obtain ⟨r4, f4⟩ := r2.clearW hh4
    unfold RDk.sync
    rw [if_neg (by simp [eo]), if_neg (by simp [t])]
    subst hjl
    rw [List.take_length] at r4
    exact ⟨rfl, _, r4, f2.trans f4⟩

/-- How many bytes of a write come about. -/
def crashN (pk : List Int) (i : Nat) : Nat := match pk[i]? with | some x => (x % 5).toNat * 64 | none => 0
def crashOne (pk : List Int) (i : Nat) (w : Int × Pg) (S : List Pg) : List Pg := S.set w.1.toNat (w.2.take (crashN pk i) ++ ((S[w.1.toNat]?).getD []).drop (crashN pk i))
def crashAll (pk : List Int) : Nat → List (Int × Pg) → List Pg → List Pg
  | _, [], S => S
  | i, w :: r, S => crashAll pk (i + 1) r (crashOne pk i w S)

theorem crashAll_snoc (pk : List Int) : ∀ (l : List (Int × Pg)) (i : Nat) (w : Int × Pg) (S : List Pg), crashAll pk i (l ++ [w]) S = crashOne pk (i + l.length) w (crashAll pk i l S)
  | [], _, _, _ => rfl
  | x :: r, i, w, S => by
    simp only [List.cons_append, crashAll, List.length_cons]
    rw [crashAll_snoc pk r (i + 1) w, show i + 1 + r.length = i + (r.length + 1) by omega]

theorem crashAll_len (pk : List Int) : ∀ (l : List (Int × Pg)) (i : Nat) (S : List Pg), (crashAll pk i l S).length = S.length
  | [], _, _ => rfl
  | x :: r, i, S => by simp only [crashAll]; rw [crashAll_len pk r, crashOne, List.length_set]

def RDk.crash (E : RDk) (pk : List Int) : RDk := { E with S := crashAll pk 0 E.W E.S, W := [], off := false, left := -1 }

theorem ByV.take {h : Heap} {X : List Nat} {pg : Pg} {b cap n : Nat} (s : ByV h X (.slice (some ⟨b, 0, none⟩) 256 cap) pg) (hn : n ≤ 256) : SlB h (some ⟨b, 0, none⟩) n (pg.take n) := by
  obtain ⟨h1, b', cap', x, h2, h3, h4, h5⟩ := s
  cases h2
  refine ⟨fun v hv => h1.2 v (List.mem_of_mem_take hv), by rw [List.length_take, h1.1]; omega, .inr ⟨b, 0, rfl, h3.lt, ?_⟩⟩
  rw [h3.row (by rw [List.length_append, h1.1]; omega), List.drop_zero, List.take_append_of_le_length (by rw [h1.1]; omega)]

theorem ByV.drop {h : Heap} {X : List Nat} {pg : Pg} {b cap n : Nat} (s : ByV h X (.slice (some ⟨b, 0, none⟩) 256 cap) pg) (hn : n ≤ 256) :
    SlB h (if cap = n then some ⟨b, 0, none⟩ else Option.map (fun a => Addr.add a (n * 1)) (some ⟨b, 0, none⟩)) (256 - n) (pg.drop n) := by
  obtain ⟨h1, b', cap', x, h2, h3, h4, h5⟩ := s
  cases h2
  have hu : ∀ v ∈ pg.drop n, ∃ n : Int, v = .int .u8 n := fun v hv => h1.2 v (List.mem_of_mem_drop hv)
  have hl : (pg.drop n).length = 256 - n := by rw [List.length_drop, h1.1]
  by_cases hc : cap = n
  · rw [if_pos hc]
    refine ⟨hu, hl, .inr ⟨b, 0, rfl, h3.lt, ?_⟩⟩
    have hn256 : n = 256 := by omega
    subst hn256
    have : pg.drop 256 = [] := List.drop_of_length_le (by rw [h1.1]; omega)
    rw [h3.row (by simp), this]
    simp
  · rw [if_neg hc]
    refine ⟨hu, hl, .inr ⟨b, n, by simp [addr_add], h3.lt, ?_⟩⟩
    rw [h3.row (by rw [List.length_append, h1.1]; omega), List.drop_append_of_le_length (by rw [h1.1]; omega), List.take_append_of_le_length (by omega), List.take_of_length_le (by omega)]

theorem okPage_mix {a b : Pg} (ha : okPage a) (hb : okPage b) {n : Nat} (hn : n ≤ 256) : okPage (a.take n ++ b.drop n) := by
  refine ⟨by rw [List.length_append, List.length_take, List.length_drop, ha.1, hb.1]; omega, fun v hv => ?_⟩
  rcases List.mem_append.1 hv with h | h
  · exact ha.2 v (List.mem_of_mem_take h)
  · exact hb.2 v (List.mem_of_mem_drop h)

theorem rdCrash_ok (r : RdR h u E p X) (hX : ∀ b ∈ X, b < h.size) {q1 : Option Addr} {l1 c1 : Nat} {pk : List Int} (s : SlAt h q1 l1 (u8s pk) (p.mut u)) (hpk : ∀ x ∈ pk, 0 ≤ x ∧ x < 256) (hl : l1 < 1000) : CallH Tryz.prog 37 ⟨[ptr u, .slice q1 l1 c1]⟩ h fun v h' => v = .tuple ⟨[]⟩ ∧ RPost h h' u p (E.crash pk) X := by
  have hlp : pk.length = l1 := by have := s.1; rwa [u8s_len] at this
  have hlenW := r.few.2
  refine rdCrash_call u q1 l1 c1 ⟨fun i hh => ∃ (j : Nat) (q : Rp), i = j ∧ j ≤ E.W.length ∧ RdR hh u { E with S := crashAll pk 0 (E.W.take j) E.S } q X ∧ Fr h hh (p.mut u) (q.mut u), fun i _ => (E.W.length - i).toNat, ⟨0, p, rfl, by omega, r, Keep.refl _ _, fun _ hb => .inl hb⟩, ?_⟩
  rintro _ h2 ⟨j, q, rfl, hj, r2, f2⟩
  have blk2 := r2.blk
  refine ⟨_, _, _, blk2.cell rfl, fun e => ?_, fun e => ?_⟩
  · have hjl : j < E.W.length := by have := of_decide_eq_true e; simp only at this; omega
    obtain ⟨w, hw⟩ : ∃ w, E.W[j]? = some w := ⟨_, List.getElem?_eq_getElem hjl⟩
    obtain ⟨row, hrow, v, rfl, hv⟩ := r2.wq.get hw
    obtain ⟨b, x, hp, _, _, _, hcell, _⟩ := r2.wv.at hrow
    obtain ⟨b2, cap, hv2, hcap2, _⟩ := hv.slB
    subst hv2
    have hk := r2.keys w (List.mem_of_getElem? hw)
    simp only at hk
    have hsl : (crashAll pk 0 (E.W.take j) E.S).length = E.S.length := crashAll_len _ _ _ _
    have hslt : w.1.toNat < (crashAll pk 0 (E.W.take j) E.S).length := by omega
    obtain ⟨pg, hpg⟩ : ∃ pg, (crashAll pk 0 (E.W.take j) E.S)[w.1.toNat]? = some pg := ⟨_, List.getElem?_eq_getElem hslt⟩
    obtain ⟨rw', hrw, v3, rfl, hv3⟩ := r2.sq.get hpg
    obtain ⟨bs, xs, hps, _, _, _, hcells, hoks, _⟩ := r2.sv.at hrw
    obtain ⟨b3, cap3, hv3', hcap3, _⟩ := hv3.slB
    subst hv3'
    have wj : IntKind.wrap .i64 ((j : Int) + 1) = ((j + 1 : Nat) : Int) := by rw [w64 _ (by omega) (by omega)]; rfl
    have c0 : cellAt h2 (Addr.add ⟨b, 0, none⟩ ((j : Int).toNat * 2)) = some (i64 w.1) := by rw [addr_add]; simpa using hcell 0 (i64 w.1) rfl
    have c1' : cellAt h2 (Addr.add (Addr.add ⟨b, 0, none⟩ ((j : Int).toNat * 2)) 1) = some (.slice (some ⟨b2, 0, none⟩) 256 cap) := by rw [addr_add, addr_add]; simpa using hcell 1 _ rfl
    have c3 : cellAt h2 (Addr.add ⟨bs, 0, none⟩ (w.1.toNat * 1)) = some (.slice (some ⟨b3, 0, none⟩) 256 cap3) := by rw [addr_add]; simpa using hcells 0 _ rfl
    have cS : cellAt h2 ⟨u, 0, none⟩ = some (.slice (some ⟨bs, 0, none⟩) (crashAll pk 0 (E.W.take j) E.S).length q.sc) := by rw [← hps]; exact blk2.cell rfl
    have cW : cellAt h2 ⟨u, 1, none⟩ = some (.slice (some ⟨b, 0, none⟩) E.W.length q.wc) := by rw [← hp]; exact blk2.cell rfl
    -- what the join leaves, and the rest of the round
    have fin : ∀ (n : Nat), n ≤ 256 → crashN pk j = n → ∀ h3 b4 cap4 x4, Blk h3 b4 ((w.2.take n ++ pg.drop n) ++ x4) → n + (256 - n) + x4.length = cap4 → h2.size ≤ b4 → Keep h2 h3 [] →
        cellAt h3 (Addr.add ⟨b, 0, none⟩ ((j : Int).toNat * 2)) = some (i64 w.1) ∧ cellAt h3 ⟨u, 1, none⟩ = some (.slice q.wp E.W.length q.wc) ∧ cellAt h3 ⟨u, 0, none⟩ = some (.slice q.sp (crashAll pk 0 (E.W.take j) E.S).length q.sc) ∧
        okAt h3 (Addr.add ⟨bs, 0, none⟩ (w.1.toNat * 1)) ∧ ∀ h4, h4 = upd h3 (Addr.add ⟨bs, 0, none⟩ (w.1.toNat * 1)) (.slice (some ⟨b4, 0, none⟩) (n + (256 - n)) cap4) →
          (∃ (j' : Nat) (q : Rp), IntKind.wrap .i64 ((j : Int) + 1) = j' ∧ j' ≤ E.W.length ∧ RdR h4 u { E with S := crashAll pk 0 (E.W.take j') E.S } q X ∧ Fr h h4 (p.mut u) (q.mut u)) ∧ ((E.W.length : Int) - IntKind.wrap .i64 ((j : Int) + 1)).toNat < ((E.W.length : Int) - (j : Int)).toNat := by
      intro n hn hcn h3 b4 cap4 x4 hb4 hx4 hge k3
      have r3 : RdR h3 u { E with S := crashAll pk 0 (E.W.take j) E.S } q X := r2.frame k3 (by simp) fun b hb => .inl hb
      have f3 : Fr h2 h3 (q.mut u) (q.mut u) := ⟨k3.mono (by simp), fun b hb => .inl hb⟩
      obtain ⟨_, _, hp', _, _, _, hcell', _⟩ := r3.wv.at hrow
      rw [hp] at hp'
      cases hp'
      obtain ⟨_, _, hps', _, _, _, _, hoks', _⟩ := r3.sv.at hrw
      rw [hps] at hps'
      cases hps'
      refine ⟨by rw [addr_add]; simpa using hcell' 0 (i64 w.1) rfl, r3.blk.cell rfl, r3.blk.cell rfl, by rw [addr_add]; simpa using hoks' 0 (by omega), fun h4 hh4 => ?_⟩
      rw [addr_add] at hh4
      simp only [Nat.zero_add, Nat.mul_one] at hh4
      have hmix : okPage (w.2.take n ++ pg.drop n) := okPage_mix hv.1 hv3.1 hn
      have hby : ByV h3 (q.mut u ++ X) (.slice (some ⟨b4, 0, none⟩) (n + (256 - n)) cap4) (w.2.take n ++ pg.drop n) := by
        refine ⟨hmix, b4, cap4, x4, by rw [show n + (256 - n) = 256 by omega], hb4, by omega, fun hm => ?_⟩
        rcases List.mem_append.1 hm with hm | hm
        · have := r2.lt b4 hm; omega
        · have := hX b4 hm; have := f2.keep.size; omega
      obtain ⟨r4, f4⟩ := r3.setS (h' := h4) hk.1 (by simp only; omega) hby hps hh4
      rw [wj]
      refine ⟨⟨j + 1, { q with sr := q.sr.set w.1.toNat [.slice (some ⟨b4, 0, none⟩) (n + (256 - n)) cap4] }, rfl, by omega, ?_, (f2.trans f3).trans f4⟩, by omega⟩
      rw [take_succ_get hw, crashAll_snoc]
      simp only [Nat.zero_add, List.length_take, show min j E.W.length = j by omega, crashOne, hcn, hpg, Option.getD_some]
      exact r4
    refine ⟨fun e1 => ?_, fun e1 => ?_⟩
    · have hjp : j < l1 := by have := of_decide_eq_true e1; omega
      obtain ⟨xk, hxk⟩ : ∃ xk, pk[j]? = some xk := ⟨_, List.getElem?_eq_getElem (by omega)⟩
      have hxr := hpk xk (List.mem_of_getElem? hxk)
      have s2 := s.over f2.keep f2.sub
      obtain ⟨a1, x1, rfl, hc1, hg1⟩ := s2.cell hjp
      have hx1 : x1 = xk := by
        rw [u8s_get, hxk] at hg1
        simpa using hg1.symm
      subst hx1
      have hn : ∃ n : Nat, IntKind.wrap .i64 (IntKind.wrap .i64 (Int.tmod x1 5) * 64) = n ∧ n ≤ 256 ∧ crashN pk j = n := by
        have e1 : Int.tmod x1 5 = x1 % 5 := Int.tmod_eq_emod_of_nonneg hxr.1
        rw [e1, w64 (x1 % 5) (by omega) (by omega), w64 _ (by omega) (by omega)]
        refine ⟨(x1 % 5).toNat * 64, by omega, by omega, ?_⟩
        unfold crashN
        rw [hxk]
      obtain ⟨n, hn, hn256, hcn⟩ := hn
      refine ⟨⟨by omega, by omega⟩, x1, by simpa using hc1, by decide, _, _, _, cS, _, _, _, cW, ⟨by omega, by omega⟩, w.1, c0, _, _, _, cW, ⟨by omega, by omega⟩, _, _, _, c1', ⟨by omega, by omega⟩,
        _, _, _, cS, _, _, _, cW, ⟨by omega, by omega⟩, w.1, c0, ⟨hk.1, by omega⟩, _, _, _, c3, ⟨by omega, by omega⟩, by kernel_rfl, ?_⟩
      simp only [hn, Int.toNat_natCast]
      refine (rJoin_ok (hv.take hn256) (hv3.drop (n := n) hn256) (by omega)).mono ?_
      rintro _ h3 ⟨b4, cap4, x4, rfl, hb4, hx4, hge, k3⟩
      obtain ⟨f1, f2', f3, f4, f5⟩ := fin n hn256 hcn h3 b4 cap4 x4 hb4 hx4 hge k3
      rw [hp] at f2'
      rw [hps] at f3
      exact ⟨_, _, _, rfl, ⟨_, f1, rfl⟩, ⟨_, _, _, f2', rfl⟩, ⟨_, _, _, f3, rfl⟩, ⟨hk.1, by omega⟩, trivial, f4, f5⟩
    · have hjp : ¬ j < l1 := by have := of_decide_eq_false e1; omega
      have hcn : crashN pk j = 0 := by
        unfold crashN
        rw [List.getElem?_eq_none (by omega)]
      refine ⟨_, _, _, cS, _, _, _, cW, ⟨by omega, by omega⟩, w.1, c0, _, _, _, cW, ⟨by omega, by omega⟩, _, _, _, c1', ⟨by omega, by omega⟩,
        _, _, _, cS, _, _, _, cW, ⟨by omega, by omega⟩, w.1, c0, ⟨hk.1, by omega⟩, _, _, _, c3, ⟨by omega, by omega⟩, by kernel_rfl, ?_⟩
      have d0 := hv3.drop (n := 0) (by omega)
      have e0 : (Option.map (fun a => Addr.add a (0 * 1)) (some (⟨b3, 0, none⟩ : Addr))) = some ⟨b3, 0, none⟩ := rfl
      rw [e0, ite_self] at d0
      have e1 : (if cap3 - 0 = 0 then some (⟨b3, 0, none⟩ : Addr) else Option.map (fun a => a) (some ⟨b3, 0, none⟩)) = some ⟨b3, 0, none⟩ := by simp
      refine CallH.mono (R := fun v h' => ∃ b cap x, v = .slice (some ⟨b, 0, none⟩) (0 + (256 - 0)) cap ∧ Blk h' b ((w.2.take 0 ++ pg.drop 0) ++ x) ∧ 0 + (256 - 0) + x.length = cap ∧ h2.size ≤ b ∧ Keep h2 h' []) ?_ ?_
      · simp only [Nat.sub_zero, Option.map_some, ite_self]
        exact rJoin_ok (hv.take (n := 0) (by omega)) d0 (by omega)
      rintro _ h3 ⟨b4, cap4, x4, rfl, hb4, hx4, hge, k3⟩
      obtain ⟨f1, f2', f3, f4, f5⟩ := fin 0 (by omega) hcn h3 b4 cap4 x4 hb4 hx4 hge k3
      rw [hp] at f2'
      rw [hps] at f3
      exact ⟨_, _, _, rfl, ⟨_, f1, rfl⟩, ⟨_, _, _, f2', rfl⟩, ⟨_, _, _, f3, rfl⟩, ⟨hk.1, by omega⟩, rfl, f4, f5⟩
  · have hjl : j = E.W.length := by have := of_decide_eq_false e; simp only at this; omega
    subst hjl
    rw [List.take_length] at r2
    refine ⟨rfl, blk2.ok (by simp), fun h6 hh6 => ?_⟩
    obtain ⟨r6, f6⟩ := r2.clearW hh6
    refine ⟨rfl, r6.blk.ok (by simp), fun h7 hh7 => ?_⟩
    have k7 : Keep h6 h7 [u] := by rw [hh7]; exact Keep.upd _ _ _ _ _ (by simp)
    have b7 := r6.blk.upd 3 (.bool false)
    rw [← hh7] at b7
    refine ⟨rfl, b7.ok (by simp), fun h8 hh8 => ⟨rfl, ?_⟩⟩
    have k8 : Keep h7 h8 [u] := by rw [hh8]; exact Keep.upd _ _ _ _ _ (by simp)
    have b8 := b7.upd 2 (i64 (-1))
    rw [← hh8] at b8
    exact RPost.via (f2.trans f6) (r6.flags (-1) false E.done (k7.trans' k8) b8)

end
end Go.Proofs.YtfapgccnhonoiaaGreat

/- The conditions of the library's and of the cache's functions, as text. -/
import Derived.Test.YtfapgccnhonoiaaGreatMc

/- The conditions of some functions of the program, as text (printed by a tool of this claim's author, wip/tool), and that they are enough for a call. -/
set_option linter.unusedVariables false
namespace Go.Proofs.YtfapgccnhonoiaaGreat

/-- slices.Clone[[]byte,byte] -/
def sClone_vc (q0p : Option Addr) (q0l : Nat) (q0c : Nat) (h : Heap) (R : Value → Heap → Prop) : Prop :=
  (Option.isNone q0p = true → R (Value.slice none (0 : Nat) (0 : Nat)) h) ∧
 (Option.isNone q0p = false →
  True ∧
   ∀ (n1 : Nat) (rec1 : Array Obj),
    n1 = Array.size h →
     rec1 = Array.push h (Obj.cells { toList := [] : Array Value } (5 : TypeId)) →
      ∃ (l1 : List Value),
       srcIs rec1 (1 : Nat) q0l (Value.slice q0p q0l q0c) l1 ∧
        (∀ (v1 : Value), v1 ∈ l1 → isCell v1 = true) ∧
         List.length l1 = q0l * (1 : Nat) ∧
          ((0 : Nat) + q0l ≤ (0 : Nat) → okRow rec1 { block := n1, off := (0 : Nat) : Addr } (List.length l1) ∧ ∀ (h1 : Heap), h1 = updRow rec1 { block := n1, off := (0 : Nat) : Addr } (0 : Nat) l1 → R (Value.slice (some { block := n1, off := (0 : Nat) : Addr }) ((0 : Nat) + q0l) (0 : Nat)) h1) ∧
           ((0 : Nat) < (0 : Nat) + q0l →
            ((0 : Nat) + q0l) * (1 : Nat) ≤ (70368744177664 : Nat) ∧
             (0 : Nat) < (1 : Nat) ∧
              ∃ (l2 : List Value),
               srcIs rec1 (1 : Nat) (0 : Nat) (Value.slice (some { block := n1, off := (0 : Nat) : Addr }) (0 : Nat) (0 : Nat)) l2 ∧
                ∀ (n2 : Nat),
                 (0 : Nat) + q0l ≤ n2 →
                  ∀ (n3 : Nat) (rec2 : Array Obj),
                   n3 = Array.size rec1 →
                    rec2 = Array.push rec1 (Obj.cells { toList := List.append (List.append l2 l1) (zrow [Value.int IntKind.u8 (Int.ofNat (0))] (n2 - ((0 : Nat) + q0l))) : Array Value } (5 : TypeId)) → R (Value.slice (some { block := n3, off := (0 : Nat) : Addr }) ((0 : Nat) + q0l) n2) rec2))

theorem sClone_call (q0p : Option Addr) (q0l : Nat) (q0c : Nat) {h : Heap} {R : Value → Heap → Prop} (H : sClone_vc q0p q0l q0c h R) : CallH Tryz.prog 57 ⟨[.slice q0p q0l q0c]⟩ h R :=
  callH_of_dCode tabOK mixed [(.slice q0p q0l q0c, false)] Tryz.func57 (c := bodyC Tryz.f57) (by kernel_rfl) (by kernel_rfl : Tryz.f57.ntmps = 8) rfl
    (Eq.mp (by kernel_rfl : sClone_vc q0p q0l q0c h R = dCode Tryz.prog T ⟨[], [], [], [], []⟩ (bodyC Tryz.f57) none (dEnd T (Tryz.f57.results.toList) R) (startE 8 [(.slice q0p q0l q0c, false)]) h) H)

/-- slices.SortedFunc[int] -/
def sSortedFunc_vc (q0 : Value) (q1 : Value) (h : Heap) (R : Value → Heap → Prop) : Prop :=
  entersB Tryz.prog (78 : Nat) = true ∧
 CallH Tryz.prog (78 : Nat) { toList := [q0] : Array Value } h fun (v1 : Value) (h1 : Heap) =>
  ∃ (p1 : Option Addr),
   ∃ (n1 : Nat), ∃ (n2 : Nat), v1 = Value.slice p1 n1 n2 ∧ entersB Tryz.prog (79 : Nat) = true ∧ CallH Tryz.prog (79 : Nat) { toList := [Value.slice p1 n1 n2, q1] : Array Value } h1 fun (v2 : Value) (h2 : Heap) => v2 = Value.tuple { toList := [] : Array Value } ∧ R (Value.slice p1 n1 n2) h2

theorem sSortedFunc_call (q0 : Value) (q1 : Value) {h : Heap} {R : Value → Heap → Prop} (H : sSortedFunc_vc q0 q1 h R) : CallH Tryz.prog 60 ⟨[q0, q1]⟩ h R :=
  callH_of_dCode tabOK mixed [(q0, false), (q1, false)] Tryz.func60 (c := bodyC Tryz.f60) (by kernel_rfl) (by kernel_rfl : Tryz.f60.ntmps = 12) rfl
    (Eq.mp (by kernel_rfl : sSortedFunc_vc q0 q1 h R = dCode Tryz.prog T ⟨[], [], [], [], []⟩ (bodyC Tryz.f60) none (dEnd T (Tryz.f60.results.toList) R) (startE 12 [(q0, false), (q1, false)]) h) H)

/-- maps.Keys[map[int]*incipit/cache.held,int,*incipit/cache.held] -/
def mKeys_vc (q0 : Option Nat) (h : Heap) (R : Value → Heap → Prop) : Prop :=
  ∀ (n1 : Nat) (rec1 : Array Obj),
 n1 = Array.size h → rec1 = Array.push h (Obj.cells { toList := [Value.map q0] : Array Value } (61 : Nat)) → R (Value.func (Fn.func (80 : Nat)) { toList := [] : Array Value } { toList := [Value.pointer (some { block := n1, off := (0 : Nat) : Addr })] : Array Value }) rec1

theorem mKeys_call (q0 : Option Nat) {h : Heap} {R : Value → Heap → Prop} (H : mKeys_vc q0 h R) : CallH Tryz.prog 61 ⟨[.map q0]⟩ h R :=
  callH_of_dCode tabOK mixed [(.map q0, false)] Tryz.func61 (c := bodyC Tryz.f61) (by kernel_rfl) (by kernel_rfl : Tryz.f61.ntmps = 4) rfl
    (Eq.mp (by kernel_rfl : mKeys_vc q0 h R = dCode Tryz.prog T ⟨[], [], [], [], []⟩ (bodyC Tryz.f61) none (dEnd T (Tryz.f61.results.toList) R) (startE 4 [(.map q0, false)]) h) H)

/-- slices.Sorted[int] -/
def sSorted_vc (q0 : Value) (h : Heap) (R : Value → Heap → Prop) : Prop :=
  entersB Tryz.prog (78 : Nat) = true ∧
 CallH Tryz.prog (78 : Nat) { toList := [q0] : Array Value } h fun (v1 : Value) (h1 : Heap) =>
  ∃ (p1 : Option Addr),
   ∃ (n1 : Nat), ∃ (n2 : Nat), v1 = Value.slice p1 n1 n2 ∧ entersB Tryz.prog (81 : Nat) = true ∧ CallH Tryz.prog (81 : Nat) { toList := [Value.slice p1 n1 n2] : Array Value } h1 fun (v2 : Value) (h2 : Heap) => v2 = Value.tuple { toList := [] : Array Value } ∧ R (Value.slice p1 n1 n2) h2

theorem sSorted_call (q0 : Value) {h : Heap} {R : Value → Heap → Prop} (H : sSorted_vc q0 h R) : CallH Tryz.prog 75 ⟨[q0]⟩ h R :=
  callH_of_dCode tabOK mixed [(q0, false)] Tryz.func75 (c := bodyC Tryz.f75) (by kernel_rfl) (by kernel_rfl : Tryz.f75.ntmps = 9) rfl
    (Eq.mp (by kernel_rfl : sSorted_vc q0 h R = dCode Tryz.prog T ⟨[], [], [], [], []⟩ (bodyC Tryz.f75) none (dEnd T (Tryz.f75.results.toList) R) (startE 9 [(q0, false)]) h) H)

/-- slices.Collect[int] -/
def sCollect_vc (q0 : Value) (h : Heap) (R : Value → Heap → Prop) : Prop :=
  entersB Tryz.prog (83 : Nat) = true ∧ CallH Tryz.prog (83 : Nat) { toList := [Value.slice none (0 : Nat) (0 : Nat), q0] : Array Value } h fun (v1 : Value) (h1 : Heap) => ∃ (p1 : Option Addr), ∃ (n1 : Nat), ∃ (n2 : Nat), v1 = Value.slice p1 n1 n2 ∧ R (Value.slice p1 n1 n2) h1

theorem sCollect_call (q0 : Value) {h : Heap} {R : Value → Heap → Prop} (H : sCollect_vc q0 h R) : CallH Tryz.prog 78 ⟨[q0]⟩ h R :=
  callH_of_dCode tabOK mixed [(q0, false)] Tryz.func78 (c := bodyC Tryz.f78) (by kernel_rfl) (by kernel_rfl : Tryz.f78.ntmps = 5) rfl
    (Eq.mp (by kernel_rfl : sCollect_vc q0 h R = dCode Tryz.prog T ⟨[], [], [], [], []⟩ (bodyC Tryz.f78) none (dEnd T (Tryz.f78.results.toList) R) (startE 5 [(q0, false)]) h) H)

/-- slices.SortFunc[[]int,int] -/
def sSortFunc_vc (q0p : Option Addr) (q0l : Nat) (q0c : Nat) (q1 : Value) (h : Heap) (R : Value → Heap → Prop) : Prop :=
  entersB Tryz.prog (85 : Nat) = true ∧
 CallH Tryz.prog (85 : Nat) { toList := [Value.int IntKind.u64 (IntKind.wrap IntKind.u64 (↑q0l : Int))] : Array Value } h fun (v1 : Value) (h1 : Heap) =>
  ∃ (i1 : Int),
   v1 = Value.int IntKind.i64 i1 ∧
    entersB Tryz.prog (84 : Nat) = true ∧
     CallH Tryz.prog (84 : Nat) { toList := [Value.slice q0p q0l q0c, Value.int IntKind.i64 (0 : Int), Value.int IntKind.i64 (↑q0l : Int), Value.int IntKind.i64 i1, q1] : Array Value } h1 fun (v2 : Value) (h2 : Heap) =>
      v2 = Value.tuple { toList := [] : Array Value } ∧ R (Value.tuple { toList := [] : Array Value }) h2

theorem sSortFunc_call (q0p : Option Addr) (q0l : Nat) (q0c : Nat) (q1 : Value) {h : Heap} {R : Value → Heap → Prop} (H : sSortFunc_vc q0p q0l q0c q1 h R) : CallH Tryz.prog 79 ⟨[.slice q0p q0l q0c, q1]⟩ h R :=
  callH_of_dCode tabOK mixed [(.slice q0p q0l q0c, false), (q1, false)] Tryz.func79 (c := bodyC Tryz.f79) (by kernel_rfl) (by kernel_rfl : Tryz.f79.ntmps = 14) rfl
    (Eq.mp (by kernel_rfl : sSortFunc_vc q0p q0l q0c q1 h R = dCode Tryz.prog T ⟨[], [], [], [], []⟩ (bodyC Tryz.f79) none (dEnd T (Tryz.f79.results.toList) R) (startE 14 [(.slice q0p q0l q0c, false), (q1, false)]) h) H)

/-- maps.Keys[map[int]*incipit/cache.held,int,*incipit/cache.held]$1 -/
def mKeys1_vc (q0 : Value) (b1 : Nat) (h : Heap) (R : Value → Heap → Prop) : Prop :=
  ∃ (m1 : Option Nat),
 cellAt h { block := b1, off := (0 : Nat) : Addr } = some (Value.map m1) ∧
  match m1 with
  | some n1 =>
   ∃ (x1 : Array MapEntry),
    ∃ (n2 : Nat),
     h[n1]? = some (Obj.map x1 n2) ∧
      ∀ (n4 : Nat) (rec2 : Array Obj),
       n4 = Array.size h →
        rec2 = Array.push h (Obj.mapIter (some n1) n2 { toList := [] : Array Nat } n2) →
         ∃ (I1 : Heap → Prop),
          ∃ (M1 : Heap → Nat),
           I1 rec2 ∧
            ∀ (h1 : Heap),
             I1 h1 →
              (0 : Nat) = (0 : Nat) ∧
               (h1[n4]? = some (Obj.mapIter none (0 : Nat) { toList := [] : Array Nat } (0 : Nat)) ∧ R (Value.tuple { toList := [] : Array Value }) h1 ∨
                ∃ (n5 : Nat),
                 ∃ (n6 : Nat),
                  ∃ (M2 : Array Nat),
                   ∃ (n7 : Nat),
                    ∃ (x2 : Array MapEntry),
                     ∃ (n8 : Nat),
                      h1[n4]? = some (Obj.mapIter (some n5) n6 M2 n7) ∧
                       h1[n5]? = some (Obj.map x2 n8) ∧
                        (Array.isEmpty M2 = true ∨ Array.isEmpty x2 = true ∨ ∃ (x3 : MapEntry), x3 ∈ x2.1 ∧ MapEntry.born x3 < n7) ∧
                         (∀ (x4 : MapEntry),
                           x4 ∈ x2.1 ∧ Array.contains M2 (MapEntry.born x4) = false →
                            ∀ (h2 : Heap),
                             h2 = Array.setIfInBounds h1 n4 (Obj.mapIter (some n5) n6 (Array.push M2 (MapEntry.born x4)) n8) →
                              (0 : Nat) = (0 : Nat) ∧
                               ∃ (n9 : Nat),
                                ∃ (n10 : Nat),
                                 ∃ (M3 : Array Nat),
                                  ∃ (n11 : Nat),
                                   ∃ (x5 : Array MapEntry),
                                    ∃ (n12 : Nat),
                                     ∃ (x6 : MapEntry),
                                      h2[n4]? = some (Obj.mapIter (some n9) n10 M3 n11) ∧
                                       Array.back? M3 = some n12 ∧
                                        h2[n9]? = some (Obj.map x5 n11) ∧
                                         Array.find? (fun (x7 : MapEntry) => MapEntry.born x7 == n12) x5 = some x6 ∧
                                          match q0 with
                                          | Value.func (Fn.func x8) x9 x10 =>
                                           entersB Tryz.prog x8 = true ∧
                                            CallH Tryz.prog x8 { toList := List.append (List.append x9.1 [MapEntry.key x6]) x10.1 : Array Value } h2 fun (v2 : Value) (h3 : Heap) =>
                                             ∃ (t1 : Bool), v2 = Value.bool t1 ∧ ((!t1) = true → R (Value.tuple { toList := [] : Array Value }) h3) ∧ ((!t1) = false → I1 h3 ∧ M1 h3 < M1 h1)
                                          | v3 => CallV Tryz.prog v3 { toList := [MapEntry.key x6] : Array Value } h2 fun (v4 : Value) (h4 : Heap) => ∃ (t2 : Bool), v4 = Value.bool t2 ∧ ((!t2) = true → R (Value.tuple { toList := [] : Array Value }) h4) ∧ ((!t2) = false → I1 h4 ∧ M1 h4 < M1 h1)) ∧
                          ((∀ (x11 : MapEntry), x11 ∈ x2.1 → Array.contains M2 (MapEntry.born x11) = false → n6 ≤ MapEntry.born x11) → R (Value.tuple { toList := [] : Array Value }) h1))
  | none =>
   ∀ (n13 : Nat) (rec3 : Array Obj),
    n13 = Array.size h →
     rec3 = Array.push h (Obj.mapIter none (0 : Nat) { toList := [] : Array Nat } (0 : Nat)) →
      ∃ (I2 : Heap → Prop),
       ∃ (M4 : Heap → Nat),
        I2 rec3 ∧
         ∀ (h5 : Heap),
          I2 h5 →
           (0 : Nat) = (0 : Nat) ∧
            (h5[n13]? = some (Obj.mapIter none (0 : Nat) { toList := [] : Array Nat } (0 : Nat)) ∧ R (Value.tuple { toList := [] : Array Value }) h5 ∨
             ∃ (n14 : Nat),
              ∃ (n15 : Nat),
               ∃ (M5 : Array Nat),
                ∃ (n16 : Nat),
                 ∃ (x13 : Array MapEntry),
                  ∃ (n17 : Nat),
                   h5[n13]? = some (Obj.mapIter (some n14) n15 M5 n16) ∧
                    h5[n14]? = some (Obj.map x13 n17) ∧
                     (Array.isEmpty M5 = true ∨ Array.isEmpty x13 = true ∨ ∃ (x14 : MapEntry), x14 ∈ x13.1 ∧ MapEntry.born x14 < n16) ∧
                      (∀ (x15 : MapEntry),
                        x15 ∈ x13.1 ∧ Array.contains M5 (MapEntry.born x15) = false →
                         ∀ (h6 : Heap),
                          h6 = Array.setIfInBounds h5 n13 (Obj.mapIter (some n14) n15 (Array.push M5 (MapEntry.born x15)) n17) →
                           (0 : Nat) = (0 : Nat) ∧
                            ∃ (n18 : Nat),
                             ∃ (n19 : Nat),
                              ∃ (M6 : Array Nat),
                               ∃ (n20 : Nat),
                                ∃ (x16 : Array MapEntry),
                                 ∃ (n21 : Nat),
                                  ∃ (x17 : MapEntry),
                                   h6[n13]? = some (Obj.mapIter (some n18) n19 M6 n20) ∧
                                    Array.back? M6 = some n21 ∧
                                     h6[n18]? = some (Obj.map x16 n20) ∧
                                      Array.find? (fun (x18 : MapEntry) => MapEntry.born x18 == n21) x16 = some x17 ∧
                                       match q0 with
                                       | Value.func (Fn.func x19) x20 x21 =>
                                        entersB Tryz.prog x19 = true ∧
                                         CallH Tryz.prog x19 { toList := List.append (List.append x20.1 [MapEntry.key x17]) x21.1 : Array Value } h6 fun (v5 : Value) (h7 : Heap) =>
                                          ∃ (t3 : Bool), v5 = Value.bool t3 ∧ ((!t3) = true → R (Value.tuple { toList := [] : Array Value }) h7) ∧ ((!t3) = false → I2 h7 ∧ M4 h7 < M4 h5)
                                       | v6 => CallV Tryz.prog v6 { toList := [MapEntry.key x17] : Array Value } h6 fun (v7 : Value) (h8 : Heap) => ∃ (t4 : Bool), v7 = Value.bool t4 ∧ ((!t4) = true → R (Value.tuple { toList := [] : Array Value }) h8) ∧ ((!t4) = false → I2 h8 ∧ M4 h8 < M4 h5)) ∧
                       ((∀ (x22 : MapEntry), x22 ∈ x13.1 → Array.contains M5 (MapEntry.born x22) = false → n15 ≤ MapEntry.born x22) → R (Value.tuple { toList := [] : Array Value }) h5))

theorem mKeys1_call (q0 : Value) (b1 : Nat) {h : Heap} {R : Value → Heap → Prop} (H : mKeys1_vc q0 b1 h R) : CallH Tryz.prog 80 ⟨[q0, .pointer (some ⟨b1, 0, none⟩)]⟩ h R :=
  callH_of_dCode tabOK mixed [(q0, false), (.pointer (some ⟨b1, 0, none⟩), false)] Tryz.func80 (c := bodyC Tryz.f80) (by kernel_rfl) (by kernel_rfl : Tryz.f80.ntmps = 14) rfl
    (Eq.mp (by kernel_rfl : mKeys1_vc q0 b1 h R = dCode Tryz.prog T ⟨[], [(1, [])], [], [], []⟩ (bodyC Tryz.f80) none (dEnd T (Tryz.f80.results.toList) R) (startE 14 [(q0, false), (.pointer (some ⟨b1, 0, none⟩), false)]) h) H)

/-- slices.Sort[[]int,int] -/
def sSort_vc (q0p : Option Addr) (q0l : Nat) (q0c : Nat) (h : Heap) (R : Value → Heap → Prop) : Prop :=
  entersB Tryz.prog (85 : Nat) = true ∧
 CallH Tryz.prog (85 : Nat) { toList := [Value.int IntKind.u64 (IntKind.wrap IntKind.u64 (↑q0l : Int))] : Array Value } h fun (v1 : Value) (h1 : Heap) =>
  ∃ (i1 : Int),
   v1 = Value.int IntKind.i64 i1 ∧
    entersB Tryz.prog (86 : Nat) = true ∧
     CallH Tryz.prog (86 : Nat) { toList := [Value.slice q0p q0l q0c, Value.int IntKind.i64 (0 : Int), Value.int IntKind.i64 (↑q0l : Int), Value.int IntKind.i64 i1] : Array Value } h1 fun (v2 : Value) (h2 : Heap) =>
      v2 = Value.tuple { toList := [] : Array Value } ∧ R (Value.tuple { toList := [] : Array Value }) h2

theorem sSort_call (q0p : Option Addr) (q0l : Nat) (q0c : Nat) {h : Heap} {R : Value → Heap → Prop} (H : sSort_vc q0p q0l q0c h R) : CallH Tryz.prog 81 ⟨[.slice q0p q0l q0c]⟩ h R :=
  callH_of_dCode tabOK mixed [(.slice q0p q0l q0c, false)] Tryz.func81 (c := bodyC Tryz.f81) (by kernel_rfl) (by kernel_rfl : Tryz.f81.ntmps = 11) rfl
    (Eq.mp (by kernel_rfl : sSort_vc q0p q0l q0c h R = dCode Tryz.prog T ⟨[], [], [], [], []⟩ (bodyC Tryz.f81) none (dEnd T (Tryz.f81.results.toList) R) (startE 11 [(.slice q0p q0l q0c, false)]) h) H)

/-- slices.AppendSeq[[]int,int] -/
def sAppendSeq_vc (q0p : Option Addr) (q0l : Nat) (q0c : Nat) (b1 : Nat) (h : Heap) (R : Value → Heap → Prop) : Prop :=
  ∀ (n1 : Nat) (rec1 : Array Obj),
 n1 = Array.size h →
  rec1 = Array.push h (Obj.cells { toList := [Value.slice q0p q0l q0c] : Array Value } (59 : Nat)) →
   entersB Tryz.prog (80 : FuncId) = true ∧
    ∀ (n2 n3 : Nat) (rec2 : LoopState → Option Code → Obj) (h1 : Heap),
     n3 = Array.size rec1 →
      n2 = Array.size rec1 + (1 : Nat) →
       (∀ (x1 : LoopState) (x2 : Option Code), notCells (rec2 x1 x2)) →
        h1 = Array.push (Array.push rec1 (Obj.deferred (some []))) (rec2 LoopState.ready none) →
         (∀ (i1 : Int) (h2 : Heap) (I1 : Value → Heap → Prop),
           h2[n2]? = some (rec2 LoopState.ready none) →
            (h2[n2]? = some (rec2 LoopState.ready none) ∧
              ∀ (h3 : Heap),
               h3 = Array.setIfInBounds h2 n2 (rec2 LoopState.busy none) →
                ∃ (p1 : Option Addr),
                 ∃ (n5 : Nat),
                  ∃ (n6 : Nat),
                   cellAt h3 { block := n1, off := (0 : Nat) : Addr } = some (Value.slice p1 n5 n6) ∧
                    ((0 : Nat) + (1 : Nat) = (1 : Nat) ∧ True) ∧
                     ∀ (n7 : Nat) (rec4 : Array Obj),
                      n7 = Array.size h3 →
                       rec4 = Array.push h3 (Obj.cells { toList := [Value.int IntKind.i64 i1] : Array Value } (3 : TypeId)) →
                        ∃ (l1 : List Value),
                         srcIs rec4 (1 : Nat) (1 : Nat) (Value.slice (some { block := n7, off := (0 : Nat) : Addr }) (1 : Nat) (1 : Nat)) l1 ∧
                          (∀ (v1 : Value), v1 ∈ l1 → isCell v1 = true) ∧
                           List.length l1 = (1 : Nat) ∧
                            (n5 + (1 : Nat) ≤ n6 →
                              match p1 with
                              | some a1 =>
                               okRow rec4 (Addr.add a1 (n5 * (1 : Nat))) (List.length l1) ∧
                                ∀ (h4 : Heap),
                                 h4 = updRow rec4 (Addr.add a1 (n5 * (1 : Nat))) (0 : Nat) l1 →
                                  true = true ∧
                                   okAt h4 { block := n1, off := (0 : Nat) : Addr } ∧
                                    ∀ (h5 : Heap), h5 = upd h4 { block := n1, off := (0 : Nat) : Addr } (Value.slice p1 (n5 + (1 : Nat)) n6) → h5[n2]? = some (rec2 LoopState.busy none) ∧ ∀ (h6 : Heap), h6 = Array.setIfInBounds h5 n2 (rec2 LoopState.ready none) → I1 (Value.bool true) h6
                              | none =>
                               true = true ∧
                                okAt rec4 { block := n1, off := (0 : Nat) : Addr } ∧
                                 ∀ (h7 : Heap), h7 = upd rec4 { block := n1, off := (0 : Nat) : Addr } (Value.slice p1 (n5 + (1 : Nat)) n6) → h7[n2]? = some (rec2 LoopState.busy none) ∧ ∀ (h8 : Heap), h8 = Array.setIfInBounds h7 n2 (rec2 LoopState.ready none) → I1 (Value.bool true) h8) ∧
                             (n6 < n5 + (1 : Nat) →
                              (n5 + (1 : Nat)) * (8 : Nat) ≤ (70368744177664 : Nat) ∧
                               (0 : Nat) < (8 : Nat) ∧
                                ∃ (l2 : List Value),
                                 srcIs rec4 (1 : Nat) n5 (Value.slice p1 n5 n6) l2 ∧
                                  ∀ (n8 : Nat),
                                   n5 + (1 : Nat) ≤ n8 →
                                    ∀ (n9 : Nat) (rec5 : Array Obj),
                                     n9 = Array.size rec4 →
                                      rec5 = Array.push rec4 (Obj.cells { toList := List.append (List.append l2 l1) (zrow [Value.int IntKind.i64 (Int.ofNat (0))] (n8 - (n5 + (1 : Nat)))) : Array Value } (3 : TypeId)) →
                                       true = true ∧
                                        okAt rec5 { block := n1, off := (0 : Nat) : Addr } ∧
                                         ∀ (h9 : Heap),
                                          h9 = upd rec5 { block := n1, off := (0 : Nat) : Addr } (Value.slice (some { block := n9, off := (0 : Nat) : Addr }) (n5 + (1 : Nat)) n8) →
                                           h9[n2]? = some (rec2 LoopState.busy none) ∧ ∀ (h10 : Heap), h10 = Array.setIfInBounds h9 n2 (rec2 LoopState.ready none) → I1 (Value.bool true) h10)) →
             CallV Tryz.prog (yieldV n2) { toList := [Value.int IntKind.i64 i1] : Array Value } h2 I1) →
          CallH Tryz.prog (80 : FuncId) { toList := [yieldV n2, Value.pointer (some { block := b1, off := (0 : Nat) : Addr })] : Array Value } h1 fun (v2 : Value) (h11 : Heap) =>
           h11[n2]? = some (rec2 LoopState.ready none) ∧
            ∀ (h12 : Heap),
             h12 = Array.setIfInBounds h11 n2 (rec2 LoopState.exhausted none) →
              ∃ (p3 : Option Addr), ∃ (n10 : Nat), ∃ (n11 : Nat), cellAt h12 { block := n1, off := (0 : Nat) : Addr } = some (Value.slice p3 n10 n11) ∧ h12[n3]? = some (Obj.deferred (some [])) ∧ ∀ (h13 : Heap), h13 = Array.setIfInBounds h12 n3 (Obj.deferred none) → R (Value.slice p3 n10 n11) h13

theorem sAppendSeq_call (q0p : Option Addr) (q0l : Nat) (q0c : Nat) (b1 : Nat) {h : Heap} {R : Value → Heap → Prop} (H : sAppendSeq_vc q0p q0l q0c b1 h R) : CallH Tryz.prog 83 ⟨[.slice q0p q0l q0c, .func (.func 80) #[] #[.pointer (some ⟨b1, 0, none⟩)]]⟩ h R :=
  callH_of_dCode tabOK mixed [(.slice q0p q0l q0c, false), (.func (.func 80) #[] #[.pointer (some ⟨b1, 0, none⟩)], false)] Tryz.func83 (c := bodyC Tryz.f83) (by kernel_rfl) (by kernel_rfl : Tryz.f83.ntmps = 13) rfl
    (Eq.mp (by kernel_rfl : sAppendSeq_vc q0p q0l q0c b1 h R = dCode Tryz.prog T ⟨[], [], [], [(3, [.int .i64])], []⟩ (bodyC Tryz.f83) none (dEnd T (Tryz.f83.results.toList) R) (startE 13 [(.slice q0p q0l q0c, false), (.func (.func 80) #[] #[.pointer (some ⟨b1, 0, none⟩)], false)]) h) H)

/-- cmp.Less[int] -/
def cmpLess_vc (q0 : Int) (q1 : Int) (h : Heap) (R : Value → Heap → Prop) : Prop :=
  entersB Tryz.prog (114 : Nat) = true ∧
 CallH Tryz.prog (114 : Nat) { toList := [Value.int IntKind.i64 q0] : Array Value } h fun (v1 : Value) (h1 : Heap) =>
  ∃ (t1 : Bool),
   v1 = Value.bool t1 ∧
    (t1 = true →
      entersB Tryz.prog (114 : Nat) = true ∧ CallH Tryz.prog (114 : Nat) { toList := [Value.int IntKind.i64 q1] : Array Value } h1 fun (v2 : Value) (h2 : Heap) => ∃ (t2 : Bool), v2 = Value.bool t2 ∧ ((!t2) = true → R (Value.bool true) h2) ∧ ((!t2) = false → R (Value.bool (decide (q0 < q1))) h2)) ∧
     (t1 = false → R (Value.bool (decide (q0 < q1))) h1)

theorem cmpLess_call (q0 : Int) (q1 : Int) {h : Heap} {R : Value → Heap → Prop} (H : cmpLess_vc q0 q1 h R) : CallH Tryz.prog 103 ⟨[.int .i64 q0, .int .i64 q1]⟩ h R :=
  callH_of_dCode tabOK mixed [(.int .i64 q0, false), (.int .i64 q1, false)] Tryz.func103 (c := bodyC Tryz.f103) (by kernel_rfl) (by kernel_rfl : Tryz.f103.ntmps = 17) rfl
    (Eq.mp (by kernel_rfl : cmpLess_vc q0 q1 h R = dCode Tryz.prog T ⟨[], [], [], [], []⟩ (bodyC Tryz.f103) none (dEnd T (Tryz.f103.results.toList) R) (startE 17 [(.int .i64 q0, false), (.int .i64 q1, false)]) h) H)

/-- cmp.isNaN[int] -/
def isNaN_vc (q0 : Int) (h : Heap) (R : Value → Heap → Prop) : Prop :=
  R (Value.bool (q0 != q0)) h

theorem isNaN_call (q0 : Int) {h : Heap} {R : Value → Heap → Prop} (H : isNaN_vc q0 h R) : CallH Tryz.prog 114 ⟨[.int .i64 q0]⟩ h R :=
  callH_of_dCode tabOK mixed [(.int .i64 q0, false)] Tryz.func114 (c := bodyC Tryz.f114) (by kernel_rfl) (by kernel_rfl : Tryz.f114.ntmps = 6) rfl
    (Eq.mp (by kernel_rfl : isNaN_vc q0 h R = dCode Tryz.prog T ⟨[], [], [], [], []⟩ (bodyC Tryz.f114) none (dEnd T (Tryz.f114.results.toList) R) (startE 6 [(.int .i64 q0, false)]) h) H)

/-- slices.insertionSortOrdered[int] -/
def insO_vc (q0p : Option Addr) (q0l : Nat) (q0c : Nat) (q1 : Int) (q2 : Int) (h : Heap) (R : Value → Heap → Prop) : Prop :=
  ∃ (I1 : Int → Heap → Prop),
 ∃ (M1 : Int → Heap → Nat),
  I1 (IntKind.wrap IntKind.i64 (q1 + (1 : Int))) h ∧
   ∀ (i1 : Int) (h1 : Heap),
    I1 i1 h1 →
     (decide (i1 < q2) = true →
       ∃ (I2 : Int → Heap → Prop),
        ∃ (M2 : Int → Heap → Nat),
         I2 i1 h1 ∧
          ∀ (i2 : Int) (h2 : Heap),
           I2 i2 h2 →
            (decide (i2 > q1) = true →
              match q0p with
              | some a1 =>
               ((0 : Int) ≤ i2 ∧ i2 < (↑q0l : Int)) ∧
                ∃ (i3 : Int),
                 cellAt h2 (Addr.add a1 (Int.toNat i2 * (1 : Nat))) = some (Value.int IntKind.i64 i3) ∧
                  match q0p with
                  | some a2 =>
                   ((0 : Int) ≤ IntKind.wrap IntKind.i64 (i2 - (1 : Int)) ∧ IntKind.wrap IntKind.i64 (i2 - (1 : Int)) < (↑q0l : Int)) ∧
                    ∃ (i4 : Int),
                     cellAt h2 (Addr.add a2 (Int.toNat (IntKind.wrap IntKind.i64 (i2 - (1 : Int))) * (1 : Nat))) = some (Value.int IntKind.i64 i4) ∧
                      entersB Tryz.prog (103 : Nat) = true ∧
                       CallH Tryz.prog (103 : Nat) { toList := [Value.int IntKind.i64 i3, Value.int IntKind.i64 i4] : Array Value } h2 fun (v1 : Value) (h3 : Heap) =>
                        ∃ (t1 : Bool),
                         v1 = Value.bool t1 ∧
                          (t1 = true →
                            match q0p with
                            | some a3 =>
                             ((0 : Int) ≤ IntKind.wrap IntKind.i64 (i2 - (1 : Int)) ∧ IntKind.wrap IntKind.i64 (i2 - (1 : Int)) < (↑q0l : Int)) ∧
                              ∃ (i5 : Int),
                               cellAt h3 (Addr.add a3 (Int.toNat (IntKind.wrap IntKind.i64 (i2 - (1 : Int))) * (1 : Nat))) = some (Value.int IntKind.i64 i5) ∧
                                match q0p with
                                | some a4 =>
                                 ((0 : Int) ≤ i2 ∧ i2 < (↑q0l : Int)) ∧
                                  ∃ (i6 : Int),
                                   cellAt h3 (Addr.add a4 (Int.toNat i2 * (1 : Nat))) = some (Value.int IntKind.i64 i6) ∧
                                    match q0p with
                                    | some a5 =>
                                     ((0 : Int) ≤ i2 ∧ i2 < (↑q0l : Int)) ∧
                                      true = true ∧
                                       okAt h3 (Addr.add a5 (Int.toNat i2 * (1 : Nat))) ∧
                                        ∀ (h4 : Heap),
                                         h4 = upd h3 (Addr.add a5 (Int.toNat i2 * (1 : Nat))) (Value.int IntKind.i64 i5) →
                                          match q0p with
                                          | some a6 =>
                                           ((0 : Int) ≤ IntKind.wrap IntKind.i64 (i2 - (1 : Int)) ∧ IntKind.wrap IntKind.i64 (i2 - (1 : Int)) < (↑q0l : Int)) ∧
                                            true = true ∧
                                             okAt h4 (Addr.add a6 (Int.toNat (IntKind.wrap IntKind.i64 (i2 - (1 : Int))) * (1 : Nat))) ∧
                                              ∀ (h5 : Heap), h5 = upd h4 (Addr.add a6 (Int.toNat (IntKind.wrap IntKind.i64 (i2 - (1 : Int))) * (1 : Nat))) (Value.int IntKind.i64 i6) → I2 (IntKind.wrap IntKind.i64 (i2 - (1 : Int))) h5 ∧ M2 (IntKind.wrap IntKind.i64 (i2 - (1 : Int))) h5 < M2 i2 h2
                                          | none => False
                                    | none => False
                                | none => False
                            | none => False) ∧
                           (t1 = false → I1 (IntKind.wrap IntKind.i64 (i1 + (1 : Int))) h3 ∧ M1 (IntKind.wrap IntKind.i64 (i1 + (1 : Int))) h3 < M1 i1 h1)
                  | none => False
              | none => False) ∧
             (decide (i2 > q1) = false → I1 (IntKind.wrap IntKind.i64 (i1 + (1 : Int))) h2 ∧ M1 (IntKind.wrap IntKind.i64 (i1 + (1 : Int))) h2 < M1 i1 h1)) ∧
      (decide (i1 < q2) = false → R (Value.tuple { toList := [] : Array Value }) h1)

theorem insO_call (q0p : Option Addr) (q0l : Nat) (q0c : Nat) (q1 : Int) (q2 : Int) {h : Heap} {R : Value → Heap → Prop} (H : insO_vc q0p q0l q0c q1 q2 h R) : CallH Tryz.prog 97 ⟨[.slice q0p q0l q0c, .int .i64 q1, .int .i64 q2]⟩ h R :=
  callH_of_dCode tabOK mixed [(.slice q0p q0l q0c, false), (.int .i64 q1, false), (.int .i64 q2, false)] Tryz.func97 (c := bodyC Tryz.f97) (by kernel_rfl) (by kernel_rfl : Tryz.f97.ntmps = 49) rfl
    (Eq.mp (by kernel_rfl : insO_vc q0p q0l q0c q1 q2 h R = dCode Tryz.prog T ⟨[], [(4, [(7, .int .i64)]), (1, [(6, .int .i64)])], [], [], []⟩ (bodyC Tryz.f97) none (dEnd T (Tryz.f97.results.toList) R) (startE 49 [(.slice q0p q0l q0c, false), (.int .i64 q1, false), (.int .i64 q2, false)]) h) H)

/-- slices.insertionSortCmpFunc[int] -/
def insC_vc (q0p : Option Addr) (q0l : Nat) (q0c : Nat) (q1 : Int) (q2 : Int) (q3 : Value) (h : Heap) (R : Value → Heap → Prop) : Prop :=
  ∃ (I1 : Int → Heap → Prop),
 ∃ (M1 : Int → Heap → Nat),
  I1 (IntKind.wrap IntKind.i64 (q1 + (1 : Int))) h ∧
   ∀ (i1 : Int) (h1 : Heap),
    I1 i1 h1 →
     (decide (i1 < q2) = true →
       ∃ (I2 : Int → Heap → Prop),
        ∃ (M2 : Int → Heap → Nat),
         I2 i1 h1 ∧
          ∀ (i2 : Int) (h2 : Heap),
           I2 i2 h2 →
            (decide (i2 > q1) = true →
              match q0p with
              | some a1 =>
               ((0 : Int) ≤ i2 ∧ i2 < (↑q0l : Int)) ∧
                ∃ (i3 : Int),
                 cellAt h2 (Addr.add a1 (Int.toNat i2 * (1 : Nat))) = some (Value.int IntKind.i64 i3) ∧
                  match q0p with
                  | some a2 =>
                   ((0 : Int) ≤ IntKind.wrap IntKind.i64 (i2 - (1 : Int)) ∧ IntKind.wrap IntKind.i64 (i2 - (1 : Int)) < (↑q0l : Int)) ∧
                    ∃ (i4 : Int),
                     cellAt h2 (Addr.add a2 (Int.toNat (IntKind.wrap IntKind.i64 (i2 - (1 : Int))) * (1 : Nat))) = some (Value.int IntKind.i64 i4) ∧
                      match q3 with
                      | Value.func (Fn.func x1) x2 x3 =>
                       entersB Tryz.prog x1 = true ∧
                        CallH Tryz.prog x1 { toList := List.append (List.append x2.1 [Value.int IntKind.i64 i3, Value.int IntKind.i64 i4]) x3.1 : Array Value } h2 fun (v2 : Value) (h3 : Heap) =>
                         ∃ (i5 : Int),
                          v2 = Value.int IntKind.i64 i5 ∧
                           (decide (i5 < (0 : Int)) = true →
                             match q0p with
                             | some a3 =>
                              ((0 : Int) ≤ IntKind.wrap IntKind.i64 (i2 - (1 : Int)) ∧ IntKind.wrap IntKind.i64 (i2 - (1 : Int)) < (↑q0l : Int)) ∧
                               ∃ (i6 : Int),
                                cellAt h3 (Addr.add a3 (Int.toNat (IntKind.wrap IntKind.i64 (i2 - (1 : Int))) * (1 : Nat))) = some (Value.int IntKind.i64 i6) ∧
                                 match q0p with
                                 | some a4 =>
                                  ((0 : Int) ≤ i2 ∧ i2 < (↑q0l : Int)) ∧
                                   ∃ (i7 : Int),
                                    cellAt h3 (Addr.add a4 (Int.toNat i2 * (1 : Nat))) = some (Value.int IntKind.i64 i7) ∧
                                     match q0p with
                                     | some a5 =>
                                      ((0 : Int) ≤ i2 ∧ i2 < (↑q0l : Int)) ∧
                                       true = true ∧
                                        okAt h3 (Addr.add a5 (Int.toNat i2 * (1 : Nat))) ∧
                                         ∀ (h4 : Heap),
                                          h4 = upd h3 (Addr.add a5 (Int.toNat i2 * (1 : Nat))) (Value.int IntKind.i64 i6) →
                                           match q0p with
                                           | some a6 =>
                                            ((0 : Int) ≤ IntKind.wrap IntKind.i64 (i2 - (1 : Int)) ∧ IntKind.wrap IntKind.i64 (i2 - (1 : Int)) < (↑q0l : Int)) ∧
                                             true = true ∧
                                              okAt h4 (Addr.add a6 (Int.toNat (IntKind.wrap IntKind.i64 (i2 - (1 : Int))) * (1 : Nat))) ∧
                                               ∀ (h5 : Heap), h5 = upd h4 (Addr.add a6 (Int.toNat (IntKind.wrap IntKind.i64 (i2 - (1 : Int))) * (1 : Nat))) (Value.int IntKind.i64 i7) → I2 (IntKind.wrap IntKind.i64 (i2 - (1 : Int))) h5 ∧ M2 (IntKind.wrap IntKind.i64 (i2 - (1 : Int))) h5 < M2 i2 h2
                                           | none => False
                                     | none => False
                                 | none => False
                             | none => False) ∧
                            (decide (i5 < (0 : Int)) = false → I1 (IntKind.wrap IntKind.i64 (i1 + (1 : Int))) h3 ∧ M1 (IntKind.wrap IntKind.i64 (i1 + (1 : Int))) h3 < M1 i1 h1)
                      | v3 =>
                       CallV Tryz.prog v3 { toList := [Value.int IntKind.i64 i3, Value.int IntKind.i64 i4] : Array Value } h2 fun (v4 : Value) (h6 : Heap) =>
                        ∃ (i8 : Int),
                         v4 = Value.int IntKind.i64 i8 ∧
                          (decide (i8 < (0 : Int)) = true →
                            match q0p with
                            | some a7 =>
                             ((0 : Int) ≤ IntKind.wrap IntKind.i64 (i2 - (1 : Int)) ∧ IntKind.wrap IntKind.i64 (i2 - (1 : Int)) < (↑q0l : Int)) ∧
                              ∃ (i9 : Int),
                               cellAt h6 (Addr.add a7 (Int.toNat (IntKind.wrap IntKind.i64 (i2 - (1 : Int))) * (1 : Nat))) = some (Value.int IntKind.i64 i9) ∧
                                match q0p with
                                | some a8 =>
                                 ((0 : Int) ≤ i2 ∧ i2 < (↑q0l : Int)) ∧
                                  ∃ (i10 : Int),
                                   cellAt h6 (Addr.add a8 (Int.toNat i2 * (1 : Nat))) = some (Value.int IntKind.i64 i10) ∧
                                    match q0p with
                                    | some a9 =>
                                     ((0 : Int) ≤ i2 ∧ i2 < (↑q0l : Int)) ∧
                                      true = true ∧
                                       okAt h6 (Addr.add a9 (Int.toNat i2 * (1 : Nat))) ∧
                                        ∀ (h7 : Heap),
                                         h7 = upd h6 (Addr.add a9 (Int.toNat i2 * (1 : Nat))) (Value.int IntKind.i64 i9) →
                                          match q0p with
                                          | some a10 =>
                                           ((0 : Int) ≤ IntKind.wrap IntKind.i64 (i2 - (1 : Int)) ∧ IntKind.wrap IntKind.i64 (i2 - (1 : Int)) < (↑q0l : Int)) ∧
                                            true = true ∧
                                             okAt h7 (Addr.add a10 (Int.toNat (IntKind.wrap IntKind.i64 (i2 - (1 : Int))) * (1 : Nat))) ∧
                                              ∀ (h8 : Heap), h8 = upd h7 (Addr.add a10 (Int.toNat (IntKind.wrap IntKind.i64 (i2 - (1 : Int))) * (1 : Nat))) (Value.int IntKind.i64 i10) → I2 (IntKind.wrap IntKind.i64 (i2 - (1 : Int))) h8 ∧ M2 (IntKind.wrap IntKind.i64 (i2 - (1 : Int))) h8 < M2 i2 h2
                                          | none => False
                                    | none => False
                                | none => False
                            | none => False) ∧
                           (decide (i8 < (0 : Int)) = false → I1 (IntKind.wrap IntKind.i64 (i1 + (1 : Int))) h6 ∧ M1 (IntKind.wrap IntKind.i64 (i1 + (1 : Int))) h6 < M1 i1 h1)
                  | none => False
              | none => False) ∧
             (decide (i2 > q1) = false → I1 (IntKind.wrap IntKind.i64 (i1 + (1 : Int))) h2 ∧ M1 (IntKind.wrap IntKind.i64 (i1 + (1 : Int))) h2 < M1 i1 h1)) ∧
      (decide (i1 < q2) = false → R (Value.tuple { toList := [] : Array Value }) h1)

theorem insC_call (q0p : Option Addr) (q0l : Nat) (q0c : Nat) (q1 : Int) (q2 : Int) (q3 : Value) {h : Heap} {R : Value → Heap → Prop} (H : insC_vc q0p q0l q0c q1 q2 q3 h R) : CallH Tryz.prog 87 ⟨[.slice q0p q0l q0c, .int .i64 q1, .int .i64 q2, q3]⟩ h R :=
  callH_of_dCode tabOK mixed [(.slice q0p q0l q0c, false), (.int .i64 q1, false), (.int .i64 q2, false), (q3, false)] Tryz.func87 (c := bodyC Tryz.f87) (by kernel_rfl) (by kernel_rfl : Tryz.f87.ntmps = 53) rfl
    (Eq.mp (by kernel_rfl : insC_vc q0p q0l q0c q1 q2 q3 h R = dCode Tryz.prog T ⟨[], [(4, [(9, .int .i64)]), (1, [(8, .int .i64)])], [], [], []⟩ (bodyC Tryz.f87) none (dEnd T (Tryz.f87.results.toList) R) (startE 53 [(.slice q0p q0l q0c, false), (.int .i64 q1, false), (.int .i64 q2, false), (q3, false)]) h) H)

/-- incipit/incipitref01.Same -/
def rSame_vc (q0p : Option Addr) (q0l : Nat) (q0c : Nat) (q1p : Option Addr) (q1l : Nat) (q1c : Nat) (h : Heap) (R : Value → Heap → Prop) : Prop :=
  entersB Tryz.prog (53 : Nat) = true ∧ CallH Tryz.prog (53 : Nat) { toList := [Value.slice q0p q0l q0c, Value.slice q1p q1l q1c] : Array Value } h fun (v1 : Value) (h1 : Heap) => ∃ (i1 : Int), v1 = Value.int IntKind.i64 i1 ∧ R (Value.bool (i1 == (0 : Int))) h1

theorem rSame_call (q0p : Option Addr) (q0l : Nat) (q0c : Nat) (q1p : Option Addr) (q1l : Nat) (q1c : Nat) {h : Heap} {R : Value → Heap → Prop} (H : rSame_vc q0p q0l q0c q1p q1l q1c h R) : CallH Tryz.prog 15 ⟨[.slice q0p q0l q0c, .slice q1p q1l q1c]⟩ h R :=
  callH_of_dCode tabOK mixed [(.slice q0p q0l q0c, false), (.slice q1p q1l q1c, false)] Tryz.func15 (c := bodyC Tryz.f15) (by kernel_rfl) (by kernel_rfl : Tryz.f15.ntmps = 9) rfl
    (Eq.mp (by kernel_rfl : rSame_vc q0p q0l q0c q1p q1l q1c h R = dCode Tryz.prog T ⟨[], [], [], [], []⟩ (bodyC Tryz.f15) none (dEnd T (Tryz.f15.results.toList) R) (startE 9 [(.slice q0p q0l q0c, false), (.slice q1p q1l q1c, false)]) h) H)

/-- incipit/incipitref05.Ints -/
def rInts_vc (q0p : Option Addr) (q0l : Nat) (q0c : Nat) (q1p : Option Addr) (q1l : Nat) (q1c : Nat) (h : Heap) (R : Value → Heap → Prop) : Prop :=
  (((↑q0l : Int) != (↑q1l : Int)) = true → R (Value.bool false) h) ∧
 (((↑q0l : Int) != (↑q1l : Int)) = false →
  ∃ (I1 : Int → Heap → Prop),
   ∃ (M1 : Int → Heap → Nat),
    I1 (0 : Int) h ∧
     ∀ (i1 : Int) (h1 : Heap),
      I1 i1 h1 →
       (decide (i1 < (↑q0l : Int)) = true →
         match q0p with
         | some a1 =>
          ((0 : Int) ≤ i1 ∧ i1 < (↑q0l : Int)) ∧
           ∃ (i2 : Int),
            cellAt h1 (Addr.add a1 (Int.toNat i1 * (1 : Nat))) = some (Value.int IntKind.i64 i2) ∧
             match q1p with
             | some a2 =>
              ((0 : Int) ≤ i1 ∧ i1 < (↑q1l : Int)) ∧
               ∃ (i3 : Int), cellAt h1 (Addr.add a2 (Int.toNat i1 * (1 : Nat))) = some (Value.int IntKind.i64 i3) ∧ ((i2 != i3) = true → R (Value.bool false) h1) ∧ ((i2 != i3) = false → I1 (IntKind.wrap IntKind.i64 (i1 + (1 : Int))) h1 ∧ M1 (IntKind.wrap IntKind.i64 (i1 + (1 : Int))) h1 < M1 i1 h1)
             | none => False
         | none => False) ∧
        (decide (i1 < (↑q0l : Int)) = false → R (Value.bool true) h1))

theorem rInts_call (q0p : Option Addr) (q0l : Nat) (q0c : Nat) (q1p : Option Addr) (q1l : Nat) (q1c : Nat) {h : Heap} {R : Value → Heap → Prop} (H : rInts_vc q0p q0l q0c q1p q1l q1c h R) : CallH Tryz.prog 19 ⟨[.slice q0p q0l q0c, .slice q1p q1l q1c]⟩ h R :=
  callH_of_dCode tabOK mixed [(.slice q0p q0l q0c, false), (.slice q1p q1l q1c, false)] Tryz.func19 (c := bodyC Tryz.f19) (by kernel_rfl) (by kernel_rfl : Tryz.f19.ntmps = 26) rfl
    (Eq.mp (by kernel_rfl : rInts_vc q0p q0l q0c q1p q1l q1c h R = dCode Tryz.prog T ⟨[], [(4, [(5, .int .i64)])], [], [], []⟩ (bodyC Tryz.f19) none (dEnd T (Tryz.f19.results.toList) R) (startE 26 [(.slice q0p q0l q0c, false), (.slice q1p q1l q1c, false)]) h) H)

/-- incipit/incipitref01.Compare -/
def rCompare_vc (q0p : Option Addr) (q0l : Nat) (q0c : Nat) (q1p : Option Addr) (q1l : Nat) (q1c : Nat) (h : Heap) (R : Value → Heap → Prop) : Prop :=
  entersB Tryz.prog (76 : Nat) = true ∧
 CallH Tryz.prog (76 : Nat) { toList := [Value.slice q0p q0l q0c, Value.slice q1p q1l q1c] : Array Value } h fun (v1 : Value) (h1 : Heap) =>
  ∃ (i1 : Int),
   v1 = Value.int IntKind.i64 i1 ∧
    ((i1 == (↑q0l : Int)) = true →
      ((i1 == (↑q1l : Int)) = true → R (Value.int IntKind.i64 (0 : Int)) h1) ∧
       ((i1 == (↑q1l : Int)) = false →
        ((i1 == (↑q0l : Int)) = true → R (Value.int IntKind.i64 (-1 : Int)) h1) ∧
         ((i1 == (↑q0l : Int)) = false →
          ((i1 == (↑q1l : Int)) = true → R (Value.int IntKind.i64 (1 : Int)) h1) ∧
           ((i1 == (↑q1l : Int)) = false →
            match q0p with
            | some a1 =>
             ((0 : Int) ≤ i1 ∧ i1 < (↑q0l : Int)) ∧
              ∃ (i2 : Int),
               cellAt h1 (Addr.add a1 (Int.toNat i1 * (1 : Nat))) = some (Value.int IntKind.u8 i2) ∧
                match q1p with
                | some a2 =>
                 ((0 : Int) ≤ i1 ∧ i1 < (↑q1l : Int)) ∧ ∃ (i3 : Int), cellAt h1 (Addr.add a2 (Int.toNat i1 * (1 : Nat))) = some (Value.int IntKind.u8 i3) ∧ (decide (i2 > i3) = true → R (Value.int IntKind.i64 (1 : Int)) h1) ∧ (decide (i2 > i3) = false → R (Value.int IntKind.i64 (-1 : Int)) h1)
                | none => False
            | none => False)))) ∧
     ((i1 == (↑q0l : Int)) = false →
      ((i1 == (↑q0l : Int)) = true → R (Value.int IntKind.i64 (-1 : Int)) h1) ∧
       ((i1 == (↑q0l : Int)) = false →
        ((i1 == (↑q1l : Int)) = true → R (Value.int IntKind.i64 (1 : Int)) h1) ∧
         ((i1 == (↑q1l : Int)) = false →
          match q0p with
          | some a3 =>
           ((0 : Int) ≤ i1 ∧ i1 < (↑q0l : Int)) ∧
            ∃ (i4 : Int),
             cellAt h1 (Addr.add a3 (Int.toNat i1 * (1 : Nat))) = some (Value.int IntKind.u8 i4) ∧
              match q1p with
              | some a4 =>
               ((0 : Int) ≤ i1 ∧ i1 < (↑q1l : Int)) ∧ ∃ (i5 : Int), cellAt h1 (Addr.add a4 (Int.toNat i1 * (1 : Nat))) = some (Value.int IntKind.u8 i5) ∧ (decide (i4 > i5) = true → R (Value.int IntKind.i64 (1 : Int)) h1) ∧ (decide (i4 > i5) = false → R (Value.int IntKind.i64 (-1 : Int)) h1)
              | none => False
          | none => False)))

theorem rCompare_call (q0p : Option Addr) (q0l : Nat) (q0c : Nat) (q1p : Option Addr) (q1l : Nat) (q1c : Nat) {h : Heap} {R : Value → Heap → Prop} (H : rCompare_vc q0p q0l q0c q1p q1l q1c h R) : CallH Tryz.prog 53 ⟨[.slice q0p q0l q0c, .slice q1p q1l q1c]⟩ h R :=
  callH_of_dCode tabOK mixed [(.slice q0p q0l q0c, false), (.slice q1p q1l q1c, false)] Tryz.func53 (c := bodyC Tryz.f53) (by kernel_rfl) (by kernel_rfl : Tryz.f53.ntmps = 38) rfl
    (Eq.mp (by kernel_rfl : rCompare_vc q0p q0l q0c q1p q1l q1c h R = dCode Tryz.prog T ⟨[], [], [], [], []⟩ (bodyC Tryz.f53) none (dEnd T (Tryz.f53.results.toList) R) (startE 38 [(.slice q0p q0l q0c, false), (.slice q1p q1l q1c, false)]) h) H)

/-- incipit/incipitref01.Prefix -/
def rPrefix_vc (q0p : Option Addr) (q0l : Nat) (q0c : Nat) (q1p : Option Addr) (q1l : Nat) (q1c : Nat) (h : Heap) (R : Value → Heap → Prop) : Prop :=
  ∃ (I1 : Int → Heap → Prop),
 ∃ (M1 : Int → Heap → Nat),
  I1 (0 : Int) h ∧
   ∀ (i1 : Int) (h1 : Heap),
    I1 i1 h1 →
     (decide (i1 < (↑q0l : Int)) = true →
       (decide (i1 < (↑q1l : Int)) = true →
         match q0p with
         | some a1 =>
          ((0 : Int) ≤ i1 ∧ i1 < (↑q0l : Int)) ∧
           ∃ (i2 : Int),
            cellAt h1 (Addr.add a1 (Int.toNat i1 * (1 : Nat))) = some (Value.int IntKind.u8 i2) ∧
             match q1p with
             | some a2 =>
              ((0 : Int) ≤ i1 ∧ i1 < (↑q1l : Int)) ∧
               ∃ (i3 : Int),
                cellAt h1 (Addr.add a2 (Int.toNat i1 * (1 : Nat))) = some (Value.int IntKind.u8 i3) ∧ ((i2 == i3) = true → I1 (IntKind.wrap IntKind.i64 (i1 + (1 : Int))) h1 ∧ M1 (IntKind.wrap IntKind.i64 (i1 + (1 : Int))) h1 < M1 i1 h1) ∧ ((i2 == i3) = false → R (Value.int IntKind.i64 i1) h1)
             | none => False
         | none => False) ∧
        (decide (i1 < (↑q1l : Int)) = false → R (Value.int IntKind.i64 i1) h1)) ∧
      (decide (i1 < (↑q0l : Int)) = false → R (Value.int IntKind.i64 i1) h1)

theorem rPrefix_call (q0p : Option Addr) (q0l : Nat) (q0c : Nat) (q1p : Option Addr) (q1l : Nat) (q1c : Nat) {h : Heap} {R : Value → Heap → Prop} (H : rPrefix_vc q0p q0l q0c q1p q1l q1c h R) : CallH Tryz.prog 76 ⟨[.slice q0p q0l q0c, .slice q1p q1l q1c]⟩ h R :=
  callH_of_dCode tabOK mixed [(.slice q0p q0l q0c, false), (.slice q1p q1l q1c, false)] Tryz.func76 (c := bodyC Tryz.f76) (by kernel_rfl) (by kernel_rfl : Tryz.f76.ntmps = 30) rfl
    (Eq.mp (by kernel_rfl : rPrefix_vc q0p q0l q0c q1p q1l q1c h R = dCode Tryz.prog T ⟨[], [(2, [(5, .int .i64)])], [], [], []⟩ (bodyC Tryz.f76) none (dEnd T (Tryz.f76.results.toList) R) (startE 30 [(.slice q0p q0l q0c, false), (.slice q1p q1l q1c, false)]) h) H)

/-- incipit/incipitlaw05.page -/
def pg_vc (q0 : Int) (h : Heap) (R : Value → Heap → Prop) : Prop :=
  ((0 : Nat) + (1 : Nat) = (1 : Nat) ∧ (0 : Nat) + (1 : Nat) = (1 : Nat) ∧ (0 : Nat) + (1 : Nat) = (1 : Nat) ∧ (0 : Nat) + (1 : Nat) = (1 : Nat) ∧ True) ∧
 ∀ (n1 : Nat) (rec1 : Array Obj),
  n1 = Array.size h →
   rec1 = Array.push h (Obj.cells { toList := [Value.int IntKind.u8 q0, Value.int IntKind.u8 q0, Value.int IntKind.u8 q0, Value.int IntKind.u8 q0] : Array Value } (5 : TypeId)) →
    entersB Tryz.prog (58 : Nat) = true ∧
     CallH Tryz.prog (58 : Nat) { toList := [Value.slice (some { block := n1, off := (0 : Nat) : Addr }) (4 : Nat) (4 : Nat)] : Array Value } rec1 fun (v1 : Value) (h1 : Heap) => ∃ (p1 : Option Addr), ∃ (n2 : Nat), ∃ (n3 : Nat), v1 = Value.slice p1 n2 n3 ∧ R (Value.slice p1 n2 n3) h1

theorem pg_call (q0 : Int) {h : Heap} {R : Value → Heap → Prop} (H : pg_vc q0 h R) : CallH Tryz.prog 17 ⟨[.int .u8 q0]⟩ h R :=
  callH_of_dCode tabOK mixed [(.int .u8 q0, false)] Tryz.func17 (c := bodyC Tryz.f17) (by kernel_rfl) (by kernel_rfl : Tryz.f17.ntmps = 9) rfl
    (Eq.mp (by kernel_rfl : pg_vc q0 h R = dCode Tryz.prog T ⟨[], [], [], [], []⟩ (bodyC Tryz.f17) none (dEnd T (Tryz.f17.results.toList) R) (startE 9 [(.int .u8 q0, false)]) h) H)

/-- incipit/incipitlaw03.Page -/
def lPage_vc (q0p : Option Addr) (q0l : Nat) (q0c : Nat) (h : Heap) (R : Value → Heap → Prop) : Prop :=
  ((0 : Int) ≤ (256 : Int) ∧ (256 : Int) ≤ (256 : Int) ∧ (↑(1 : Nat) : Int) * (256 : Int) ≤ (281474976710656 : Int) ∧ (256 : Int) ≤ (281474976710656 : Int)) ∧
 ∀ (n1 : Nat) (rec1 : Array Obj),
  n1 = Array.size h →
   rec1 = Array.push h (Obj.cells { toList := zrow [Value.int IntKind.u8 (Int.ofNat (0))] (256 : Nat) : Array Value } (5 : TypeId)) →
    ∃ (I1 : Int → Heap → Prop),
     ∃ (M1 : Int → Heap → Nat),
      I1 (0 : Int) rec1 ∧
       ∀ (i1 : Int) (h1 : Heap),
        I1 i1 h1 →
         (decide (i1 < (↑(256 : Nat) : Int)) = true →
           (64 : Int) ≠ (0 : Int) ∧
            (decide (IntKind.wrap IntKind.i64 (Int.tdiv i1 (64 : Int)) < (↑q0l : Int)) = true →
              match q0p with
              | some a1 =>
               ((0 : Int) ≤ IntKind.wrap IntKind.i64 (Int.tdiv i1 (64 : Int)) ∧ IntKind.wrap IntKind.i64 (Int.tdiv i1 (64 : Int)) < (↑q0l : Int)) ∧
                ∃ (i2 : Int),
                 cellAt h1 (Addr.add a1 (Int.toNat (IntKind.wrap IntKind.i64 (Int.tdiv i1 (64 : Int))) * (1 : Nat))) = some (Value.int IntKind.u8 i2) ∧
                  ((0 : Int) ≤ i1 ∧ i1 < (↑(256 : Nat) : Int)) ∧
                   true = true ∧
                    okAt h1 (Addr.add { block := n1, off := (0 : Nat) : Addr } (Int.toNat i1 * (1 : Nat))) ∧
                     ∀ (h2 : Heap), h2 = upd h1 (Addr.add { block := n1, off := (0 : Nat) : Addr } (Int.toNat i1 * (1 : Nat))) (Value.int IntKind.u8 i2) → I1 (IntKind.wrap IntKind.i64 (i1 + (1 : Int))) h2 ∧ M1 (IntKind.wrap IntKind.i64 (i1 + (1 : Int))) h2 < M1 i1 h1
              | none => False) ∧
             (decide (IntKind.wrap IntKind.i64 (Int.tdiv i1 (64 : Int)) < (↑q0l : Int)) = false → I1 (IntKind.wrap IntKind.i64 (i1 + (1 : Int))) h1 ∧ M1 (IntKind.wrap IntKind.i64 (i1 + (1 : Int))) h1 < M1 i1 h1)) ∧
          (decide (i1 < (↑(256 : Nat) : Int)) = false → R (Value.slice (some { block := n1, off := (0 : Nat) : Addr }) (256 : Nat) (256 : Nat)) h1)

theorem lPage_call (q0p : Option Addr) (q0l : Nat) (q0c : Nat) {h : Heap} {R : Value → Heap → Prop} (H : lPage_vc q0p q0l q0c h R) : CallH Tryz.prog 58 ⟨[.slice q0p q0l q0c]⟩ h R :=
  callH_of_dCode tabOK mixed [(.slice q0p q0l q0c, false)] Tryz.func58 (c := bodyC Tryz.f58) (by kernel_rfl) (by kernel_rfl : Tryz.f58.ntmps = 27) rfl
    (Eq.mp (by kernel_rfl : lPage_vc q0p q0l q0c h R = dCode Tryz.prog T ⟨[], [(3, [(9, .int .i64)])], [], [], []⟩ (bodyC Tryz.f58) none (dEnd T (Tryz.f58.results.toList) R) (startE 27 [(.slice q0p q0l q0c, false)]) h) H)

end Go.Proofs.YtfapgccnhonoiaaGreat

/- The conditions of some functions of the program, as text (printed by a tool of this claim's author, wip/tool), and that they are enough for a call. -/
set_option linter.unusedVariables false
namespace Go.Proofs.YtfapgccnhonoiaaGreat

/-- slices.pdqsortCmpFunc[int] -/
def pdqC_vc (q0p : Option Addr) (q0l : Nat) (q0c : Nat) (q1 : Int) (q2 : Int) (q3 : Int) (q4 : Value) (h : Heap) (R : Value → Heap → Prop) : Prop :=
  ∃ (I1 : Int → Int → Int → Bool → Bool → Heap → Prop),
 ∃ (M1 : Int → Int → Int → Bool → Bool → Heap → Nat),
  I1 q1 q2 q3 true true h ∧
   ∀ (i1 i2 i3 : Int) (t1 t2 : Bool) (h1 : Heap),
    I1 i1 i2 i3 t1 t2 h1 →
     (decide (IntKind.wrap IntKind.i64 (i2 - i1) ≤ (12 : Int)) = true →
       entersB Tryz.prog (87 : Nat) = true ∧
        CallH Tryz.prog (87 : Nat) { toList := [Value.slice q0p q0l q0c, Value.int IntKind.i64 i1, Value.int IntKind.i64 i2, q4] : Array Value } h1 fun (v1 : Value) (h2 : Heap) => v1 = Value.tuple { toList := [] : Array Value } ∧ R (Value.tuple { toList := [] : Array Value }) h2) ∧
      (decide (IntKind.wrap IntKind.i64 (i2 - i1) ≤ (12 : Int)) = false → False)

theorem pdqC_call (q0p : Option Addr) (q0l : Nat) (q0c : Nat) (q1 : Int) (q2 : Int) (q3 : Int) (q4 : Value) {h : Heap} {R : Value → Heap → Prop} (H : pdqC_vc q0p q0l q0c q1 q2 q3 q4 h R) : CallH Tryz.prog 84 ⟨[.slice q0p q0l q0c, .int .i64 q1, .int .i64 q2, .int .i64 q3, q4]⟩ h R :=
  callH_of_dCode tabOK mixed [(.slice q0p q0l q0c, false), (.int .i64 q1, false), (.int .i64 q2, false), (.int .i64 q3, false), (q4, false)] Tryz.func84 (c := bodyC Tryz.f84) (by kernel_rfl) (by kernel_rfl : Tryz.f84.ntmps = 148) rfl
    (Eq.mp (by kernel_rfl : pdqC_vc q0p q0l q0c q1 q2 q3 q4 h R = dCode Tryz.prog T ⟨[], [(2, [(1, .int .i64), (2, .int .i64), (3, .int .i64), (10, .bool), (11, .bool)])], [], [], [5, 6, 7, 8, 9, 10, 11, 12, 13, 14, 15, 16, 17, 18, 19, 20, 21, 22, 23, 24, 25, 26, 27, 28, 29, 30]⟩ (bodyC Tryz.f84) none (dEnd T (Tryz.f84.results.toList) R) (startE 148 [(.slice q0p q0l q0c, false), (.int .i64 q1, false), (.int .i64 q2, false), (.int .i64 q3, false), (q4, false)]) h) H)

/-- slices.pdqsortOrdered[int] -/
def pdqO_vc (q0p : Option Addr) (q0l : Nat) (q0c : Nat) (q1 : Int) (q2 : Int) (q3 : Int) (h : Heap) (R : Value → Heap → Prop) : Prop :=
  ∃ (I1 : Int → Int → Int → Bool → Bool → Heap → Prop),
 ∃ (M1 : Int → Int → Int → Bool → Bool → Heap → Nat),
  I1 q1 q2 q3 true true h ∧
   ∀ (i1 i2 i3 : Int) (t1 t2 : Bool) (h1 : Heap),
    I1 i1 i2 i3 t1 t2 h1 →
     (decide (IntKind.wrap IntKind.i64 (i2 - i1) ≤ (12 : Int)) = true →
       entersB Tryz.prog (97 : Nat) = true ∧
        CallH Tryz.prog (97 : Nat) { toList := [Value.slice q0p q0l q0c, Value.int IntKind.i64 i1, Value.int IntKind.i64 i2] : Array Value } h1 fun (v1 : Value) (h2 : Heap) => v1 = Value.tuple { toList := [] : Array Value } ∧ R (Value.tuple { toList := [] : Array Value }) h2) ∧
      (decide (IntKind.wrap IntKind.i64 (i2 - i1) ≤ (12 : Int)) = false → False)

theorem pdqO_call (q0p : Option Addr) (q0l : Nat) (q0c : Nat) (q1 : Int) (q2 : Int) (q3 : Int) {h : Heap} {R : Value → Heap → Prop} (H : pdqO_vc q0p q0l q0c q1 q2 q3 h R) : CallH Tryz.prog 86 ⟨[.slice q0p q0l q0c, .int .i64 q1, .int .i64 q2, .int .i64 q3]⟩ h R :=
  callH_of_dCode tabOK mixed [(.slice q0p q0l q0c, false), (.int .i64 q1, false), (.int .i64 q2, false), (.int .i64 q3, false)] Tryz.func86 (c := bodyC Tryz.f86) (by kernel_rfl) (by kernel_rfl : Tryz.f86.ntmps = 134) rfl
    (Eq.mp (by kernel_rfl : pdqO_vc q0p q0l q0c q1 q2 q3 h R = dCode Tryz.prog T ⟨[], [(2, [(1, .int .i64), (2, .int .i64), (3, .int .i64), (8, .bool), (9, .bool)])], [], [], [5, 6, 7, 8, 9, 10, 11, 12, 13, 14, 15, 16, 17, 18, 19, 20, 21, 22, 23, 24, 25, 26, 27, 28, 29, 30]⟩ (bodyC Tryz.f86) none (dEnd T (Tryz.f86.results.toList) R) (startE 134 [(.slice q0p q0l q0c, false), (.int .i64 q1, false), (.int .i64 q2, false), (.int .i64 q3, false)]) h) H)

/-- math/bits.Len -/
def bLen_vc (q0 : Int) (h : Heap) (R : Value → Heap → Prop) : Prop :=
  entersB Tryz.prog (96 : Nat) = true ∧ CallH Tryz.prog (96 : Nat) { toList := [Value.int IntKind.u64 q0] : Array Value } h fun (v1 : Value) (h1 : Heap) => ∃ (i1 : Int), v1 = Value.int IntKind.i64 i1 ∧ R (Value.int IntKind.i64 i1) h1

theorem bLen_call (q0 : Int) {h : Heap} {R : Value → Heap → Prop} (H : bLen_vc q0 h R) : CallH Tryz.prog 85 ⟨[.int .u64 q0]⟩ h R :=
  callH_of_dCode tabOK mixed [(.int .u64 q0, false)] Tryz.func85 (c := bodyC Tryz.f85) (by kernel_rfl) (by kernel_rfl : Tryz.f85.ntmps = 8) rfl
    (Eq.mp (by kernel_rfl : bLen_vc q0 h R = dCode Tryz.prog T ⟨[], [], [], [], []⟩ (bodyC Tryz.f85) none (dEnd T (Tryz.f85.results.toList) R) (startE 8 [(.int .u64 q0, false)]) h) H)

/-- math/bits.Len64 -/
def bLen64_vc (q0 : Int) (h : Heap) (R : Value → Heap → Prop) : Prop :=
  (decide (q0 ≥ (4294967296 : Int)) = true → False) ∧
 (decide (q0 ≥ (4294967296 : Int)) = false →
  (decide (q0 ≥ (65536 : Int)) = true → False) ∧
   (decide (q0 ≥ (65536 : Int)) = false →
    (decide (q0 ≥ (256 : Int)) = true → False) ∧
     (decide (q0 ≥ (256 : Int)) = false →
      ((0 : Int) ≤ IntKind.wrap IntKind.u8 q0 ∧ IntKind.wrap IntKind.u8 q0 < (↑(256 : Nat) : Int)) ∧
       ∃ (x1 : UInt8),
        {
            data :=
             {
              toList :=
               [(0 : UInt8), (1 : UInt8), (2 : UInt8), (2 : UInt8), (3 : UInt8), (3 : UInt8), (3 : UInt8), (3 : UInt8), (4 : UInt8), (4 : UInt8), (4 : UInt8), (4 : UInt8), (4 : UInt8), (4 : UInt8), (4 : UInt8), (4 : UInt8), (5 : UInt8), (5 : UInt8), (5 : UInt8), (5 : UInt8), (5 : UInt8),
                (5 : UInt8), (5 : UInt8), (5 : UInt8), (5 : UInt8), (5 : UInt8), (5 : UInt8), (5 : UInt8), (5 : UInt8), (5 : UInt8), (5 : UInt8), (5 : UInt8), (6 : UInt8), (6 : UInt8), (6 : UInt8), (6 : UInt8), (6 : UInt8), (6 : UInt8), (6 : UInt8), (6 : UInt8), (6 : UInt8), (6 : UInt8),
                (6 : UInt8), (6 : UInt8), (6 : UInt8), (6 : UInt8), (6 : UInt8), (6 : UInt8), (6 : UInt8), (6 : UInt8), (6 : UInt8), (6 : UInt8), (6 : UInt8), (6 : UInt8), (6 : UInt8), (6 : UInt8), (6 : UInt8), (6 : UInt8), (6 : UInt8), (6 : UInt8), (6 : UInt8), (6 : UInt8), (6 : UInt8),
                (6 : UInt8), (7 : UInt8), (7 : UInt8), (7 : UInt8), (7 : UInt8), (7 : UInt8), (7 : UInt8), (7 : UInt8), (7 : UInt8), (7 : UInt8), (7 : UInt8), (7 : UInt8), (7 : UInt8), (7 : UInt8), (7 : UInt8), (7 : UInt8), (7 : UInt8), (7 : UInt8), (7 : UInt8), (7 : UInt8), (7 : UInt8),
                (7 : UInt8), (7 : UInt8), (7 : UInt8), (7 : UInt8), (7 : UInt8), (7 : UInt8), (7 : UInt8), (7 : UInt8), (7 : UInt8), (7 : UInt8), (7 : UInt8), (7 : UInt8), (7 : UInt8), (7 : UInt8), (7 : UInt8), (7 : UInt8), (7 : UInt8), (7 : UInt8), (7 : UInt8), (7 : UInt8), (7 : UInt8),
                (7 : UInt8), (7 : UInt8), (7 : UInt8), (7 : UInt8), (7 : UInt8), (7 : UInt8), (7 : UInt8), (7 : UInt8), (7 : UInt8), (7 : UInt8), (7 : UInt8), (7 : UInt8), (7 : UInt8), (7 : UInt8), (7 : UInt8), (7 : UInt8), (7 : UInt8), (7 : UInt8), (7 : UInt8), (7 : UInt8), (7 : UInt8),
                (7 : UInt8), (7 : UInt8), (8 : UInt8), (8 : UInt8), (8 : UInt8), (8 : UInt8), (8 : UInt8), (8 : UInt8), (8 : UInt8), (8 : UInt8), (8 : UInt8), (8 : UInt8), (8 : UInt8), (8 : UInt8), (8 : UInt8), (8 : UInt8), (8 : UInt8), (8 : UInt8), (8 : UInt8), (8 : UInt8), (8 : UInt8),
                (8 : UInt8), (8 : UInt8), (8 : UInt8), (8 : UInt8), (8 : UInt8), (8 : UInt8), (8 : UInt8), (8 : UInt8), (8 : UInt8), (8 : UInt8), (8 : UInt8), (8 : UInt8), (8 : UInt8), (8 : UInt8), (8 : UInt8), (8 : UInt8), (8 : UInt8), (8 : UInt8), (8 : UInt8), (8 : UInt8), (8 : UInt8),
                (8 : UInt8), (8 : UInt8), (8 : UInt8), (8 : UInt8), (8 : UInt8), (8 : UInt8), (8 : UInt8), (8 : UInt8), (8 : UInt8), (8 : UInt8), (8 : UInt8), (8 : UInt8), (8 : UInt8), (8 : UInt8), (8 : UInt8), (8 : UInt8), (8 : UInt8), (8 : UInt8), (8 : UInt8), (8 : UInt8), (8 : UInt8),
                (8 : UInt8), (8 : UInt8), (8 : UInt8), (8 : UInt8), (8 : UInt8), (8 : UInt8), (8 : UInt8), (8 : UInt8), (8 : UInt8), (8 : UInt8), (8 : UInt8), (8 : UInt8), (8 : UInt8), (8 : UInt8), (8 : UInt8), (8 : UInt8), (8 : UInt8), (8 : UInt8), (8 : UInt8), (8 : UInt8), (8 : UInt8),
                (8 : UInt8), (8 : UInt8), (8 : UInt8), (8 : UInt8), (8 : UInt8), (8 : UInt8), (8 : UInt8), (8 : UInt8), (8 : UInt8), (8 : UInt8), (8 : UInt8), (8 : UInt8), (8 : UInt8), (8 : UInt8), (8 : UInt8), (8 : UInt8), (8 : UInt8), (8 : UInt8), (8 : UInt8), (8 : UInt8), (8 : UInt8),
                (8 : UInt8), (8 : UInt8), (8 : UInt8), (8 : UInt8), (8 : UInt8), (8 : UInt8), (8 : UInt8), (8 : UInt8), (8 : UInt8), (8 : UInt8), (8 : UInt8), (8 : UInt8), (8 : UInt8), (8 : UInt8), (8 : UInt8), (8 : UInt8), (8 : UInt8), (8 : UInt8), (8 : UInt8), (8 : UInt8), (8 : UInt8),
                (8 : UInt8), (8 : UInt8), (8 : UInt8), (8 : UInt8)] :
              Array UInt8 } :
            ByteArray }[Int.toNat (IntKind.wrap IntKind.u8 q0)]? =
          some x1 ∧
         R (Value.int IntKind.i64 (IntKind.wrap IntKind.i64 ((0 : Int) + IntKind.wrap IntKind.i64 (↑(UInt8.toNat x1) : Int)))) h)))

theorem bLen64_call (q0 : Int) {h : Heap} {R : Value → Heap → Prop} (H : bLen64_vc q0 h R) : CallH Tryz.prog 96 ⟨[.int .u64 q0]⟩ h R :=
  callH_of_dCode tabOK mixed [(.int .u64 q0, false)] Tryz.func96 (c := bodyC Tryz.f96) (by kernel_rfl) (by kernel_rfl : Tryz.f96.ntmps = 25) rfl
    (Eq.mp (by kernel_rfl : bLen64_vc q0 h R = dCode Tryz.prog T ⟨[], [], [], [], [2, 3, 5, 6, 8, 9]⟩ (bodyC Tryz.f96) none (dEnd T (Tryz.f96.results.toList) R) (startE 25 [(.int .u64 q0, false)]) h) H)

end Go.Proofs.YtfapgccnhonoiaaGreat

/- The conditions of some functions of the program, as text (printed by a tool of this claim's author, wip/tool), and that they are enough for a call. -/
set_option linter.unusedVariables false
namespace Go.Proofs.YtfapgccnhonoiaaGreat

/-- incipit/cache.New -/
def cNew_vc (q0 : Nat) (q1 : Int) (h : Heap) (R : Value → Heap → Prop) : Prop :=
  entersB Tryz.prog (21 : Nat) = true ∧
 CallH Tryz.prog (21 : Nat) { toList := [Value.pointer (some { block := q0, off := (0 : Nat) : Addr })] : Array Value } h fun (v1 : Value) (h1 : Heap) =>
  ∃ (i1 : Int),
   v1 = Value.int IntKind.i64 i1 ∧
    ((i1 == (0 : Int)) = true → R (Value.tuple { toList := [Value.pointer none, Value.int IntKind.i64 (2 : Int)] : Array Value }) h1) ∧
     ((i1 == (0 : Int)) = false →
      (decide (q1 < (2 : Int)) = true → R (Value.tuple { toList := [Value.pointer none, Value.int IntKind.i64 (1 : Int)] : Array Value }) h1) ∧
       (decide (q1 < (2 : Int)) = false →
        (decide (q1 > (64 : Int)) = true → R (Value.tuple { toList := [Value.pointer none, Value.int IntKind.i64 (1 : Int)] : Array Value }) h1) ∧
         (decide (q1 > (64 : Int)) = false →
          ∀ (n1 : Nat) (rec1 : Array Obj),
           n1 = Array.size h1 →
            rec1 = Array.push h1 (Obj.map { toList := [] : Array MapEntry } (0 : Nat)) →
             ∀ (n2 : Nat) (rec2 : Array Obj),
              n2 = Array.size rec1 →
               rec2 = Array.push rec1 (Obj.cells { toList := [Value.pointer (some { block := q0, off := (0 : Nat) : Addr }), Value.int IntKind.i64 q1, Value.map (some n1), Value.int IntKind.i64 (0 : Int), Value.int IntKind.i64 (0 : Int), Value.int IntKind.i64 (0 : Int)] : Array Value } (63 : Nat)) →
                R (Value.tuple { toList := [Value.pointer (some { block := n2, off := (0 : Nat) : Addr }), Value.int IntKind.i64 (0 : Int)] : Array Value }) rec2)))

theorem cNew_call (q0 : Nat) (q1 : Int) {h : Heap} {R : Value → Heap → Prop} (H : cNew_vc q0 q1 h R) : CallH Tryz.prog 7 ⟨[.pointer (some ⟨q0, 0, none⟩), .int .i64 q1]⟩ h R :=
  callH_of_dCode tabOK mixed [(.pointer (some ⟨q0, 0, none⟩), false), (.int .i64 q1, false)] Tryz.func7 (c := bodyC Tryz.f7) (by kernel_rfl) (by kernel_rfl : Tryz.f7.ntmps = 22) rfl
    (Eq.mp (by kernel_rfl : cNew_vc q0 q1 h R = dCode Tryz.prog T ⟨[], [], [], [], []⟩ (bodyC Tryz.f7) none (dEnd T (Tryz.f7.results.toList) R) (startE 22 [(.pointer (some ⟨q0, 0, none⟩), false), (.int .i64 q1, false)]) h) H)

/-- (*incipit/cache.Cache).Put -/
def cPut_vc (q0 : Nat) (q1 : Int) (q2p : Option Addr) (q2l : Nat) (q2c : Nat) (h : Heap) (R : Value → Heap → Prop) : Prop :=
  entersB Tryz.prog (54 : Nat) = true ∧
 CallH Tryz.prog (54 : Nat) { toList := [Value.pointer (some { block := q0, off := (0 : Nat) : Addr }), Value.int IntKind.i64 q1, Value.int IntKind.i64 (↑q2l : Int)] : Array Value } h fun (v1 : Value) (h1 : Heap) =>
  ∃ (i1 : Int),
   v1 = Value.int IntKind.i64 i1 ∧
    ((i1 != (0 : Int)) = true → R (Value.int IntKind.i64 i1) h1) ∧
     ((i1 != (0 : Int)) = false →
      entersB Tryz.prog (55 : Nat) = true ∧
       CallH Tryz.prog (55 : Nat) { toList := [Value.pointer (some { block := q0, off := (0 : Nat) : Addr }), Value.int IntKind.i64 q1] : Array Value } h1 fun (v2 : Value) (h2 : Heap) =>
        ∃ (p1 : Option Addr),
         ∃ (i2 : Int),
          v2 = Value.tuple { toList := [Value.pointer p1, Value.int IntKind.i64 i2] : Array Value } ∧
           ((i2 != (0 : Int)) = true → R (Value.int IntKind.i64 i2) h2) ∧
            ((i2 != (0 : Int)) = false →
             (Option.isNone p1 = true →
               ∀ (n1 : Nat) (rec1 : Array Obj),
                n1 = Array.size h2 →
                 rec1 = Array.push h2 (Obj.cells { toList := [Value.slice none (0) (0), Value.bool false, Value.int IntKind.i64 (Int.ofNat (0)), Value.int IntKind.i64 (Int.ofNat (0))] : Array Value } (95 : Nat)) →
                  entersB Tryz.prog (56 : Nat) = true ∧
                   CallH Tryz.prog (56 : Nat) { toList := [Value.pointer (some { block := q0, off := (0 : Nat) : Addr }), Value.pointer (some { block := n1, off := (0 : Nat) : Addr })] : Array Value } rec1 fun (v3 : Value) (h3 : Heap) =>
                    v3 = Value.tuple { toList := [] : Array Value } ∧
                     ∃ (m1 : Option Nat),
                      cellAt h3 { block := q0, off := (2 : Nat) : Addr } = some (Value.map m1) ∧
                       match m1 with
                       | some n2 =>
                        ∃ (x1 : Array MapEntry),
                         ∃ (n3 : Nat),
                          h3[n2]? = some (Obj.map x1 n3) ∧
                           keysOK (Value.int IntKind.i64 q1) x1 ∧
                            ∀ (h4 : Heap),
                             h4 = Array.setIfInBounds h3 n2 (mput x1 n3 (Value.int IntKind.i64 q1) (Value.pointer (some { block := n1, off := (0 : Nat) : Addr }))) →
                              entersB Tryz.prog (57 : Nat) = true ∧
                               CallH Tryz.prog (57 : Nat) { toList := [Value.slice q2p q2l q2c] : Array Value } h4 fun (v4 : Value) (h5 : Heap) =>
                                ∃ (p2 : Option Addr),
                                 ∃ (n5 : Nat),
                                  ∃ (n6 : Nat),
                                   v4 = Value.slice p2 n5 n6 ∧
                                    true = true ∧
                                     okAt h5 { block := n1, off := (0 : Nat) : Addr } ∧
                                      ∀ (h6 : Heap),
                                       h6 = upd h5 { block := n1, off := (0 : Nat) : Addr } (Value.slice p2 n5 n6) →
                                        true = true ∧ okAt h6 { block := n1, off := (1 : Nat) : Addr } ∧ ∀ (h7 : Heap), h7 = upd h6 { block := n1, off := (1 : Nat) : Addr } (Value.bool true) → R (Value.int IntKind.i64 (0 : Int)) h7
                       | none => False) ∧
              (Option.isNone p1 = false →
               entersB Tryz.prog (57 : Nat) = true ∧
                CallH Tryz.prog (57 : Nat) { toList := [Value.slice q2p q2l q2c] : Array Value } h2 fun (v5 : Value) (h8 : Heap) =>
                 ∃ (p3 : Option Addr),
                  ∃ (n7 : Nat),
                   ∃ (n8 : Nat),
                    v5 = Value.slice p3 n7 n8 ∧
                     match p1 with
                     | some a1 =>
                      true = true ∧
                       okAt h8 a1 ∧
                        ∀ (h9 : Heap),
                         h9 = upd h8 a1 (Value.slice p3 n7 n8) →
                          match p1 with
                          | some a2 => true = true ∧ okAt h9 (Addr.add a2 (1 : Nat)) ∧ ∀ (h10 : Heap), h10 = upd h9 (Addr.add a2 (1 : Nat)) (Value.bool true) → R (Value.int IntKind.i64 (0 : Int)) h10
                          | none => False
                     | none => False)))

theorem cPut_call (q0 : Nat) (q1 : Int) (q2p : Option Addr) (q2l : Nat) (q2c : Nat) {h : Heap} {R : Value → Heap → Prop} (H : cPut_vc q0 q1 q2p q2l q2c h R) : CallH Tryz.prog 16 ⟨[.pointer (some ⟨q0, 0, none⟩), .int .i64 q1, .slice q2p q2l q2c]⟩ h R :=
  callH_of_dCode tabOK mixed [(.pointer (some ⟨q0, 0, none⟩), false), (.int .i64 q1, false), (.slice q2p q2l q2c, false)] Tryz.func16 (c := bodyC Tryz.f16) (by kernel_rfl) (by kernel_rfl : Tryz.f16.ntmps = 48) rfl
    (Eq.mp (by kernel_rfl : cPut_vc q0 q1 q2p q2l q2c h R = dCode Tryz.prog T ⟨[], [], [], [], []⟩ (bodyC Tryz.f16) none (dEnd T (Tryz.f16.results.toList) R) (startE 48 [(.pointer (some ⟨q0, 0, none⟩), false), (.int .i64 q1, false), (.slice q2p q2l q2c, false)]) h) H)

/-- (*incipit/cache.Cache).Pin -/
def cPin_vc (q0 : Nat) (q1 : Int) (h : Heap) (R : Value → Heap → Prop) : Prop :=
  entersB Tryz.prog (65 : Nat) = true ∧
 CallH Tryz.prog (65 : Nat) { toList := [Value.pointer (some { block := q0, off := (0 : Nat) : Addr }), Value.int IntKind.i64 q1] : Array Value } h fun (v1 : Value) (h1 : Heap) =>
  ∃ (p1 : Option Addr),
   ∃ (i1 : Int),
    v1 = Value.tuple { toList := [Value.pointer p1, Value.int IntKind.i64 i1] : Array Value } ∧
     ((i1 != (0 : Int)) = true → R (Value.int IntKind.i64 i1) h1) ∧
      ((i1 != (0 : Int)) = false →
       match p1 with
       | some a1 =>
        ∃ (i2 : Int),
         cellAt h1 (Addr.add a1 (2 : Nat)) = some (Value.int IntKind.i64 i2) ∧
          match p1 with
          | some a2 => true = true ∧ okAt h1 (Addr.add a2 (2 : Nat)) ∧ ∀ (h2 : Heap), h2 = upd h1 (Addr.add a2 (2 : Nat)) (Value.int IntKind.i64 (IntKind.wrap IntKind.i64 (i2 + (1 : Int)))) → R (Value.int IntKind.i64 (0 : Int)) h2
          | none => False
       | none => False)

theorem cPin_call (q0 : Nat) (q1 : Int) {h : Heap} {R : Value → Heap → Prop} (H : cPin_vc q0 q1 h R) : CallH Tryz.prog 24 ⟨[.pointer (some ⟨q0, 0, none⟩), .int .i64 q1]⟩ h R :=
  callH_of_dCode tabOK mixed [(.pointer (some ⟨q0, 0, none⟩), false), (.int .i64 q1, false)] Tryz.func24 (c := bodyC Tryz.f24) (by kernel_rfl) (by kernel_rfl : Tryz.f24.ntmps = 23) rfl
    (Eq.mp (by kernel_rfl : cPin_vc q0 q1 h R = dCode Tryz.prog T ⟨[], [], [], [], []⟩ (bodyC Tryz.f24) none (dEnd T (Tryz.f24.results.toList) R) (startE 23 [(.pointer (some ⟨q0, 0, none⟩), false), (.int .i64 q1, false)]) h) H)

/-- (*incipit/cache.Cache).Get -/
def cGet_vc (q0 : Nat) (q1 : Int) (h : Heap) (R : Value → Heap → Prop) : Prop :=
  entersB Tryz.prog (54 : Nat) = true ∧
 CallH Tryz.prog (54 : Nat) { toList := [Value.pointer (some { block := q0, off := (0 : Nat) : Addr }), Value.int IntKind.i64 q1, Value.int IntKind.i64 (256 : Int)] : Array Value } h fun (v1 : Value) (h1 : Heap) =>
  ∃ (i1 : Int),
   v1 = Value.int IntKind.i64 i1 ∧
    ((i1 != (0 : Int)) = true → R (Value.tuple { toList := [Value.slice none (0 : Nat) (0 : Nat), Value.int IntKind.i64 i1] : Array Value }) h1) ∧
     ((i1 != (0 : Int)) = false →
      entersB Tryz.prog (55 : Nat) = true ∧
       CallH Tryz.prog (55 : Nat) { toList := [Value.pointer (some { block := q0, off := (0 : Nat) : Addr }), Value.int IntKind.i64 q1] : Array Value } h1 fun (v2 : Value) (h2 : Heap) =>
        ∃ (p1 : Option Addr),
         ∃ (i2 : Int),
          v2 = Value.tuple { toList := [Value.pointer p1, Value.int IntKind.i64 i2] : Array Value } ∧
           ((i2 != (0 : Int)) = true → R (Value.tuple { toList := [Value.slice none (0 : Nat) (0 : Nat), Value.int IntKind.i64 i2] : Array Value }) h2) ∧
            ((i2 != (0 : Int)) = false →
             (Option.isNone p1 = true →
               ∃ (p2 : Option Addr),
                cellAt h2 { block := q0, off := (0 : Nat) : Addr } = some (Value.pointer p2) ∧
                 entersB Tryz.prog (13 : Nat) = true ∧
                  CallH Tryz.prog (13 : Nat) { toList := [Value.pointer p2, Value.int IntKind.i64 q1] : Array Value } h2 fun (v3 : Value) (h3 : Heap) =>
                   ∃ (p3 : Option Addr),
                    ∃ (n1 : Nat),
                     ∃ (n2 : Nat),
                      ∃ (i3 : Int),
                       v3 = Value.tuple { toList := [Value.slice p3 n1 n2, Value.int IntKind.i64 i3] : Array Value } ∧
                        ((i3 != (0 : Int)) = true → R (Value.tuple { toList := [Value.slice none (0 : Nat) (0 : Nat), Value.int IntKind.i64 i3] : Array Value }) h3) ∧
                         ((i3 != (0 : Int)) = false →
                          ∀ (n3 : Nat) (rec1 : Array Obj),
                           n3 = Array.size h3 →
                            rec1 = Array.push h3 (Obj.cells { toList := [Value.slice p3 n1 n2, Value.bool false, Value.int IntKind.i64 (0 : Int), Value.int IntKind.i64 (0 : Int)] : Array Value } (95 : Nat)) →
                             entersB Tryz.prog (56 : Nat) = true ∧
                              CallH Tryz.prog (56 : Nat) { toList := [Value.pointer (some { block := q0, off := (0 : Nat) : Addr }), Value.pointer (some { block := n3, off := (0 : Nat) : Addr })] : Array Value } rec1 fun (v4 : Value) (h4 : Heap) =>
                               v4 = Value.tuple { toList := [] : Array Value } ∧
                                ∃ (m1 : Option Nat),
                                 cellAt h4 { block := q0, off := (2 : Nat) : Addr } = some (Value.map m1) ∧
                                  match m1 with
                                  | some n4 =>
                                   ∃ (x1 : Array MapEntry),
                                    ∃ (n5 : Nat),
                                     h4[n4]? = some (Obj.map x1 n5) ∧
                                      keysOK (Value.int IntKind.i64 q1) x1 ∧
                                       ∀ (h5 : Heap),
                                        h5 = Array.setIfInBounds h4 n4 (mput x1 n5 (Value.int IntKind.i64 q1) (Value.pointer (some { block := n3, off := (0 : Nat) : Addr }))) →
                                         ∃ (p4 : Option Addr),
                                          ∃ (n7 : Nat),
                                           ∃ (n8 : Nat),
                                            cellAt h5 { block := n3, off := (0 : Nat) : Addr } = some (Value.slice p4 n7 n8) ∧
                                             entersB Tryz.prog (57 : Nat) = true ∧
                                              CallH Tryz.prog (57 : Nat) { toList := [Value.slice p4 n7 n8] : Array Value } h5 fun (v5 : Value) (h6 : Heap) =>
                                               ∃ (p5 : Option Addr), ∃ (n9 : Nat), ∃ (n10 : Nat), v5 = Value.slice p5 n9 n10 ∧ R (Value.tuple { toList := [Value.slice p5 n9 n10, Value.int IntKind.i64 (0 : Int)] : Array Value }) h6
                                  | none => False)) ∧
              (Option.isNone p1 = false →
               match p1 with
               | some a1 =>
                ∃ (p7 : Option Addr),
                 ∃ (n11 : Nat),
                  ∃ (n12 : Nat),
                   cellAt h2 a1 = some (Value.slice p7 n11 n12) ∧
                    entersB Tryz.prog (57 : Nat) = true ∧
                     CallH Tryz.prog (57 : Nat) { toList := [Value.slice p7 n11 n12] : Array Value } h2 fun (v6 : Value) (h7 : Heap) =>
                      ∃ (p8 : Option Addr), ∃ (n13 : Nat), ∃ (n14 : Nat), v6 = Value.slice p8 n13 n14 ∧ R (Value.tuple { toList := [Value.slice p8 n13 n14, Value.int IntKind.i64 (0 : Int)] : Array Value }) h7
               | none => False)))

theorem cGet_call (q0 : Nat) (q1 : Int) {h : Heap} {R : Value → Heap → Prop} (H : cGet_vc q0 q1 h R) : CallH Tryz.prog 18 ⟨[.pointer (some ⟨q0, 0, none⟩), .int .i64 q1]⟩ h R :=
  callH_of_dCode tabOK mixed [(.pointer (some ⟨q0, 0, none⟩), false), (.int .i64 q1, false)] Tryz.func18 (c := bodyC Tryz.f18) (by kernel_rfl) (by kernel_rfl : Tryz.f18.ntmps = 57) rfl
    (Eq.mp (by kernel_rfl : cGet_vc q0 q1 h R = dCode Tryz.prog T ⟨[], [], [], [], []⟩ (bodyC Tryz.f18) none (dEnd T (Tryz.f18.results.toList) R) (startE 57 [(.pointer (some ⟨q0, 0, none⟩), false), (.int .i64 q1, false)]) h) H)

/-- (*incipit/cache.Cache).Has -/
def cHas_vc (q0 : Nat) (q1 : Int) (h : Heap) (R : Value → Heap → Prop) : Prop :=
  entersB Tryz.prog (65 : Nat) = true ∧
 CallH Tryz.prog (65 : Nat) { toList := [Value.pointer (some { block := q0, off := (0 : Nat) : Addr }), Value.int IntKind.i64 q1] : Array Value } h fun (v1 : Value) (h1 : Heap) =>
  ∃ (p1 : Option Addr), ∃ (i1 : Int), v1 = Value.tuple { toList := [Value.pointer p1, Value.int IntKind.i64 i1] : Array Value } ∧ R (Value.bool (i1 == (0 : Int))) h1

theorem cHas_call (q0 : Nat) (q1 : Int) {h : Heap} {R : Value → Heap → Prop} (H : cHas_vc q0 q1 h R) : CallH Tryz.prog 46 ⟨[.pointer (some ⟨q0, 0, none⟩), .int .i64 q1]⟩ h R :=
  callH_of_dCode tabOK mixed [(.pointer (some ⟨q0, 0, none⟩), false), (.int .i64 q1, false)] Tryz.func46 (c := bodyC Tryz.f46) (by kernel_rfl) (by kernel_rfl : Tryz.f46.ntmps = 15) rfl
    (Eq.mp (by kernel_rfl : cHas_vc q0 q1 h R = dCode Tryz.prog T ⟨[], [], [], [], []⟩ (bodyC Tryz.f46) none (dEnd T (Tryz.f46.results.toList) R) (startE 15 [(.pointer (some ⟨q0, 0, none⟩), false), (.int .i64 q1, false)]) h) H)

/-- (*incipit/cache.Cache).Held -/
def cHeld_vc (q0 : Nat) (h : Heap) (R : Value → Heap → Prop) : Prop :=
  ∀ (n1 : Nat) (rec1 : Array Obj),
 n1 = Array.size h →
  rec1 = Array.push h (Obj.cells { toList := [Value.pointer (some { block := q0, off := (0 : Nat) : Addr })] : Array Value } (31 : Nat)) →
   ∃ (p1 : Option Addr),
    cellAt rec1 { block := n1, off := (0 : Nat) : Addr } = some (Value.pointer p1) ∧
     entersB Tryz.prog (59 : Nat) = true ∧
      CallH Tryz.prog (59 : Nat) { toList := [Value.pointer p1] : Array Value } rec1 fun (v1 : Value) (h1 : Heap) =>
       ∃ (t1 : Bool),
        v1 = Value.bool t1 ∧
         (t1 = true → R (Value.slice none (0 : Nat) (0 : Nat)) h1) ∧
          (t1 = false →
           ∃ (p2 : Option Addr),
            cellAt h1 { block := n1, off := (0 : Nat) : Addr } = some (Value.pointer p2) ∧
             match p2 with
             | some a1 =>
              ∃ (m1 : Option Nat),
               cellAt h1 (Addr.add a1 (2 : Nat)) = some (Value.map m1) ∧
                entersB Tryz.prog (61 : Nat) = true ∧
                 CallH Tryz.prog (61 : Nat) { toList := [Value.map m1] : Array Value } h1 fun (v2 : Value) (h2 : Heap) =>
                  ∃ (v3 : Value),
                   v2 = v3 ∧
                    entersB Tryz.prog (60 : Nat) = true ∧
                     CallH Tryz.prog (60 : Nat) { toList := [v3, Value.func (Fn.func (62 : Nat)) { toList := [] : Array Value } { toList := [Value.pointer (some { block := n1, off := (0 : Nat) : Addr })] : Array Value }] : Array Value } h2 fun (v4 : Value) (h3 : Heap) =>
                      ∃ (p4 : Option Addr), ∃ (n2 : Nat), ∃ (n3 : Nat), v4 = Value.slice p4 n2 n3 ∧ R (Value.slice p4 n2 n3) h3
             | none => False)

theorem cHeld_call (q0 : Nat) {h : Heap} {R : Value → Heap → Prop} (H : cHeld_vc q0 h R) : CallH Tryz.prog 20 ⟨[.pointer (some ⟨q0, 0, none⟩)]⟩ h R :=
  callH_of_dCode tabOK mixed [(.pointer (some ⟨q0, 0, none⟩), false)] Tryz.func20 (c := bodyC Tryz.f20) (by kernel_rfl) (by kernel_rfl : Tryz.f20.ntmps = 12) rfl
    (Eq.mp (by kernel_rfl : cHeld_vc q0 h R = dCode Tryz.prog T ⟨[], [], [], [], []⟩ (bodyC Tryz.f20) none (dEnd T (Tryz.f20.results.toList) R) (startE 12 [(.pointer (some ⟨q0, 0, none⟩), false)]) h) H)

/-- (*incipit/cache.Cache).Forget -/
def cForget_vc (q0 : Nat) (q1 : Int) (h : Heap) (R : Value → Heap → Prop) : Prop :=
  entersB Tryz.prog (65 : Nat) = true ∧
 CallH Tryz.prog (65 : Nat) { toList := [Value.pointer (some { block := q0, off := (0 : Nat) : Addr }), Value.int IntKind.i64 q1] : Array Value } h fun (v1 : Value) (h1 : Heap) =>
  ∃ (p1 : Option Addr),
   ∃ (i1 : Int),
    v1 = Value.tuple { toList := [Value.pointer p1, Value.int IntKind.i64 i1] : Array Value } ∧
     ((i1 != (0 : Int)) = true → R (Value.int IntKind.i64 i1) h1) ∧
      ((i1 != (0 : Int)) = false →
       match p1 with
       | some a1 =>
        ∃ (i2 : Int),
         cellAt h1 (Addr.add a1 (2 : Nat)) = some (Value.int IntKind.i64 i2) ∧
          (decide (i2 > (0 : Int)) = true → R (Value.int IntKind.i64 (7 : Int)) h1) ∧
           (decide (i2 > (0 : Int)) = false →
            ∃ (m1 : Option Nat),
             cellAt h1 { block := q0, off := (2 : Nat) : Addr } = some (Value.map m1) ∧
              match m1 with
              | some n1 =>
               ∃ (x1 : Array MapEntry),
                ∃ (n2 : Nat),
                 h1[n1]? = some (Obj.map x1 n2) ∧
                  keysOK (Value.int IntKind.i64 q1) x1 ∧
                   ∀ (h2 : Heap),
                    h2 =
                      Array.setIfInBounds h1 n1
                       (match mfind (Value.int IntKind.i64 q1) x1 with
                       | some (n4, v2) => Obj.map (Array.eraseIdxIfInBounds x1 n4) n2
                       | none => Obj.map x1 n2) →
                     R (Value.int IntKind.i64 (0 : Int)) h2
              | none => False)
       | none => False)

theorem cForget_call (q0 : Nat) (q1 : Int) {h : Heap} {R : Value → Heap → Prop} (H : cForget_vc q0 q1 h R) : CallH Tryz.prog 28 ⟨[.pointer (some ⟨q0, 0, none⟩), .int .i64 q1]⟩ h R :=
  callH_of_dCode tabOK mixed [(.pointer (some ⟨q0, 0, none⟩), false), (.int .i64 q1, false)] Tryz.func28 (c := bodyC Tryz.f28) (by kernel_rfl) (by kernel_rfl : Tryz.f28.ntmps = 28) rfl
    (Eq.mp (by kernel_rfl : cForget_vc q0 q1 h R = dCode Tryz.prog T ⟨[], [], [], [], []⟩ (bodyC Tryz.f28) none (dEnd T (Tryz.f28.results.toList) R) (startE 28 [(.pointer (some ⟨q0, 0, none⟩), false), (.int .i64 q1, false)]) h) H)

/-- (*incipit/cache.Cache).Unpin -/
def cUnpin_vc (q0 : Nat) (q1 : Int) (h : Heap) (R : Value → Heap → Prop) : Prop :=
  entersB Tryz.prog (65 : Nat) = true ∧
 CallH Tryz.prog (65 : Nat) { toList := [Value.pointer (some { block := q0, off := (0 : Nat) : Addr }), Value.int IntKind.i64 q1] : Array Value } h fun (v1 : Value) (h1 : Heap) =>
  ∃ (p1 : Option Addr),
   ∃ (i1 : Int),
    v1 = Value.tuple { toList := [Value.pointer p1, Value.int IntKind.i64 i1] : Array Value } ∧
     ((i1 != (0 : Int)) = true → R (Value.int IntKind.i64 i1) h1) ∧
      ((i1 != (0 : Int)) = false →
       match p1 with
       | some a1 =>
        ∃ (i2 : Int),
         cellAt h1 (Addr.add a1 (2 : Nat)) = some (Value.int IntKind.i64 i2) ∧
          ((i2 == (0 : Int)) = true → R (Value.int IntKind.i64 (4 : Int)) h1) ∧
           ((i2 == (0 : Int)) = false →
            match p1 with
            | some a2 =>
             ∃ (i3 : Int),
              cellAt h1 (Addr.add a2 (2 : Nat)) = some (Value.int IntKind.i64 i3) ∧
               match p1 with
               | some a3 => true = true ∧ okAt h1 (Addr.add a3 (2 : Nat)) ∧ ∀ (h2 : Heap), h2 = upd h1 (Addr.add a3 (2 : Nat)) (Value.int IntKind.i64 (IntKind.wrap IntKind.i64 (i3 - (1 : Int)))) → R (Value.int IntKind.i64 (0 : Int)) h2
               | none => False
            | none => False)
       | none => False)

theorem cUnpin_call (q0 : Nat) (q1 : Int) {h : Heap} {R : Value → Heap → Prop} (H : cUnpin_vc q0 q1 h R) : CallH Tryz.prog 26 ⟨[.pointer (some ⟨q0, 0, none⟩), .int .i64 q1]⟩ h R :=
  callH_of_dCode tabOK mixed [(.pointer (some ⟨q0, 0, none⟩), false), (.int .i64 q1, false)] Tryz.func26 (c := bodyC Tryz.f26) (by kernel_rfl) (by kernel_rfl : Tryz.f26.ntmps = 30) rfl
    (Eq.mp (by kernel_rfl : cUnpin_vc q0 q1 h R = dCode Tryz.prog T ⟨[], [], [], [], []⟩ (bodyC Tryz.f26) none (dEnd T (Tryz.f26.results.toList) R) (startE 30 [(.pointer (some ⟨q0, 0, none⟩), false), (.int .i64 q1, false)]) h) H)

/-- (*incipit/cache.Cache).Flush -/
def cFlush_vc (q0 : Nat) (h : Heap) (R : Value → Heap → Prop) : Prop :=
  ∀ (n1 : Nat) (rec1 : Array Obj),
 n1 = Array.size h →
  rec1 = Array.push h (Obj.cells { toList := [Value.pointer (some { block := q0, off := (0 : Nat) : Addr })] : Array Value } (31 : Nat)) →
   ∀ (n2 : Nat) (rec2 : Array Obj),
    n2 = Array.size rec1 →
     rec2 = Array.push rec1 (Obj.cells { toList := [Value.int IntKind.i64 (Int.ofNat (0))] : Array Value } (24 : Nat)) →
      ∃ (p1 : Option Addr),
       cellAt rec2 { block := n1, off := (0 : Nat) : Addr } = some (Value.pointer p1) ∧
        entersB Tryz.prog (59 : Nat) = true ∧
         CallH Tryz.prog (59 : Nat) { toList := [Value.pointer p1] : Array Value } rec2 fun (v1 : Value) (h1 : Heap) =>
          ∃ (t1 : Bool),
           v1 = Value.bool t1 ∧
            (t1 = true →
              true = true ∧
               okAt h1 { block := n2, off := (0 : Nat) : Addr } ∧
                ∀ (h2 : Heap), h2 = upd h1 { block := n2, off := (0 : Nat) : Addr } (Value.int IntKind.i64 (2 : Int)) → TK.int IntKind.i64 ≠ TK.oth ∧ ∃ (i1 : Int), cellAt h2 { block := n2, off := (0 : Nat) : Addr } = some (Value.int IntKind.i64 i1) ∧ R (Value.int IntKind.i64 i1) h2) ∧
             (t1 = false →
              ∃ (p2 : Option Addr),
               cellAt h1 { block := n1, off := (0 : Nat) : Addr } = some (Value.pointer p2) ∧
                entersB Tryz.prog (43 : Nat) = true ∧
                 CallH Tryz.prog (43 : Nat) { toList := [Value.pointer p2] : Array Value } h1 fun (v2 : Value) (h3 : Heap) =>
                  ∃ (v3 : Value),
                   v2 = v3 ∧
                    match v3 with
                    | Value.func (Fn.func x1) x2 x3 =>
                     entersB Tryz.prog x1 = true ∧
                      ∀ (n3 n4 : Nat) (rec3 : LoopState → Option Code → Obj) (h4 : Heap),
                       n4 = Array.size h3 →
                        n3 = Array.size h3 + (1 : Nat) →
                         (∀ (x4 : LoopState) (x5 : Option Code), notCells (rec3 x4 x5)) →
                          h4 = Array.push (Array.push h3 (Obj.deferred (some []))) (rec3 LoopState.ready none) →
                           (∀ (i2 : Int) (t2 : Bool) (h5 : Heap) (I1 : Value → Heap → Prop),
                             h5[n3]? = some (rec3 LoopState.ready none) →
                              (h5[n3]? = some (rec3 LoopState.ready none) ∧
                                ∀ (h6 : Heap),
                                 h6 = Array.setIfInBounds h5 n3 (rec3 LoopState.busy none) →
                                  ((!t2) = true → h6[n3]? = some (rec3 LoopState.busy none) ∧ ∀ (h7 : Heap), h7 = Array.setIfInBounds h6 n3 (rec3 LoopState.ready none) → I1 (Value.bool true) h7) ∧
                                   ((!t2) = false →
                                    ∃ (p3 : Option Addr),
                                     cellAt h6 { block := n1, off := (0 : Nat) : Addr } = some (Value.pointer p3) ∧
                                      match p3 with
                                      | some a1 =>
                                       ∃ (p5 : Option Addr),
                                        cellAt h6 a1 = some (Value.pointer p5) ∧
                                         ∃ (p6 : Option Addr),
                                          cellAt h6 { block := n1, off := (0 : Nat) : Addr } = some (Value.pointer p6) ∧
                                           match p6 with
                                           | some a2 =>
                                            ∃ (m1 : Option Nat),
                                             cellAt h6 (Addr.add a2 (2 : Nat)) = some (Value.map m1) ∧
                                              ∃ (x6 : Array MapEntry),
                                               mapIs h6 m1 x6 ∧
                                                keysOK (Value.int IntKind.i64 i2) x6 ∧
                                                 (∀ (v5 : Value),
                                                   mget (Value.int IntKind.i64 i2) x6 = some v5 →
                                                    ∃ (p7 : Option Addr),
                                                     v5 = Value.pointer p7 ∧
                                                      match p7 with
                                                      | some a3 =>
                                                       ∃ (p8 : Option Addr),
                                                        ∃ (n6 : Nat),
                                                         ∃ (n7 : Nat),
                                                          cellAt h6 a3 = some (Value.slice p8 n6 n7) ∧
                                                           entersB Tryz.prog (67 : Nat) = true ∧
                                                            CallH Tryz.prog (67 : Nat) { toList := [Value.pointer p5, Value.int IntKind.i64 i2, Value.slice p8 n6 n7] : Array Value } h6 fun (v6 : Value) (h8 : Heap) =>
                                                             ∃ (i3 : Int),
                                                              v6 = Value.int IntKind.i64 i3 ∧
                                                               ((i3 != (0 : Int)) = true →
                                                                 true = true ∧
                                                                  okAt h8 { block := n2, off := (0 : Nat) : Addr } ∧
                                                                   ∀ (h9 : Heap),
                                                                    h9 = upd h8 { block := n2, off := (0 : Nat) : Addr } (Value.int IntKind.i64 i3) →
                                                                     h9[n3]? = some (rec3 LoopState.busy none) ∧ ∀ (h10 : Heap), h10 = Array.setIfInBounds h9 n3 (rec3 LoopState.done (some Code.ret)) → I1 (Value.bool false) h10) ∧
                                                                ((i3 != (0 : Int)) = false →
                                                                 ∃ (p9 : Option Addr),
                                                                  cellAt h8 { block := n1, off := (0 : Nat) : Addr } = some (Value.pointer p9) ∧
                                                                   match p9 with
                                                                   | some a4 =>
                                                                    ∃ (m2 : Option Nat),
                                                                     cellAt h8 (Addr.add a4 (2 : Nat)) = some (Value.map m2) ∧
                                                                      ∃ (x7 : Array MapEntry),
                                                                       mapIs h8 m2 x7 ∧
                                                                        keysOK (Value.int IntKind.i64 i2) x7 ∧
                                                                         (∀ (v7 : Value),
                                                                           mget (Value.int IntKind.i64 i2) x7 = some v7 →
                                                                            ∃ (p10 : Option Addr),
                                                                             v7 = Value.pointer p10 ∧
                                                                              match p10 with
                                                                              | some a5 =>
                                                                               true = true ∧
                                                                                okAt h8 (Addr.add a5 (1 : Nat)) ∧
                                                                                 ∀ (h11 : Heap),
                                                                                  h11 = upd h8 (Addr.add a5 (1 : Nat)) (Value.bool false) → h11[n3]? = some (rec3 LoopState.busy none) ∧ ∀ (h12 : Heap), h12 = Array.setIfInBounds h11 n3 (rec3 LoopState.ready none) → I1 (Value.bool true) h12
                                                                              | none => False) ∧
                                                                          (mget (Value.int IntKind.i64 i2) x7 = none → False)
                                                                   | none => False)
                                                      | none => False) ∧
                                                  (mget (Value.int IntKind.i64 i2) x6 = none → False)
                                           | none => False
                                      | none => False)) →
                               CallV Tryz.prog (yieldV n3) { toList := [Value.int IntKind.i64 i2, Value.bool t2] : Array Value } h5 I1) →
                            CallH Tryz.prog x1 { toList := List.append x2.1 (yieldV n3 :: x3.1) : Array Value } h4 fun (v8 : Value) (h13 : Heap) =>
                             (h13[n3]? = some (rec3 LoopState.done (some Code.ret)) ∧
                               ∀ (h14 : Heap),
                                h14 = Array.setIfInBounds h13 n3 (rec3 LoopState.exhausted (some Code.ret)) →
                                 h14[n4]? = some (Obj.deferred (some [])) ∧
                                  ∀ (h15 : Heap), h15 = Array.setIfInBounds h14 n4 (Obj.deferred none) → TK.int IntKind.i64 ≠ TK.oth ∧ ∃ (i4 : Int), cellAt h15 { block := n2, off := (0 : Nat) : Addr } = some (Value.int IntKind.i64 i4) ∧ R (Value.int IntKind.i64 i4) h15) ∨
                              h13[n3]? = some (rec3 LoopState.ready none) ∧
                               ∀ (h16 : Heap),
                                h16 = Array.setIfInBounds h13 n3 (rec3 LoopState.exhausted none) →
                                 true = true ∧
                                  okAt h16 { block := n2, off := (0 : Nat) : Addr } ∧
                                   ∀ (h17 : Heap),
                                    h17 = upd h16 { block := n2, off := (0 : Nat) : Addr } (Value.int IntKind.i64 (0 : Int)) →
                                     h17[n4]? = some (Obj.deferred (some [])) ∧
                                      ∀ (h18 : Heap), h18 = Array.setIfInBounds h17 n4 (Obj.deferred none) → TK.int IntKind.i64 ≠ TK.oth ∧ ∃ (i5 : Int), cellAt h18 { block := n2, off := (0 : Nat) : Addr } = some (Value.int IntKind.i64 i5) ∧ R (Value.int IntKind.i64 i5) h18
                    | v9 => False)

theorem cFlush_call (q0 : Nat) {h : Heap} {R : Value → Heap → Prop} (H : cFlush_vc q0 h R) : CallH Tryz.prog 30 ⟨[.pointer (some ⟨q0, 0, none⟩)]⟩ h R :=
  callH_of_dCode tabOK mixed [(.pointer (some ⟨q0, 0, none⟩), false)] Tryz.func30 (c := bodyC Tryz.f30) (by kernel_rfl) (by kernel_rfl : Tryz.f30.ntmps = 40) rfl
    (Eq.mp (by kernel_rfl : cFlush_vc q0 h R = dCode Tryz.prog T ⟨[], [], [], [(6, [.int .i64, .bool])], []⟩ (bodyC Tryz.f30) none (dEnd T (Tryz.f30.results.toList) R) (startE 40 [(.pointer (some ⟨q0, 0, none⟩), false)]) h) H)

/-- (*incipit/cache.Cache).Changed -/
def cChanged_vc (q0 : Nat) (h : Heap) (R : Value → Heap → Prop) : Prop :=
  ∀ (n1 : Nat) (rec1 : Array Obj),
 n1 = Array.size h →
  rec1 = Array.push h (Obj.cells { toList := [Value.slice none (0) (0)] : Array Value } (59 : Nat)) →
   entersB Tryz.prog (43 : Nat) = true ∧
    CallH Tryz.prog (43 : Nat) { toList := [Value.pointer (some { block := q0, off := (0 : Nat) : Addr })] : Array Value } rec1 fun (v1 : Value) (h1 : Heap) =>
     ∃ (v2 : Value),
      v1 = v2 ∧
       match v2 with
       | Value.func (Fn.func x1) x2 x3 =>
        entersB Tryz.prog x1 = true ∧
         ∀ (n2 n3 : Nat) (rec2 : LoopState → Option Code → Obj) (h2 : Heap),
          n3 = Array.size h1 →
           n2 = Array.size h1 + (1 : Nat) →
            (∀ (x4 : LoopState) (x5 : Option Code), notCells (rec2 x4 x5)) →
             h2 = Array.push (Array.push h1 (Obj.deferred (some []))) (rec2 LoopState.ready none) →
              (∀ (i1 : Int) (t1 : Bool) (h3 : Heap) (I1 : Value → Heap → Prop),
                h3[n2]? = some (rec2 LoopState.ready none) →
                 (h3[n2]? = some (rec2 LoopState.ready none) ∧
                   ∀ (h4 : Heap),
                    h4 = Array.setIfInBounds h3 n2 (rec2 LoopState.busy none) →
                     (t1 = true →
                       ∃ (p1 : Option Addr),
                        ∃ (n5 : Nat),
                         ∃ (n6 : Nat),
                          cellAt h4 { block := n1, off := (0 : Nat) : Addr } = some (Value.slice p1 n5 n6) ∧
                           ((0 : Nat) + (1 : Nat) = (1 : Nat) ∧ True) ∧
                            ∀ (n7 : Nat) (rec4 : Array Obj),
                             n7 = Array.size h4 →
                              rec4 = Array.push h4 (Obj.cells { toList := [Value.int IntKind.i64 i1] : Array Value } (3 : TypeId)) →
                               ∃ (l1 : List Value),
                                srcIs rec4 (1 : Nat) (1 : Nat) (Value.slice (some { block := n7, off := (0 : Nat) : Addr }) (1 : Nat) (1 : Nat)) l1 ∧
                                 (∀ (v4 : Value), v4 ∈ l1 → isCell v4 = true) ∧
                                  List.length l1 = (1 : Nat) ∧
                                   (n5 + (1 : Nat) ≤ n6 →
                                     match p1 with
                                     | some a1 =>
                                      okRow rec4 (Addr.add a1 (n5 * (1 : Nat))) (List.length l1) ∧
                                       ∀ (h5 : Heap),
                                        h5 = updRow rec4 (Addr.add a1 (n5 * (1 : Nat))) (0 : Nat) l1 →
                                         true = true ∧
                                          okAt h5 { block := n1, off := (0 : Nat) : Addr } ∧
                                           ∀ (h6 : Heap), h6 = upd h5 { block := n1, off := (0 : Nat) : Addr } (Value.slice p1 (n5 + (1 : Nat)) n6) → h6[n2]? = some (rec2 LoopState.busy none) ∧ ∀ (h7 : Heap), h7 = Array.setIfInBounds h6 n2 (rec2 LoopState.ready none) → I1 (Value.bool true) h7
                                     | none =>
                                      true = true ∧
                                       okAt rec4 { block := n1, off := (0 : Nat) : Addr } ∧
                                        ∀ (h8 : Heap), h8 = upd rec4 { block := n1, off := (0 : Nat) : Addr } (Value.slice p1 (n5 + (1 : Nat)) n6) → h8[n2]? = some (rec2 LoopState.busy none) ∧ ∀ (h9 : Heap), h9 = Array.setIfInBounds h8 n2 (rec2 LoopState.ready none) → I1 (Value.bool true) h9) ∧
                                    (n6 < n5 + (1 : Nat) →
                                     (n5 + (1 : Nat)) * (8 : Nat) ≤ (70368744177664 : Nat) ∧
                                      (0 : Nat) < (8 : Nat) ∧
                                       ∃ (l2 : List Value),
                                        srcIs rec4 (1 : Nat) n5 (Value.slice p1 n5 n6) l2 ∧
                                         ∀ (n8 : Nat),
                                          n5 + (1 : Nat) ≤ n8 →
                                           ∀ (n9 : Nat) (rec5 : Array Obj),
                                            n9 = Array.size rec4 →
                                             rec5 = Array.push rec4 (Obj.cells { toList := List.append (List.append l2 l1) (zrow [Value.int IntKind.i64 (Int.ofNat (0))] (n8 - (n5 + (1 : Nat)))) : Array Value } (3 : TypeId)) →
                                              true = true ∧
                                               okAt rec5 { block := n1, off := (0 : Nat) : Addr } ∧
                                                ∀ (h10 : Heap),
                                                 h10 = upd rec5 { block := n1, off := (0 : Nat) : Addr } (Value.slice (some { block := n9, off := (0 : Nat) : Addr }) (n5 + (1 : Nat)) n8) →
                                                  h10[n2]? = some (rec2 LoopState.busy none) ∧ ∀ (h11 : Heap), h11 = Array.setIfInBounds h10 n2 (rec2 LoopState.ready none) → I1 (Value.bool true) h11)) ∧
                      (t1 = false → h4[n2]? = some (rec2 LoopState.busy none) ∧ ∀ (h12 : Heap), h12 = Array.setIfInBounds h4 n2 (rec2 LoopState.ready none) → I1 (Value.bool true) h12)) →
                  CallV Tryz.prog (yieldV n2) { toList := [Value.int IntKind.i64 i1, Value.bool t1] : Array Value } h3 I1) →
               CallH Tryz.prog x1 { toList := List.append x2.1 (yieldV n2 :: x3.1) : Array Value } h2 fun (v5 : Value) (h13 : Heap) =>
                h13[n2]? = some (rec2 LoopState.ready none) ∧
                 ∀ (h14 : Heap),
                  h14 = Array.setIfInBounds h13 n2 (rec2 LoopState.exhausted none) →
                   ∃ (p3 : Option Addr),
                    ∃ (n10 : Nat), ∃ (n11 : Nat), cellAt h14 { block := n1, off := (0 : Nat) : Addr } = some (Value.slice p3 n10 n11) ∧ h14[n3]? = some (Obj.deferred (some [])) ∧ ∀ (h15 : Heap), h15 = Array.setIfInBounds h14 n3 (Obj.deferred none) → R (Value.slice p3 n10 n11) h15
       | v6 => False

theorem cChanged_call (q0 : Nat) {h : Heap} {R : Value → Heap → Prop} (H : cChanged_vc q0 h R) : CallH Tryz.prog 44 ⟨[.pointer (some ⟨q0, 0, none⟩)]⟩ h R :=
  callH_of_dCode tabOK mixed [(.pointer (some ⟨q0, 0, none⟩), false)] Tryz.func44 (c := bodyC Tryz.f44) (by kernel_rfl) (by kernel_rfl : Tryz.f44.ntmps = 16) rfl
    (Eq.mp (by kernel_rfl : cChanged_vc q0 h R = dCode Tryz.prog T ⟨[], [], [], [(5, [.int .i64, .bool])], []⟩ (bodyC Tryz.f44) none (dEnd T (Tryz.f44.results.toList) R) (startE 16 [(.pointer (some ⟨q0, 0, none⟩), false)]) h) H)

/-- (*incipit/cache.Cache).Drop -/
def cDrop_vc (q0 : Nat) (h : Heap) (R : Value → Heap → Prop) : Prop :=
  entersB Tryz.prog (59 : Nat) = true ∧
 CallH Tryz.prog (59 : Nat) { toList := [Value.pointer (some { block := q0, off := (0 : Nat) : Addr })] : Array Value } h fun (v1 : Value) (h1 : Heap) =>
  ∃ (t1 : Bool),
   v1 = Value.bool t1 ∧
    ((!t1) = true →
      ∃ (m1 : Option Nat),
       cellAt h1 { block := q0, off := (2 : Nat) : Addr } = some (Value.map m1) ∧
        match m1 with
        | some n1 => ∃ (x1 : Array MapEntry), ∃ (n2 : Nat), h1[n1]? = some (Obj.map x1 n2) ∧ ∀ (h2 : Heap), h2 = Array.setIfInBounds h1 n1 (Obj.map { toList := [] : Array MapEntry } n2) → R (Value.tuple { toList := [] : Array Value }) h2
        | none => R (Value.tuple { toList := [] : Array Value }) h1) ∧
     ((!t1) = false → R (Value.tuple { toList := [] : Array Value }) h1)

theorem cDrop_call (q0 : Nat) {h : Heap} {R : Value → Heap → Prop} (H : cDrop_vc q0 h R) : CallH Tryz.prog 32 ⟨[.pointer (some ⟨q0, 0, none⟩)]⟩ h R :=
  callH_of_dCode tabOK mixed [(.pointer (some ⟨q0, 0, none⟩), false)] Tryz.func32 (c := bodyC Tryz.f32) (by kernel_rfl) (by kernel_rfl : Tryz.f32.ntmps = 9) rfl
    (Eq.mp (by kernel_rfl : cDrop_vc q0 h R = dCode Tryz.prog T ⟨[], [], [], [], []⟩ (bodyC Tryz.f32) none (dEnd T (Tryz.f32.results.toList) R) (startE 9 [(.pointer (some ⟨q0, 0, none⟩), false)]) h) H)

/-- (*incipit/cache.Cache).Counts -/
def cCounts_vc (q0 : Nat) (h : Heap) (R : Value → Heap → Prop) : Prop :=
  entersB Tryz.prog (59 : Nat) = true ∧
 CallH Tryz.prog (59 : Nat) { toList := [Value.pointer (some { block := q0, off := (0 : Nat) : Addr })] : Array Value } h fun (v1 : Value) (h1 : Heap) =>
  ∃ (t1 : Bool),
   v1 = Value.bool t1 ∧
    (t1 = true → R (Value.tuple { toList := [Value.int IntKind.i64 (0 : Int), Value.int IntKind.i64 (0 : Int)] : Array Value }) h1) ∧
     (t1 = false →
      ∃ (i1 : Int),
       cellAt h1 { block := q0, off := (4 : Nat) : Addr } = some (Value.int IntKind.i64 i1) ∧ ∃ (i2 : Int), cellAt h1 { block := q0, off := (5 : Nat) : Addr } = some (Value.int IntKind.i64 i2) ∧ R (Value.tuple { toList := [Value.int IntKind.i64 i1, Value.int IntKind.i64 i2] : Array Value }) h1)

theorem cCounts_call (q0 : Nat) {h : Heap} {R : Value → Heap → Prop} (H : cCounts_vc q0 h R) : CallH Tryz.prog 39 ⟨[.pointer (some ⟨q0, 0, none⟩)]⟩ h R :=
  callH_of_dCode tabOK mixed [(.pointer (some ⟨q0, 0, none⟩), false)] Tryz.func39 (c := bodyC Tryz.f39) (by kernel_rfl) (by kernel_rfl : Tryz.f39.ntmps = 14) rfl
    (Eq.mp (by kernel_rfl : cCounts_vc q0 h R = dCode Tryz.prog T ⟨[], [], [], [], []⟩ (bodyC Tryz.f39) none (dEnd T (Tryz.f39.results.toList) R) (startE 14 [(.pointer (some ⟨q0, 0, none⟩), false)]) h) H)

/-- (*incipit/cache.Cache).All -/
def cAll_vc (q0 : Nat) (h : Heap) (R : Value → Heap → Prop) : Prop :=
  ∀ (n1 : Nat) (rec1 : Array Obj),
 n1 = Array.size h →
  rec1 = Array.push h (Obj.cells { toList := [Value.pointer (some { block := q0, off := (0 : Nat) : Addr })] : Array Value } (31 : Nat)) →
   R (Value.func (Fn.func (74 : Nat)) { toList := [] : Array Value } { toList := [Value.pointer (some { block := n1, off := (0 : Nat) : Addr })] : Array Value }) rec1

theorem cAll_call (q0 : Nat) {h : Heap} {R : Value → Heap → Prop} (H : cAll_vc q0 h R) : CallH Tryz.prog 43 ⟨[.pointer (some ⟨q0, 0, none⟩)]⟩ h R :=
  callH_of_dCode tabOK mixed [(.pointer (some ⟨q0, 0, none⟩), false)] Tryz.func43 (c := bodyC Tryz.f43) (by kernel_rfl) (by kernel_rfl : Tryz.f43.ntmps = 4) rfl
    (Eq.mp (by kernel_rfl : cAll_vc q0 h R = dCode Tryz.prog T ⟨[], [], [], [], []⟩ (bodyC Tryz.f43) none (dEnd T (Tryz.f43.results.toList) R) (startE 4 [(.pointer (some ⟨q0, 0, none⟩), false)]) h) H)

/-- (*incipit/cache.Cache).may -/
def cMay_vc (q0 : Nat) (q1 : Int) (q2 : Int) (h : Heap) (R : Value → Heap → Prop) : Prop :=
  entersB Tryz.prog (59 : Nat) = true ∧
 CallH Tryz.prog (59 : Nat) { toList := [Value.pointer (some { block := q0, off := (0 : Nat) : Addr })] : Array Value } h fun (v1 : Value) (h1 : Heap) =>
  ∃ (t1 : Bool),
   v1 = Value.bool t1 ∧
    (t1 = true → R (Value.int IntKind.i64 (2 : Int)) h1) ∧
     (t1 = false →
      (decide (q1 < (0 : Int)) = true → R (Value.int IntKind.i64 (1 : Int)) h1) ∧
       (decide (q1 < (0 : Int)) = false →
        ∃ (p1 : Option Addr),
         cellAt h1 { block := q0, off := (0 : Nat) : Addr } = some (Value.pointer p1) ∧
          entersB Tryz.prog (21 : Nat) = true ∧
           CallH Tryz.prog (21 : Nat) { toList := [Value.pointer p1] : Array Value } h1 fun (v2 : Value) (h2 : Heap) =>
            ∃ (i1 : Int), v2 = Value.int IntKind.i64 i1 ∧ (decide (q1 ≥ i1) = true → R (Value.int IntKind.i64 (1 : Int)) h2) ∧ (decide (q1 ≥ i1) = false → ((q2 != (256 : Int)) = true → R (Value.int IntKind.i64 (1 : Int)) h2) ∧ ((q2 != (256 : Int)) = false → R (Value.int IntKind.i64 (0 : Int)) h2))))

theorem cMay_call (q0 : Nat) (q1 : Int) (q2 : Int) {h : Heap} {R : Value → Heap → Prop} (H : cMay_vc q0 q1 q2 h R) : CallH Tryz.prog 54 ⟨[.pointer (some ⟨q0, 0, none⟩), .int .i64 q1, .int .i64 q2]⟩ h R :=
  callH_of_dCode tabOK mixed [(.pointer (some ⟨q0, 0, none⟩), false), (.int .i64 q1, false), (.int .i64 q2, false)] Tryz.func54 (c := bodyC Tryz.f54) (by kernel_rfl) (by kernel_rfl : Tryz.f54.ntmps = 26) rfl
    (Eq.mp (by kernel_rfl : cMay_vc q0 q1 q2 h R = dCode Tryz.prog T ⟨[], [], [], [], []⟩ (bodyC Tryz.f54) none (dEnd T (Tryz.f54.results.toList) R) (startE 26 [(.pointer (some ⟨q0, 0, none⟩), false), (.int .i64 q1, false), (.int .i64 q2, false)]) h) H)

/-- (*incipit/cache.Cache).hit -/
def cHit_vc (q0 : Nat) (q1 : Int) (h : Heap) (R : Value → Heap → Prop) : Prop :=
  ∃ (m1 : Option Nat),
 cellAt h { block := q0, off := (2 : Nat) : Addr } = some (Value.map m1) ∧
  ∃ (x1 : Array MapEntry),
   mapIs h m1 x1 ∧
    keysOK (Value.int IntKind.i64 q1) x1 ∧
     (∀ (v1 : Value),
       mget (Value.int IntKind.i64 q1) x1 = some v1 →
        ∃ (p1 : Option Addr),
         v1 = Value.pointer p1 ∧
          ∃ (i1 : Int),
           cellAt h { block := q0, off := (4 : Nat) : Addr } = some (Value.int IntKind.i64 i1) ∧
            true = true ∧
             okAt h { block := q0, off := (4 : Nat) : Addr } ∧
              ∀ (h1 : Heap),
               h1 = upd h { block := q0, off := (4 : Nat) : Addr } (Value.int IntKind.i64 (IntKind.wrap IntKind.i64 (i1 + (1 : Int)))) →
                entersB Tryz.prog (56 : Nat) = true ∧
                 CallH Tryz.prog (56 : Nat) { toList := [Value.pointer (some { block := q0, off := (0 : Nat) : Addr }), Value.pointer p1] : Array Value } h1 fun (v2 : Value) (h2 : Heap) =>
                  v2 = Value.tuple { toList := [] : Array Value } ∧ R (Value.tuple { toList := [Value.pointer p1, Value.int IntKind.i64 (0 : Int)] : Array Value }) h2) ∧
      (mget (Value.int IntKind.i64 q1) x1 = none →
       ∃ (i2 : Int),
        cellAt h { block := q0, off := (5 : Nat) : Addr } = some (Value.int IntKind.i64 i2) ∧
         true = true ∧
          okAt h { block := q0, off := (5 : Nat) : Addr } ∧
           ∀ (h3 : Heap),
            h3 = upd h { block := q0, off := (5 : Nat) : Addr } (Value.int IntKind.i64 (IntKind.wrap IntKind.i64 (i2 + (1 : Int)))) →
             entersB Tryz.prog (77 : Nat) = true ∧
              CallH Tryz.prog (77 : Nat) { toList := [Value.pointer (some { block := q0, off := (0 : Nat) : Addr })] : Array Value } h3 fun (v3 : Value) (h4 : Heap) =>
               ∃ (i3 : Int), v3 = Value.int IntKind.i64 i3 ∧ R (Value.tuple { toList := [Value.pointer none, Value.int IntKind.i64 i3] : Array Value }) h4)

theorem cHit_call (q0 : Nat) (q1 : Int) {h : Heap} {R : Value → Heap → Prop} (H : cHit_vc q0 q1 h R) : CallH Tryz.prog 55 ⟨[.pointer (some ⟨q0, 0, none⟩), .int .i64 q1]⟩ h R :=
  callH_of_dCode tabOK mixed [(.pointer (some ⟨q0, 0, none⟩), false), (.int .i64 q1, false)] Tryz.func55 (c := bodyC Tryz.f55) (by kernel_rfl) (by kernel_rfl : Tryz.f55.ntmps = 38) rfl
    (Eq.mp (by kernel_rfl : cHit_vc q0 q1 h R = dCode Tryz.prog T ⟨[], [], [], [], []⟩ (bodyC Tryz.f55) none (dEnd T (Tryz.f55.results.toList) R) (startE 38 [(.pointer (some ⟨q0, 0, none⟩), false), (.int .i64 q1, false)]) h) H)

/-- (*incipit/cache.Cache).uses -/
def cUses_vc (q0 : Nat) (q1 : Nat) (h : Heap) (R : Value → Heap → Prop) : Prop :=
  ∃ (i1 : Int),
 cellAt h { block := q0, off := (3 : Nat) : Addr } = some (Value.int IntKind.i64 i1) ∧
  true = true ∧
   okAt h { block := q0, off := (3 : Nat) : Addr } ∧
    ∀ (h1 : Heap),
     h1 = upd h { block := q0, off := (3 : Nat) : Addr } (Value.int IntKind.i64 (IntKind.wrap IntKind.i64 (i1 + (1 : Int)))) →
      ∃ (i2 : Int),
       cellAt h1 { block := q0, off := (3 : Nat) : Addr } = some (Value.int IntKind.i64 i2) ∧
        true = true ∧ okAt h1 { block := q1, off := (3 : Nat) : Addr } ∧ ∀ (h2 : Heap), h2 = upd h1 { block := q1, off := (3 : Nat) : Addr } (Value.int IntKind.i64 i2) → R (Value.tuple { toList := [] : Array Value }) h2

theorem cUses_call (q0 : Nat) (q1 : Nat) {h : Heap} {R : Value → Heap → Prop} (H : cUses_vc q0 q1 h R) : CallH Tryz.prog 56 ⟨[.pointer (some ⟨q0, 0, none⟩), .pointer (some ⟨q1, 0, none⟩)]⟩ h R :=
  callH_of_dCode tabOK mixed [(.pointer (some ⟨q0, 0, none⟩), false), (.pointer (some ⟨q1, 0, none⟩), false)] Tryz.func56 (c := bodyC Tryz.f56) (by kernel_rfl) (by kernel_rfl : Tryz.f56.ntmps = 18) rfl
    (Eq.mp (by kernel_rfl : cUses_vc q0 q1 h R = dCode Tryz.prog T ⟨[], [], [], [], []⟩ (bodyC Tryz.f56) none (dEnd T (Tryz.f56.results.toList) R) (startE 18 [(.pointer (some ⟨q0, 0, none⟩), false), (.pointer (some ⟨q1, 0, none⟩), false)]) h) H)

/-- (*incipit/cache.Cache).of -/
def cOf_vc (q0 : Nat) (q1 : Int) (h : Heap) (R : Value → Heap → Prop) : Prop :=
  entersB Tryz.prog (59 : Nat) = true ∧
 CallH Tryz.prog (59 : Nat) { toList := [Value.pointer (some { block := q0, off := (0 : Nat) : Addr })] : Array Value } h fun (v1 : Value) (h1 : Heap) =>
  ∃ (t1 : Bool),
   v1 = Value.bool t1 ∧
    (t1 = true → R (Value.tuple { toList := [Value.pointer none, Value.int IntKind.i64 (2 : Int)] : Array Value }) h1) ∧
     (t1 = false →
      ∃ (m1 : Option Nat),
       cellAt h1 { block := q0, off := (2 : Nat) : Addr } = some (Value.map m1) ∧
        ∃ (x1 : Array MapEntry),
         mapIs h1 m1 x1 ∧
          keysOK (Value.int IntKind.i64 q1) x1 ∧
           (∀ (v2 : Value),
             mget (Value.int IntKind.i64 q1) x1 = some v2 →
              ∃ (p1 : Option Addr),
               v2 = Value.pointer p1 ∧ ((!true) = true → R (Value.tuple { toList := [Value.pointer none, Value.int IntKind.i64 (4 : Int)] : Array Value }) h1) ∧ ((!true) = false → R (Value.tuple { toList := [Value.pointer p1, Value.int IntKind.i64 (0 : Int)] : Array Value }) h1)) ∧
            (mget (Value.int IntKind.i64 q1) x1 = none →
             ((!false) = true → R (Value.tuple { toList := [Value.pointer none, Value.int IntKind.i64 (4 : Int)] : Array Value }) h1) ∧ ((!false) = false → R (Value.tuple { toList := [zeroV T (91 : TypeId), Value.int IntKind.i64 (0 : Int)] : Array Value }) h1)))

theorem cOf_call (q0 : Nat) (q1 : Int) {h : Heap} {R : Value → Heap → Prop} (H : cOf_vc q0 q1 h R) : CallH Tryz.prog 65 ⟨[.pointer (some ⟨q0, 0, none⟩), .int .i64 q1]⟩ h R :=
  callH_of_dCode tabOK mixed [(.pointer (some ⟨q0, 0, none⟩), false), (.int .i64 q1, false)] Tryz.func65 (c := bodyC Tryz.f65) (by kernel_rfl) (by kernel_rfl : Tryz.f65.ntmps = 22) rfl
    (Eq.mp (by kernel_rfl : cOf_vc q0 q1 h R = dCode Tryz.prog T ⟨[], [], [], [], []⟩ (bodyC Tryz.f65) none (dEnd T (Tryz.f65.results.toList) R) (startE 22 [(.pointer (some ⟨q0, 0, none⟩), false), (.int .i64 q1, false)]) h) H)

/-- (*incipit/cache.Cache).of -/
def cOfN_vc (q1 : Int) (h : Heap) (R : Value → Heap → Prop) : Prop :=
  entersB Tryz.prog (59 : Nat) = true ∧
 CallH Tryz.prog (59 : Nat) { toList := [Value.pointer none] : Array Value } h fun (v1 : Value) (h1 : Heap) => ∃ (t1 : Bool), v1 = Value.bool t1 ∧ (t1 = true → R (Value.tuple { toList := [Value.pointer none, Value.int IntKind.i64 (2 : Int)] : Array Value }) h1) ∧ (t1 = false → False)

theorem cOfN_call (q1 : Int) {h : Heap} {R : Value → Heap → Prop} (H : cOfN_vc q1 h R) : CallH Tryz.prog 65 ⟨[.pointer none, .int .i64 q1]⟩ h R :=
  callH_of_dCode tabOK mixed [(.pointer none, false), (.int .i64 q1, false)] Tryz.func65 (c := bodyC Tryz.f65) (by kernel_rfl) (by kernel_rfl : Tryz.f65.ntmps = 22) rfl
    (Eq.mp (by kernel_rfl : cOfN_vc q1 h R = dCode Tryz.prog T ⟨[], [], [], [], []⟩ (bodyC Tryz.f65) none (dEnd T (Tryz.f65.results.toList) R) (startE 22 [(.pointer none, false), (.int .i64 q1, false)]) h) H)

/-- (*incipit/cache.Cache).none -/
def cNone_vc (q0 : Nat) (h : Heap) (R : Value → Heap → Prop) : Prop :=
  (false = true → R (Value.bool true) h) ∧ (false = false → ∃ (p1 : Option Addr), cellAt h { block := q0, off := (0 : Nat) : Addr } = some (Value.pointer p1) ∧ R (Value.bool (Option.isNone p1)) h)

theorem cNone_call (q0 : Nat) {h : Heap} {R : Value → Heap → Prop} (H : cNone_vc q0 h R) : CallH Tryz.prog 59 ⟨[.pointer (some ⟨q0, 0, none⟩)]⟩ h R :=
  callH_of_dCode tabOK mixed [(.pointer (some ⟨q0, 0, none⟩), false)] Tryz.func59 (c := bodyC Tryz.f59) (by kernel_rfl) (by kernel_rfl : Tryz.f59.ntmps = 12) rfl
    (Eq.mp (by kernel_rfl : cNone_vc q0 h R = dCode Tryz.prog T ⟨[], [], [], [], []⟩ (bodyC Tryz.f59) none (dEnd T (Tryz.f59.results.toList) R) (startE 12 [(.pointer (some ⟨q0, 0, none⟩), false)]) h) H)

/-- (*incipit/cache.Cache).none -/
def cNoneN_vc (h : Heap) (R : Value → Heap → Prop) : Prop :=
  (true = true → R (Value.bool true) h) ∧ (true = false → False)

theorem cNoneN_call  {h : Heap} {R : Value → Heap → Prop} (H : cNoneN_vc  h R) : CallH Tryz.prog 59 ⟨[.pointer none]⟩ h R :=
  callH_of_dCode tabOK mixed [(.pointer none, false)] Tryz.func59 (c := bodyC Tryz.f59) (by kernel_rfl) (by kernel_rfl : Tryz.f59.ntmps = 12) rfl
    (Eq.mp (by kernel_rfl : cNoneN_vc  h R = dCode Tryz.prog T ⟨[], [], [], [], []⟩ (bodyC Tryz.f59) none (dEnd T (Tryz.f59.results.toList) R) (startE 12 [(.pointer none, false)]) h) H)

/-- (*incipit/cache.Cache).Held$1 -/
def cHeld1_vc (q0 : Int) (q1 : Int) (b2 : Nat) (h : Heap) (R : Value → Heap → Prop) : Prop :=
  ∃ (p1 : Option Addr),
 cellAt h { block := b2, off := (0 : Nat) : Addr } = some (Value.pointer p1) ∧
  match p1 with
  | some a1 =>
   ∃ (m1 : Option Nat),
    cellAt h (Addr.add a1 (2 : Nat)) = some (Value.map m1) ∧
     ∃ (x1 : Array MapEntry),
      mapIs h m1 x1 ∧
       keysOK (Value.int IntKind.i64 q1) x1 ∧
        (∀ (v1 : Value),
          mget (Value.int IntKind.i64 q1) x1 = some v1 →
           ∃ (p3 : Option Addr),
            v1 = Value.pointer p3 ∧
             match p3 with
             | some a2 =>
              ∃ (i1 : Int),
               cellAt h (Addr.add a2 (3 : Nat)) = some (Value.int IntKind.i64 i1) ∧
                ∃ (p4 : Option Addr),
                 cellAt h { block := b2, off := (0 : Nat) : Addr } = some (Value.pointer p4) ∧
                  match p4 with
                  | some a3 =>
                   ∃ (m2 : Option Nat),
                    cellAt h (Addr.add a3 (2 : Nat)) = some (Value.map m2) ∧
                     ∃ (x2 : Array MapEntry),
                      mapIs h m2 x2 ∧
                       keysOK (Value.int IntKind.i64 q0) x2 ∧
                        (∀ (v2 : Value),
                          mget (Value.int IntKind.i64 q0) x2 = some v2 →
                           ∃ (p5 : Option Addr),
                            v2 = Value.pointer p5 ∧
                             match p5 with
                             | some a4 => ∃ (i2 : Int), cellAt h (Addr.add a4 (3 : Nat)) = some (Value.int IntKind.i64 i2) ∧ R (Value.int IntKind.i64 (IntKind.wrap IntKind.i64 (i1 - i2))) h
                             | none => False) ∧
                         (mget (Value.int IntKind.i64 q0) x2 = none → False)
                  | none => False
             | none => False) ∧
         (mget (Value.int IntKind.i64 q1) x1 = none → False)
  | none => False

theorem cHeld1_call (q0 : Int) (q1 : Int) (b2 : Nat) {h : Heap} {R : Value → Heap → Prop} (H : cHeld1_vc q0 q1 b2 h R) : CallH Tryz.prog 62 ⟨[.int .i64 q0, .int .i64 q1, .pointer (some ⟨b2, 0, none⟩)]⟩ h R :=
  callH_of_dCode tabOK mixed [(.int .i64 q0, false), (.int .i64 q1, false), (.pointer (some ⟨b2, 0, none⟩), false)] Tryz.func62 (c := bodyC Tryz.f62) (by kernel_rfl) (by kernel_rfl : Tryz.f62.ntmps = 25) rfl
    (Eq.mp (by kernel_rfl : cHeld1_vc q0 q1 b2 h R = dCode Tryz.prog T ⟨[], [], [], [], []⟩ (bodyC Tryz.f62) none (dEnd T (Tryz.f62.results.toList) R) (startE 25 [(.int .i64 q0, false), (.int .i64 q1, false), (.pointer (some ⟨b2, 0, none⟩), false)]) h) H)

/-- (*incipit/cache.Cache).All$1 -/
def cAll1_vc (q0 : Value) (b1 : Nat) (h : Heap) (R : Value → Heap → Prop) : Prop :=
  ∃ (p1 : Option Addr),
 cellAt h { block := b1, off := (0 : Nat) : Addr } = some (Value.pointer p1) ∧
  entersB Tryz.prog (59 : Nat) = true ∧
   CallH Tryz.prog (59 : Nat) { toList := [Value.pointer p1] : Array Value } h fun (v1 : Value) (h1 : Heap) =>
    ∃ (t1 : Bool),
     v1 = Value.bool t1 ∧
      (t1 = true → R (Value.tuple { toList := [] : Array Value }) h1) ∧
       (t1 = false →
        ∃ (p2 : Option Addr),
         cellAt h1 { block := b1, off := (0 : Nat) : Addr } = some (Value.pointer p2) ∧
          match p2 with
          | some a1 =>
           ∃ (m1 : Option Nat),
            cellAt h1 (Addr.add a1 (2 : Nat)) = some (Value.map m1) ∧
             entersB Tryz.prog (61 : Nat) = true ∧
              CallH Tryz.prog (61 : Nat) { toList := [Value.map m1] : Array Value } h1 fun (v2 : Value) (h2 : Heap) =>
               ∃ (v3 : Value),
                v2 = v3 ∧
                 entersB Tryz.prog (75 : Nat) = true ∧
                  CallH Tryz.prog (75 : Nat) { toList := [v3] : Array Value } h2 fun (v4 : Value) (h3 : Heap) =>
                   ∃ (p4 : Option Addr),
                    ∃ (n1 : Nat),
                     ∃ (n2 : Nat),
                      v4 = Value.slice p4 n1 n2 ∧
                       ∃ (I1 : Int → Heap → Prop),
                        ∃ (M1 : Int → Heap → Nat),
                         I1 (0 : Int) h3 ∧
                          ∀ (i1 : Int) (h4 : Heap),
                           I1 i1 h4 →
                            (decide (i1 < (↑n1 : Int)) = true →
                              match p4 with
                              | some a2 =>
                               ((0 : Int) ≤ i1 ∧ i1 < (↑n1 : Int)) ∧
                                ∃ (i2 : Int),
                                 cellAt h4 (Addr.add a2 (Int.toNat i1 * (1 : Nat))) = some (Value.int IntKind.i64 i2) ∧
                                  ∃ (p5 : Option Addr),
                                   cellAt h4 { block := b1, off := (0 : Nat) : Addr } = some (Value.pointer p5) ∧
                                    match p5 with
                                    | some a3 =>
                                     ∃ (m2 : Option Nat),
                                      cellAt h4 (Addr.add a3 (2 : Nat)) = some (Value.map m2) ∧
                                       ∃ (x1 : Array MapEntry),
                                        mapIs h4 m2 x1 ∧
                                         keysOK (Value.int IntKind.i64 i2) x1 ∧
                                          (∀ (v5 : Value),
                                            mget (Value.int IntKind.i64 i2) x1 = some v5 →
                                             ∃ (p6 : Option Addr),
                                              v5 = Value.pointer p6 ∧
                                               match p6 with
                                               | some a4 =>
                                                ∃ (t2 : Bool),
                                                 cellAt h4 (Addr.add a4 (1 : Nat)) = some (Value.bool t2) ∧
                                                  match q0 with
                                                  | Value.func (Fn.func x2) x3 x4 =>
                                                   entersB Tryz.prog x2 = true ∧
                                                    CallH Tryz.prog x2 { toList := List.append (List.append x3.1 [Value.int IntKind.i64 i2, Value.bool t2]) x4.1 : Array Value } h4 fun (v7 : Value) (h5 : Heap) =>
                                                     ∃ (t3 : Bool), v7 = Value.bool t3 ∧ ((!t3) = true → R (Value.tuple { toList := [] : Array Value }) h5) ∧ ((!t3) = false → I1 (IntKind.wrap IntKind.i64 (i1 + (1 : Int))) h5 ∧ M1 (IntKind.wrap IntKind.i64 (i1 + (1 : Int))) h5 < M1 i1 h4)
                                                  | v8 =>
                                                   CallV Tryz.prog v8 { toList := [Value.int IntKind.i64 i2, Value.bool t2] : Array Value } h4 fun (v9 : Value) (h6 : Heap) =>
                                                    ∃ (t4 : Bool), v9 = Value.bool t4 ∧ ((!t4) = true → R (Value.tuple { toList := [] : Array Value }) h6) ∧ ((!t4) = false → I1 (IntKind.wrap IntKind.i64 (i1 + (1 : Int))) h6 ∧ M1 (IntKind.wrap IntKind.i64 (i1 + (1 : Int))) h6 < M1 i1 h4)
                                               | none => False) ∧
                                           (mget (Value.int IntKind.i64 i2) x1 = none → I1 (IntKind.wrap IntKind.i64 (i1 + (1 : Int))) h4 ∧ M1 (IntKind.wrap IntKind.i64 (i1 + (1 : Int))) h4 < M1 i1 h4)
                                    | none => False
                              | none => False) ∧
                             (decide (i1 < (↑n1 : Int)) = false → R (Value.tuple { toList := [] : Array Value }) h4)
          | none => False)

theorem cAll1_call (q0 : Value) (b1 : Nat) {h : Heap} {R : Value → Heap → Prop} (H : cAll1_vc q0 b1 h R) : CallH Tryz.prog 74 ⟨[q0, .pointer (some ⟨b1, 0, none⟩)]⟩ h R :=
  callH_of_dCode tabOK mixed [(q0, false), (.pointer (some ⟨b1, 0, none⟩), false)] Tryz.func74 (c := bodyC Tryz.f74) (by kernel_rfl) (by kernel_rfl : Tryz.f74.ntmps = 41) rfl
    (Eq.mp (by kernel_rfl : cAll1_vc q0 b1 h R = dCode Tryz.prog T ⟨[], [(2, [(16, .int .i64)])], [], [], []⟩ (bodyC Tryz.f74) none (dEnd T (Tryz.f74.results.toList) R) (startE 41 [(q0, false), (.pointer (some ⟨b1, 0, none⟩), false)]) h) H)

/-- (*incipit/cache.Cache).room -/
def cRoom_vc (q0 : Nat) (h : Heap) (R : Value → Heap → Prop) : Prop :=
  ∃ (m1 : Option Nat),
 cellAt h { block := q0, off := (2 : Nat) : Addr } = some (Value.map m1) ∧
  ∃ (x1 : Array MapEntry),
   mapIs h m1 x1 ∧
    ∃ (i1 : Int),
     cellAt h { block := q0, off := (1 : Nat) : Addr } = some (Value.int IntKind.i64 i1) ∧
      (decide ((↑(Array.size x1) : Int) < i1) = true → R (Value.int IntKind.i64 (0 : Int)) h) ∧
       (decide ((↑(Array.size x1) : Int) < i1) = false →
        entersB Tryz.prog (82 : Nat) = true ∧
         CallH Tryz.prog (82 : Nat) { toList := [Value.pointer (some { block := q0, off := (0 : Nat) : Addr })] : Array Value } h fun (v1 : Value) (h1 : Heap) =>
          ∃ (i2 : Int),
           v1 = Value.int IntKind.i64 i2 ∧
            (decide (i2 < (0 : Int)) = true → R (Value.int IntKind.i64 (6 : Int)) h1) ∧
             (decide (i2 < (0 : Int)) = false →
              ∃ (m2 : Option Nat),
               cellAt h1 { block := q0, off := (2 : Nat) : Addr } = some (Value.map m2) ∧
                ∃ (x2 : Array MapEntry),
                 mapIs h1 m2 x2 ∧
                  keysOK (Value.int IntKind.i64 i2) x2 ∧
                   (∀ (v2 : Value),
                     mget (Value.int IntKind.i64 i2) x2 = some v2 →
                      ∃ (p1 : Option Addr),
                       v2 = Value.pointer p1 ∧
                        match p1 with
                        | some a1 =>
                         ∃ (t1 : Bool),
                          cellAt h1 (Addr.add a1 (1 : Nat)) = some (Value.bool t1) ∧
                           (t1 = true →
                             ∃ (p3 : Option Addr),
                              cellAt h1 { block := q0, off := (0 : Nat) : Addr } = some (Value.pointer p3) ∧
                               match p1 with
                               | some a2 =>
                                ∃ (p4 : Option Addr),
                                 ∃ (n1 : Nat),
                                  ∃ (n2 : Nat),
                                   cellAt h1 a2 = some (Value.slice p4 n1 n2) ∧
                                    entersB Tryz.prog (67 : Nat) = true ∧
                                     CallH Tryz.prog (67 : Nat) { toList := [Value.pointer p3, Value.int IntKind.i64 i2, Value.slice p4 n1 n2] : Array Value } h1 fun (v3 : Value) (h2 : Heap) =>
                                      ∃ (i3 : Int),
                                       v3 = Value.int IntKind.i64 i3 ∧
                                        ((i3 != (0 : Int)) = true → R (Value.int IntKind.i64 i3) h2) ∧
                                         ((i3 != (0 : Int)) = false →
                                          ∃ (m3 : Option Nat),
                                           cellAt h2 { block := q0, off := (2 : Nat) : Addr } = some (Value.map m3) ∧
                                            match m3 with
                                            | some n3 =>
                                             ∃ (x3 : Array MapEntry),
                                              ∃ (n4 : Nat),
                                               h2[n3]? = some (Obj.map x3 n4) ∧
                                                keysOK (Value.int IntKind.i64 i2) x3 ∧
                                                 ∀ (h3 : Heap),
                                                  h3 =
                                                    Array.setIfInBounds h2 n3
                                                     (match mfind (Value.int IntKind.i64 i2) x3 with
                                                     | some (n6, v4) => Obj.map (Array.eraseIdxIfInBounds x3 n6) n4
                                                     | none => Obj.map x3 n4) →
                                                   R (Value.int IntKind.i64 (0 : Int)) h3
                                            | none => False)
                               | none => False) ∧
                            (t1 = false →
                             ∃ (m5 : Option Nat),
                              cellAt h1 { block := q0, off := (2 : Nat) : Addr } = some (Value.map m5) ∧
                               match m5 with
                               | some n7 =>
                                ∃ (x7 : Array MapEntry),
                                 ∃ (n8 : Nat),
                                  h1[n7]? = some (Obj.map x7 n8) ∧
                                   keysOK (Value.int IntKind.i64 i2) x7 ∧
                                    ∀ (h4 : Heap),
                                     h4 =
                                       Array.setIfInBounds h1 n7
                                        (match mfind (Value.int IntKind.i64 i2) x7 with
                                        | some (n9, v5) => Obj.map (Array.eraseIdxIfInBounds x7 n9) n8
                                        | none => Obj.map x7 n8) →
                                      R (Value.int IntKind.i64 (0 : Int)) h4
                               | none => False)
                        | none => False) ∧
                    (mget (Value.int IntKind.i64 i2) x2 = none → False)))

theorem cRoom_call (q0 : Nat) {h : Heap} {R : Value → Heap → Prop} (H : cRoom_vc q0 h R) : CallH Tryz.prog 77 ⟨[.pointer (some ⟨q0, 0, none⟩)]⟩ h R :=
  callH_of_dCode tabOK mixed [(.pointer (some ⟨q0, 0, none⟩), false)] Tryz.func77 (c := bodyC Tryz.f77) (by kernel_rfl) (by kernel_rfl : Tryz.f77.ntmps = 48) rfl
    (Eq.mp (by kernel_rfl : cRoom_vc q0 h R = dCode Tryz.prog T ⟨[], [], [], [], []⟩ (bodyC Tryz.f77) none (dEnd T (Tryz.f77.results.toList) R) (startE 48 [(.pointer (some ⟨q0, 0, none⟩), false)]) h) H)

/-- (*incipit/cache.Cache).oldest -/
def cOldest_vc (q0 : Nat) (h : Heap) (R : Value → Heap → Prop) : Prop :=
  ∃ (m1 : Option Nat),
 cellAt h { block := q0, off := (2 : Nat) : Addr } = some (Value.map m1) ∧
  match m1 with
  | some n1 =>
   ∃ (x1 : Array MapEntry),
    ∃ (n2 : Nat),
     h[n1]? = some (Obj.map x1 n2) ∧
      ∀ (n4 : Nat) (rec2 : Array Obj),
       n4 = Array.size h →
        rec2 = Array.push h (Obj.mapIter (some n1) n2 { toList := [] : Array Nat } n2) →
         ∃ (I1 : Int → Heap → Prop),
          ∃ (M1 : Int → Heap → Nat),
           I1 (-1 : Int) rec2 ∧
            ∀ (i1 : Int) (h1 : Heap),
             I1 i1 h1 →
              (0 : Nat) = (0 : Nat) ∧
               (h1[n4]? = some (Obj.mapIter none (0 : Nat) { toList := [] : Array Nat } (0 : Nat)) ∧ R (Value.int IntKind.i64 i1) h1 ∨
                ∃ (n5 : Nat),
                 ∃ (n6 : Nat),
                  ∃ (M2 : Array Nat),
                   ∃ (n7 : Nat),
                    ∃ (x2 : Array MapEntry),
                     ∃ (n8 : Nat),
                      h1[n4]? = some (Obj.mapIter (some n5) n6 M2 n7) ∧
                       h1[n5]? = some (Obj.map x2 n8) ∧
                        (Array.isEmpty M2 = true ∨ Array.isEmpty x2 = true ∨ ∃ (x3 : MapEntry), x3 ∈ x2.1 ∧ MapEntry.born x3 < n7) ∧
                         (∀ (x4 : MapEntry),
                           x4 ∈ x2.1 ∧ Array.contains M2 (MapEntry.born x4) = false →
                            ∀ (h2 : Heap),
                             h2 = Array.setIfInBounds h1 n4 (Obj.mapIter (some n5) n6 (Array.push M2 (MapEntry.born x4)) n8) →
                              (0 : Nat) = (0 : Nat) ∧
                               ∃ (n9 : Nat),
                                ∃ (n10 : Nat),
                                 ∃ (M3 : Array Nat),
                                  ∃ (n11 : Nat),
                                   ∃ (x5 : Array MapEntry),
                                    ∃ (n12 : Nat),
                                     ∃ (x6 : MapEntry),
                                      h2[n4]? = some (Obj.mapIter (some n9) n10 M3 n11) ∧
                                       Array.back? M3 = some n12 ∧
                                        h2[n9]? = some (Obj.map x5 n11) ∧
                                         Array.find? (fun (x7 : MapEntry) => MapEntry.born x7 == n12) x5 = some x6 ∧
                                          match MapEntry.val x6 with
                                          | Value.pointer p1 =>
                                           match p1 with
                                           | some a1 =>
                                            ∃ (i2 : Int),
                                             cellAt h2 (Addr.add a1 (2 : Nat)) = some (Value.int IntKind.i64 i2) ∧
                                              (decide (i2 > (0 : Int)) = true → I1 i1 h2 ∧ M1 i1 h2 < M1 i1 h1) ∧
                                               (decide (i2 > (0 : Int)) = false →
                                                (decide (i1 ≥ (0 : Int)) = true →
                                                  ∃ (m3 : Option Nat),
                                                   cellAt h2 { block := q0, off := (2 : Nat) : Addr } = some (Value.map m3) ∧
                                                    ∃ (x8 : Array MapEntry),
                                                     mapIs h2 m3 x8 ∧
                                                      keysOK (Value.int IntKind.i64 i1) x8 ∧
                                                       (∀ (v2 : Value),
                                                         mget (Value.int IntKind.i64 i1) x8 = some v2 →
                                                          ∃ (p3 : Option Addr),
                                                           v2 = Value.pointer p3 ∧
                                                            match p3 with
                                                            | some a2 =>
                                                             ∃ (i3 : Int),
                                                              cellAt h2 (Addr.add a2 (3 : Nat)) = some (Value.int IntKind.i64 i3) ∧
                                                               match MapEntry.val x6 with
                                                               | Value.pointer p4 =>
                                                                match p4 with
                                                                | some a3 =>
                                                                 ∃ (i4 : Int),
                                                                  cellAt h2 (Addr.add a3 (3 : Nat)) = some (Value.int IntKind.i64 i4) ∧
                                                                   (decide (i3 < i4) = true → I1 i1 h2 ∧ M1 i1 h2 < M1 i1 h1) ∧
                                                                    (decide (i3 < i4) = false →
                                                                     (match MapEntry.key x6 with
                                                                      | Value.int x9 i5 =>
                                                                       match
                                                                        match IntKind.i64, x9 with
                                                                        | IntKind.i8, IntKind.i8 => true
                                                                        | IntKind.i16, IntKind.i16 => true
                                                                        | IntKind.i32, IntKind.i32 => true
                                                                        | IntKind.i64, IntKind.i64 => true
                                                                        | IntKind.u8, IntKind.u8 => true
                                                                        | IntKind.u16, IntKind.u16 => true
                                                                        | IntKind.u32, IntKind.u32 => true
                                                                        | IntKind.u64, IntKind.u64 => true
                                                                        | x13, x14 => false with
                                                                       | true => I1 i5 h2
                                                                       | false => False
                                                                      | v3 => False) ∧
                                                                      match MapEntry.key x6 with
                                                                      | Value.int x17 i6 =>
                                                                       match
                                                                        match IntKind.i64, x17 with
                                                                        | IntKind.i8, IntKind.i8 => true
                                                                        | IntKind.i16, IntKind.i16 => true
                                                                        | IntKind.i32, IntKind.i32 => true
                                                                        | IntKind.i64, IntKind.i64 => true
                                                                        | IntKind.u8, IntKind.u8 => true
                                                                        | IntKind.u16, IntKind.u16 => true
                                                                        | IntKind.u32, IntKind.u32 => true
                                                                        | IntKind.u64, IntKind.u64 => true
                                                                        | x, x_1 => false with
                                                                       | true => M1 i6 h2 < M1 i1 h1
                                                                       | false => False
                                                                      | x => False)
                                                                | none => False
                                                               | Value.func (Fn.func x19) x20 x21 => False
                                                               | x => False
                                                            | none => False) ∧
                                                        (mget (Value.int IntKind.i64 i1) x8 = none → False)) ∧
                                                 (decide (i1 ≥ (0 : Int)) = false →
                                                  (match MapEntry.key x6 with
                                                   | Value.int x22 i7 =>
                                                    match
                                                     match IntKind.i64, x22 with
                                                     | IntKind.i8, IntKind.i8 => true
                                                     | IntKind.i16, IntKind.i16 => true
                                                     | IntKind.i32, IntKind.i32 => true
                                                     | IntKind.i64, IntKind.i64 => true
                                                     | IntKind.u8, IntKind.u8 => true
                                                     | IntKind.u16, IntKind.u16 => true
                                                     | IntKind.u32, IntKind.u32 => true
                                                     | IntKind.u64, IntKind.u64 => true
                                                     | x, x_1 => false with
                                                    | true => I1 i7 h2
                                                    | false => False
                                                   | x => False) ∧
                                                   match MapEntry.key x6 with
                                                   | Value.int x24 i8 =>
                                                    match
                                                     match IntKind.i64, x24 with
                                                     | IntKind.i8, IntKind.i8 => true
                                                     | IntKind.i16, IntKind.i16 => true
                                                     | IntKind.i32, IntKind.i32 => true
                                                     | IntKind.i64, IntKind.i64 => true
                                                     | IntKind.u8, IntKind.u8 => true
                                                     | IntKind.u16, IntKind.u16 => true
                                                     | IntKind.u32, IntKind.u32 => true
                                                     | IntKind.u64, IntKind.u64 => true
                                                     | x, x_1 => false with
                                                    | true => M1 i8 h2 < M1 i1 h1
                                                    | false => False
                                                   | x => False))
                                           | none => False
                                          | Value.func (Fn.func x26) x27 x28 => False
                                          | x => False) ∧
                          ((∀ (x29 : MapEntry), x29 ∈ x2.1 → Array.contains M2 (MapEntry.born x29) = false → n6 ≤ MapEntry.born x29) → R (Value.int IntKind.i64 i1) h1))
  | none =>
   ∀ (n13 : Nat) (rec3 : Array Obj),
    n13 = Array.size h →
     rec3 = Array.push h (Obj.mapIter none (0 : Nat) { toList := [] : Array Nat } (0 : Nat)) →
      ∃ (I2 : Int → Heap → Prop),
       ∃ (M4 : Int → Heap → Nat),
        I2 (-1 : Int) rec3 ∧
         ∀ (i9 : Int) (h3 : Heap),
          I2 i9 h3 →
           (0 : Nat) = (0 : Nat) ∧
            (h3[n13]? = some (Obj.mapIter none (0 : Nat) { toList := [] : Array Nat } (0 : Nat)) ∧ R (Value.int IntKind.i64 i9) h3 ∨
             ∃ (n14 : Nat),
              ∃ (n15 : Nat),
               ∃ (M5 : Array Nat),
                ∃ (n16 : Nat),
                 ∃ (x31 : Array MapEntry),
                  ∃ (n17 : Nat),
                   h3[n13]? = some (Obj.mapIter (some n14) n15 M5 n16) ∧
                    h3[n14]? = some (Obj.map x31 n17) ∧
                     (Array.isEmpty M5 = true ∨ Array.isEmpty x31 = true ∨ ∃ (x32 : MapEntry), x32 ∈ x31.1 ∧ MapEntry.born x32 < n16) ∧
                      (∀ (x33 : MapEntry),
                        x33 ∈ x31.1 ∧ Array.contains M5 (MapEntry.born x33) = false →
                         ∀ (h4 : Heap),
                          h4 = Array.setIfInBounds h3 n13 (Obj.mapIter (some n14) n15 (Array.push M5 (MapEntry.born x33)) n17) →
                           (0 : Nat) = (0 : Nat) ∧
                            ∃ (n18 : Nat),
                             ∃ (n19 : Nat),
                              ∃ (M6 : Array Nat),
                               ∃ (n20 : Nat),
                                ∃ (x34 : Array MapEntry),
                                 ∃ (n21 : Nat),
                                  ∃ (x35 : MapEntry),
                                   h4[n13]? = some (Obj.mapIter (some n18) n19 M6 n20) ∧
                                    Array.back? M6 = some n21 ∧
                                     h4[n18]? = some (Obj.map x34 n20) ∧
                                      Array.find? (fun (x36 : MapEntry) => MapEntry.born x36 == n21) x34 = some x35 ∧
                                       match MapEntry.val x35 with
                                       | Value.pointer p5 =>
                                        match p5 with
                                        | some a4 =>
                                         ∃ (i10 : Int),
                                          cellAt h4 (Addr.add a4 (2 : Nat)) = some (Value.int IntKind.i64 i10) ∧
                                           (decide (i10 > (0 : Int)) = true → I2 i9 h4 ∧ M4 i9 h4 < M4 i9 h3) ∧
                                            (decide (i10 > (0 : Int)) = false →
                                             (decide (i9 ≥ (0 : Int)) = true →
                                               ∃ (m4 : Option Nat),
                                                cellAt h4 { block := q0, off := (2 : Nat) : Addr } = some (Value.map m4) ∧
                                                 ∃ (x37 : Array MapEntry),
                                                  mapIs h4 m4 x37 ∧
                                                   keysOK (Value.int IntKind.i64 i9) x37 ∧
                                                    (∀ (v4 : Value),
                                                      mget (Value.int IntKind.i64 i9) x37 = some v4 →
                                                       ∃ (p6 : Option Addr),
                                                        v4 = Value.pointer p6 ∧
                                                         match p6 with
                                                         | some a5 =>
                                                          ∃ (i11 : Int),
                                                           cellAt h4 (Addr.add a5 (3 : Nat)) = some (Value.int IntKind.i64 i11) ∧
                                                            match MapEntry.val x35 with
                                                            | Value.pointer p7 =>
                                                             match p7 with
                                                             | some a6 =>
                                                              ∃ (i12 : Int),
                                                               cellAt h4 (Addr.add a6 (3 : Nat)) = some (Value.int IntKind.i64 i12) ∧
                                                                (decide (i11 < i12) = true → I2 i9 h4 ∧ M4 i9 h4 < M4 i9 h3) ∧
                                                                 (decide (i11 < i12) = false →
                                                                  (match MapEntry.key x35 with
                                                                   | Value.int x38 i13 =>
                                                                    match
                                                                     match IntKind.i64, x38 with
                                                                     | IntKind.i8, IntKind.i8 => true
                                                                     | IntKind.i16, IntKind.i16 => true
                                                                     | IntKind.i32, IntKind.i32 => true
                                                                     | IntKind.i64, IntKind.i64 => true
                                                                     | IntKind.u8, IntKind.u8 => true
                                                                     | IntKind.u16, IntKind.u16 => true
                                                                     | IntKind.u32, IntKind.u32 => true
                                                                     | IntKind.u64, IntKind.u64 => true
                                                                     | x, x_1 => false with
                                                                    | true => I2 i13 h4
                                                                    | false => False
                                                                   | x => False) ∧
                                                                   match MapEntry.key x35 with
                                                                   | Value.int x40 i14 =>
                                                                    match
                                                                     match IntKind.i64, x40 with
                                                                     | IntKind.i8, IntKind.i8 => true
                                                                     | IntKind.i16, IntKind.i16 => true
                                                                     | IntKind.i32, IntKind.i32 => true
                                                                     | IntKind.i64, IntKind.i64 => true
                                                                     | IntKind.u8, IntKind.u8 => true
                                                                     | IntKind.u16, IntKind.u16 => true
                                                                     | IntKind.u32, IntKind.u32 => true
                                                                     | IntKind.u64, IntKind.u64 => true
                                                                     | x, x_1 => false with
                                                                    | true => M4 i14 h4 < M4 i9 h3
                                                                    | false => False
                                                                   | x => False)
                                                             | none => False
                                                            | Value.func (Fn.func x42) x43 x44 => False
                                                            | x => False
                                                         | none => False) ∧
                                                     (mget (Value.int IntKind.i64 i9) x37 = none → False)) ∧
                                              (decide (i9 ≥ (0 : Int)) = false →
                                               (match MapEntry.key x35 with
                                                | Value.int x45 i15 =>
                                                 match
                                                  match IntKind.i64, x45 with
                                                  | IntKind.i8, IntKind.i8 => true
                                                  | IntKind.i16, IntKind.i16 => true
                                                  | IntKind.i32, IntKind.i32 => true
                                                  | IntKind.i64, IntKind.i64 => true
                                                  | IntKind.u8, IntKind.u8 => true
                                                  | IntKind.u16, IntKind.u16 => true
                                                  | IntKind.u32, IntKind.u32 => true
                                                  | IntKind.u64, IntKind.u64 => true
                                                  | x, x_1 => false with
                                                 | true => I2 i15 h4
                                                 | false => False
                                                | x => False) ∧
                                                match MapEntry.key x35 with
                                                | Value.int x47 i16 =>
                                                 match
                                                  match IntKind.i64, x47 with
                                                  | IntKind.i8, IntKind.i8 => true
                                                  | IntKind.i16, IntKind.i16 => true
                                                  | IntKind.i32, IntKind.i32 => true
                                                  | IntKind.i64, IntKind.i64 => true
                                                  | IntKind.u8, IntKind.u8 => true
                                                  | IntKind.u16, IntKind.u16 => true
                                                  | IntKind.u32, IntKind.u32 => true
                                                  | IntKind.u64, IntKind.u64 => true
                                                  | x, x_1 => false with
                                                 | true => M4 i16 h4 < M4 i9 h3
                                                 | false => False
                                                | x => False))
                                        | none => False
                                       | Value.func (Fn.func x49) x50 x51 => False
                                       | x => False) ∧
                       ((∀ (x52 : MapEntry), x52 ∈ x31.1 → Array.contains M5 (MapEntry.born x52) = false → n15 ≤ MapEntry.born x52) → R (Value.int IntKind.i64 i9) h3))

theorem cOldest_call (q0 : Nat) {h : Heap} {R : Value → Heap → Prop} (H : cOldest_vc q0 h R) : CallH Tryz.prog 82 ⟨[.pointer (some ⟨q0, 0, none⟩)]⟩ h R :=
  callH_of_dCode tabOK mixed [(.pointer (some ⟨q0, 0, none⟩), false)] Tryz.func82 (c := bodyC Tryz.f82) (by kernel_rfl) (by kernel_rfl : Tryz.f82.ntmps = 43) rfl
    (Eq.mp (by kernel_rfl : cOldest_vc q0 h R = dCode Tryz.prog T ⟨[], [(3, [(3, .int .i64)])], [], [], []⟩ (bodyC Tryz.f82) none (dEnd T (Tryz.f82.results.toList) R) (startE 43 [(.pointer (some ⟨q0, 0, none⟩), false)]) h) H)

end Go.Proofs.YtfapgccnhonoiaaGreat

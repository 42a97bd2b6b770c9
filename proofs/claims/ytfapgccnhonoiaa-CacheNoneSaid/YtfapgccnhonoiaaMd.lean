/- The conditions of the library's and of the cache's functions, as text. -/
import Derived.Test.YtfapgccnhonoiaaMc

/- The conditions of some functions of the program, as text (printed by a tool of this claim's author, wip/tool), and that they are enough for a call. -/
set_option linter.unusedVariables false
namespace Go.Proofs.Ytfapgccnhonoiaa

/-- slices.Clone[[]byte,byte] -/
def sClone_vc (q0p : Option Addr) (q0l : Nat) (q0c : Nat) (h : Heap) (R : Value → Heap → Prop) : Prop :=
  (Option.isNone q0p = true → R (Value.slice none 0 0) h) ∧
  (Option.isNone q0p = false →
    True ∧
      ∀ (n1 : Nat) (rec1 : Array Obj),
        n1 = Array.size h →
          rec1 = Array.push h (Obj.cells { toList := [] } 5 (0, 0)) →
            ∃ (l1 : List Value),
              srcIs rec1 1 q0l (Value.slice q0p q0l q0c) l1 ∧
                (∀ (v1 : Value), v1 ∈ l1 → isCell v1 = true) ∧
                  List.length l1 = q0l * 1 ∧
                    (0 + q0l ≤ 0 →
                        okRow rec1 { block := n1, off := 0 } (List.length l1) ∧
                          ∀ (h1 : Heap), h1 = updRow rec1 { block := n1, off := 0 } 0 l1 → R (Value.slice (some { block := n1, off := 0 }) (0 + q0l) 0) h1) ∧
                      (0 < 0 + q0l →
                        (0 + q0l) * 1 ≤ 70368744177664 ∧
                          0 < 1 ∧
                            ∃ (l2 : List Value),
                              srcIs rec1 1 0 (Value.slice (some { block := n1, off := 0 }) 0 0) l2 ∧
                                ∀ (n2 : Nat),
                                  0 + q0l ≤ n2 →
                                    ∀ (n3 : Nat) (rec2 : Array Obj),
                                      n3 = Array.size rec1 →
                                        rec2 = Array.push rec1 (Obj.cells { toList := List.append (List.append l2 l1) (zrow [Value.int IntKind.u8 (Int.ofNat 0)] (n2 - (0 + q0l))) } 5 (0, 0)) →
                                          R (Value.slice (some { block := n3, off := 0 }) (0 + q0l) n2) rec2))

theorem sClone_call (q0p : Option Addr) (q0l : Nat) (q0c : Nat) {h : Heap} {R : Value → Heap → Prop} (H : sClone_vc q0p q0l q0c h R) : CallH Try.prog 32 ⟨[.slice q0p q0l q0c]⟩ h R :=
  callH_of_dCode tabOK mixed [(.slice q0p q0l q0c, false)] Try.func32 (c := bodyC Try.f32) (by kernel_rfl) (by kernel_rfl : Try.f32.ntmps = 8) rfl
    (Eq.mp (by kernel_rfl : sClone_vc q0p q0l q0c h R = dCode Try.prog T ⟨[], [], [], [], []⟩ (bodyC Try.f32) none (dEnd T (Try.f32.results.toList) R) (startE 8 [(.slice q0p q0l q0c, false)]) h) H)

/-- slices.SortedFunc[int] -/
def sSortedFunc_vc (q0 : Value) (q1 : Value) (h : Heap) (R : Value → Heap → Prop) : Prop :=
  entersB Try.prog 50 = true ∧
  CallH Try.prog 50 { toList := [q0] } h fun (v1 : Value) (h1 : Heap) =>
    ∃ (p1 : Option Addr),
      ∃ (n1 : Nat),
        ∃ (n2 : Nat),
          v1 = Value.slice p1 n1 n2 ∧
            entersB Try.prog 51 = true ∧ CallH Try.prog 51 { toList := [Value.slice p1 n1 n2, q1] } h1 fun (v2 : Value) (h2 : Heap) => v2 = Value.tuple { toList := [] } ∧ R (Value.slice p1 n1 n2) h2

theorem sSortedFunc_call (q0 : Value) (q1 : Value) {h : Heap} {R : Value → Heap → Prop} (H : sSortedFunc_vc q0 q1 h R) : CallH Try.prog 36 ⟨[q0, q1]⟩ h R :=
  callH_of_dCode tabOK mixed [(q0, false), (q1, false)] Try.func36 (c := bodyC Try.f36) (by kernel_rfl) (by kernel_rfl : Try.f36.ntmps = 12) rfl
    (Eq.mp (by kernel_rfl : sSortedFunc_vc q0 q1 h R = dCode Try.prog T ⟨[], [], [], [], []⟩ (bodyC Try.f36) none (dEnd T (Try.f36.results.toList) R) (startE 12 [(q0, false), (q1, false)]) h) H)

/-- maps.Keys[map[int]*incipit/cache.held,int,*incipit/cache.held] -/
def mKeys_vc (q0 : Option Nat) (h : Heap) (R : Value → Heap → Prop) : Prop :=
  ∀ (n1 : Nat) (rec1 : Array Obj),
  n1 = Array.size h →
    rec1 = Array.push h (Obj.cells { toList := [Value.map q0] } 51 (0, 0)) → R (Value.func (Fn.func 52) { toList := [] } { toList := [Value.pointer (some { block := n1, off := 0 })] }) rec1

theorem mKeys_call (q0 : Option Nat) {h : Heap} {R : Value → Heap → Prop} (H : mKeys_vc q0 h R) : CallH Try.prog 37 ⟨[.map q0]⟩ h R :=
  callH_of_dCode tabOK mixed [(.map q0, false)] Try.func37 (c := bodyC Try.f37) (by kernel_rfl) (by kernel_rfl : Try.f37.ntmps = 4) rfl
    (Eq.mp (by kernel_rfl : mKeys_vc q0 h R = dCode Try.prog T ⟨[], [], [], [], []⟩ (bodyC Try.f37) none (dEnd T (Try.f37.results.toList) R) (startE 4 [(.map q0, false)]) h) H)

/-- slices.Sorted[int] -/
def sSorted_vc (q0 : Value) (h : Heap) (R : Value → Heap → Prop) : Prop :=
  entersB Try.prog 50 = true ∧
  CallH Try.prog 50 { toList := [q0] } h fun (v1 : Value) (h1 : Heap) =>
    ∃ (p1 : Option Addr),
      ∃ (n1 : Nat),
        ∃ (n2 : Nat),
          v1 = Value.slice p1 n1 n2 ∧
            entersB Try.prog 54 = true ∧ CallH Try.prog 54 { toList := [Value.slice p1 n1 n2] } h1 fun (v2 : Value) (h2 : Heap) => v2 = Value.tuple { toList := [] } ∧ R (Value.slice p1 n1 n2) h2

theorem sSorted_call (q0 : Value) {h : Heap} {R : Value → Heap → Prop} (H : sSorted_vc q0 h R) : CallH Try.prog 47 ⟨[q0]⟩ h R :=
  callH_of_dCode tabOK mixed [(q0, false)] Try.func47 (c := bodyC Try.f47) (by kernel_rfl) (by kernel_rfl : Try.f47.ntmps = 9) rfl
    (Eq.mp (by kernel_rfl : sSorted_vc q0 h R = dCode Try.prog T ⟨[], [], [], [], []⟩ (bodyC Try.f47) none (dEnd T (Try.f47.results.toList) R) (startE 9 [(q0, false)]) h) H)

/-- slices.Collect[int] -/
def sCollect_vc (q0 : Value) (h : Heap) (R : Value → Heap → Prop) : Prop :=
  entersB Try.prog 56 = true ∧
  CallH Try.prog 56 { toList := [Value.slice none 0 0, q0] } h fun (v1 : Value) (h1 : Heap) => ∃ (p1 : Option Addr), ∃ (n1 : Nat), ∃ (n2 : Nat), v1 = Value.slice p1 n1 n2 ∧ R (Value.slice p1 n1 n2) h1

theorem sCollect_call (q0 : Value) {h : Heap} {R : Value → Heap → Prop} (H : sCollect_vc q0 h R) : CallH Try.prog 50 ⟨[q0]⟩ h R :=
  callH_of_dCode tabOK mixed [(q0, false)] Try.func50 (c := bodyC Try.f50) (by kernel_rfl) (by kernel_rfl : Try.f50.ntmps = 5) rfl
    (Eq.mp (by kernel_rfl : sCollect_vc q0 h R = dCode Try.prog T ⟨[], [], [], [], []⟩ (bodyC Try.f50) none (dEnd T (Try.f50.results.toList) R) (startE 5 [(q0, false)]) h) H)

/-- slices.SortFunc[[]int,int] -/
def sSortFunc_vc (q0p : Option Addr) (q0l : Nat) (q0c : Nat) (q1 : Value) (h : Heap) (R : Value → Heap → Prop) : Prop :=
  entersB Try.prog 58 = true ∧
  CallH Try.prog 58 { toList := [Value.int IntKind.u64 (IntKind.wrap IntKind.u64 (↑q0l : Int))] } h fun (v1 : Value) (h1 : Heap) =>
    ∃ (i1 : Int),
      v1 = Value.int IntKind.i64 i1 ∧
        entersB Try.prog 57 = true ∧
          CallH Try.prog 57 { toList := [Value.slice q0p q0l q0c, Value.int IntKind.i64 0, Value.int IntKind.i64 (↑q0l : Int), Value.int IntKind.i64 i1, q1] } h1 fun (v2 : Value) (h2 : Heap) =>
            v2 = Value.tuple { toList := [] } ∧ R (Value.tuple { toList := [] }) h2

theorem sSortFunc_call (q0p : Option Addr) (q0l : Nat) (q0c : Nat) (q1 : Value) {h : Heap} {R : Value → Heap → Prop} (H : sSortFunc_vc q0p q0l q0c q1 h R) : CallH Try.prog 51 ⟨[.slice q0p q0l q0c, q1]⟩ h R :=
  callH_of_dCode tabOK mixed [(.slice q0p q0l q0c, false), (q1, false)] Try.func51 (c := bodyC Try.f51) (by kernel_rfl) (by kernel_rfl : Try.f51.ntmps = 14) rfl
    (Eq.mp (by kernel_rfl : sSortFunc_vc q0p q0l q0c q1 h R = dCode Try.prog T ⟨[], [], [], [], []⟩ (bodyC Try.f51) none (dEnd T (Try.f51.results.toList) R) (startE 14 [(.slice q0p q0l q0c, false), (q1, false)]) h) H)

/-- maps.Keys[map[int]*incipit/cache.held,int,*incipit/cache.held]$1 -/
def mKeys1_vc (q0 : Value) (b1 : Nat) (h : Heap) (R : Value → Heap → Prop) : Prop :=
  ∃ (m1 : Option Nat),
  cellAt h { block := b1, off := 0 } = some (Value.map m1) ∧
    match m1 with
    | some n1 =>
      ∃ (x1 : Array MapEntry),
        ∃ (n2 : Nat),
          h[n1]? = some (Obj.map x1 n2) ∧
            ∀ (n4 : Nat) (rec2 : Array Obj),
              n4 = Array.size h →
                rec2 = Array.push h (Obj.mapIter (some n1) n2 { toList := [] } n2) →
                  ∃ (I1 : Heap → Prop),
                    ∃ (M1 : Heap → Nat),
                      I1 rec2 ∧
                        ∀ (h1 : Heap),
                          I1 h1 →
                            0 = 0 ∧
                              (h1[n4]? = some (Obj.mapIter none 0 { toList := [] } 0) ∧ R (Value.tuple { toList := [] }) h1 ∨
                                ∃ (n5 : Nat),
                                  ∃ (n6 : Nat),
                                    ∃ (M2 : Array Nat),
                                      ∃ (n7 : Nat),
                                        ∃ (x2 : Array MapEntry),
                                          ∃ (n8 : Nat),
                                            h1[n4]? = some (Obj.mapIter (some n5) n6 M2 n7) ∧
                                              h1[n5]? = some (Obj.map x2 n8) ∧
                                                (Array.isEmpty M2 = true ∨ Array.isEmpty x2 = true ∨ ∃ (x3 : MapEntry), x3 ∈ x2.1 ∧ MapEntry.born x3 < n7) ∧
                                                  (∀ (x4 : MapEntry),
                                                      x4 ∈ x2.1 ∧ Array.contains M2 (MapEntry.born x4) = false →
                                                        ∀ (h2 : Heap),
                                                          h2 = Array.setIfInBounds h1 n4 (Obj.mapIter (some n5) n6 (Array.push M2 (MapEntry.born x4)) n8) →
                                                            0 = 0 ∧
                                                              ∃ (n9 : Nat),
                                                                ∃ (n10 : Nat),
                                                                  ∃ (M3 : Array Nat),
                                                                    ∃ (n11 : Nat),
                                                                      ∃ (x5 : Array MapEntry),
                                                                        ∃ (n12 : Nat),
                                                                          ∃ (x6 : MapEntry),
                                                                            h2[n4]? = some (Obj.mapIter (some n9) n10 M3 n11) ∧
                                                                              Array.back? M3 = some n12 ∧
                                                                                h2[n9]? = some (Obj.map x5 n11) ∧
                                                                                  Array.find? (fun (x7 : MapEntry) => MapEntry.born x7 == n12) x5 = some x6 ∧
                                                                                    match q0 with
                                                                                    | Value.func (Fn.func x8) x9 x10 =>
                                                                                      entersB Try.prog x8 = true ∧
                                                                                        CallH Try.prog x8 { toList := List.append (List.append x9.1 [MapEntry.key x6]) x10.1 } h2
                                                                                          fun (v2 : Value) (h3 : Heap) =>
                                                                                          ∃ (t1 : Bool),
                                                                                            v2 = Value.bool t1 ∧
                                                                                              ((!t1) = true → R (Value.tuple { toList := [] }) h3) ∧ ((!t1) = false → I1 h3 ∧ M1 h3 < M1 h1)
                                                                                    | v3 =>
                                                                                      CallV Try.prog v3 { toList := [MapEntry.key x6] } h2 fun (v4 : Value) (h4 : Heap) =>
                                                                                        ∃ (t2 : Bool),
                                                                                          v4 = Value.bool t2 ∧
                                                                                            ((!t2) = true → R (Value.tuple { toList := [] }) h4) ∧ ((!t2) = false → I1 h4 ∧ M1 h4 < M1 h1)) ∧
                                                    ((∀ (x11 : MapEntry), x11 ∈ x2.1 → Array.contains M2 (MapEntry.born x11) = false → n6 ≤ MapEntry.born x11) → R (Value.tuple { toList := [] }) h1))
    | none =>
      ∀ (n13 : Nat) (rec3 : Array Obj),
        n13 = Array.size h →
          rec3 = Array.push h (Obj.mapIter none 0 { toList := [] } 0) →
            ∃ (I2 : Heap → Prop),
              ∃ (M4 : Heap → Nat),
                I2 rec3 ∧
                  ∀ (h5 : Heap),
                    I2 h5 →
                      0 = 0 ∧
                        (h5[n13]? = some (Obj.mapIter none 0 { toList := [] } 0) ∧ R (Value.tuple { toList := [] }) h5 ∨
                          ∃ (n14 : Nat),
                            ∃ (n15 : Nat),
                              ∃ (M5 : Array Nat),
                                ∃ (n16 : Nat),
                                  ∃ (x13 : Array MapEntry),
                                    ∃ (n17 : Nat),
                                      h5[n13]? = some (Obj.mapIter (some n14) n15 M5 n16) ∧
                                        h5[n14]? = some (Obj.map x13 n17) ∧
                                          (Array.isEmpty M5 = true ∨ Array.isEmpty x13 = true ∨ ∃ (x14 : MapEntry), x14 ∈ x13.1 ∧ MapEntry.born x14 < n16) ∧
                                            (∀ (x15 : MapEntry),
                                                x15 ∈ x13.1 ∧ Array.contains M5 (MapEntry.born x15) = false →
                                                  ∀ (h6 : Heap),
                                                    h6 = Array.setIfInBounds h5 n13 (Obj.mapIter (some n14) n15 (Array.push M5 (MapEntry.born x15)) n17) →
                                                      0 = 0 ∧
                                                        ∃ (n18 : Nat),
                                                          ∃ (n19 : Nat),
                                                            ∃ (M6 : Array Nat),
                                                              ∃ (n20 : Nat),
                                                                ∃ (x16 : Array MapEntry),
                                                                  ∃ (n21 : Nat),
                                                                    ∃ (x17 : MapEntry),
                                                                      h6[n13]? = some (Obj.mapIter (some n18) n19 M6 n20) ∧
                                                                        Array.back? M6 = some n21 ∧
                                                                          h6[n18]? = some (Obj.map x16 n20) ∧
                                                                            Array.find? (fun (x18 : MapEntry) => MapEntry.born x18 == n21) x16 = some x17 ∧
                                                                              match q0 with
                                                                              | Value.func (Fn.func x19) x20 x21 =>
                                                                                entersB Try.prog x19 = true ∧
                                                                                  CallH Try.prog x19 { toList := List.append (List.append x20.1 [MapEntry.key x17]) x21.1 } h6
                                                                                    fun (v5 : Value) (h7 : Heap) =>
                                                                                    ∃ (t3 : Bool),
                                                                                      v5 = Value.bool t3 ∧
                                                                                        ((!t3) = true → R (Value.tuple { toList := [] }) h7) ∧ ((!t3) = false → I2 h7 ∧ M4 h7 < M4 h5)
                                                                              | v6 =>
                                                                                CallV Try.prog v6 { toList := [MapEntry.key x17] } h6 fun (v7 : Value) (h8 : Heap) =>
                                                                                  ∃ (t4 : Bool),
                                                                                    v7 = Value.bool t4 ∧
                                                                                      ((!t4) = true → R (Value.tuple { toList := [] }) h8) ∧ ((!t4) = false → I2 h8 ∧ M4 h8 < M4 h5)) ∧
                                              ((∀ (x22 : MapEntry), x22 ∈ x13.1 → Array.contains M5 (MapEntry.born x22) = false → n15 ≤ MapEntry.born x22) → R (Value.tuple { toList := [] }) h5))

theorem mKeys1_call (q0 : Value) (b1 : Nat) {h : Heap} {R : Value → Heap → Prop} (H : mKeys1_vc q0 b1 h R) : CallH Try.prog 52 ⟨[q0, .pointer (some ⟨b1, 0, none⟩)]⟩ h R :=
  callH_of_dCode tabOK mixed [(q0, false), (.pointer (some ⟨b1, 0, none⟩), false)] Try.func52 (c := bodyC Try.f52) (by kernel_rfl) (by kernel_rfl : Try.f52.ntmps = 14) rfl
    (Eq.mp (by kernel_rfl : mKeys1_vc q0 b1 h R = dCode Try.prog T ⟨[], [(1, []), (1, []), (1, [])], [], [], []⟩ (bodyC Try.f52) none (dEnd T (Try.f52.results.toList) R) (startE 14 [(q0, false), (.pointer (some ⟨b1, 0, none⟩), false)]) h) H)

/-- slices.Sort[[]int,int] -/
def sSort_vc (q0p : Option Addr) (q0l : Nat) (q0c : Nat) (h : Heap) (R : Value → Heap → Prop) : Prop :=
  entersB Try.prog 58 = true ∧
  CallH Try.prog 58 { toList := [Value.int IntKind.u64 (IntKind.wrap IntKind.u64 (↑q0l : Int))] } h fun (v1 : Value) (h1 : Heap) =>
    ∃ (i1 : Int),
      v1 = Value.int IntKind.i64 i1 ∧
        entersB Try.prog 59 = true ∧
          CallH Try.prog 59 { toList := [Value.slice q0p q0l q0c, Value.int IntKind.i64 0, Value.int IntKind.i64 (↑q0l : Int), Value.int IntKind.i64 i1] } h1 fun (v2 : Value) (h2 : Heap) =>
            v2 = Value.tuple { toList := [] } ∧ R (Value.tuple { toList := [] }) h2

theorem sSort_call (q0p : Option Addr) (q0l : Nat) (q0c : Nat) {h : Heap} {R : Value → Heap → Prop} (H : sSort_vc q0p q0l q0c h R) : CallH Try.prog 54 ⟨[.slice q0p q0l q0c]⟩ h R :=
  callH_of_dCode tabOK mixed [(.slice q0p q0l q0c, false)] Try.func54 (c := bodyC Try.f54) (by kernel_rfl) (by kernel_rfl : Try.f54.ntmps = 11) rfl
    (Eq.mp (by kernel_rfl : sSort_vc q0p q0l q0c h R = dCode Try.prog T ⟨[], [], [], [], []⟩ (bodyC Try.f54) none (dEnd T (Try.f54.results.toList) R) (startE 11 [(.slice q0p q0l q0c, false)]) h) H)

/-- slices.AppendSeq[[]int,int] -/
def sAppendSeq_vc (q0p : Option Addr) (q0l : Nat) (q0c : Nat) (b1 : Nat) (h : Heap) (R : Value → Heap → Prop) : Prop :=
  ∀ (n1 : Nat) (rec1 : Array Obj),
  n1 = Array.size h →
    rec1 = Array.push h (Obj.cells { toList := [Value.slice q0p q0l q0c] } 40 (0, 0)) →
      entersB Try.prog 52 = true ∧
        ∀ (n2 n3 : Nat) (rec2 : LoopState → Option Code → Obj) (h1 : Heap),
          n3 = Array.size rec1 →
            n2 = Array.size rec1 + 1 →
              (∀ (x1 : LoopState) (x2 : Option Code), notCells (rec2 x1 x2)) →
                h1 = Array.push (Array.push rec1 (Obj.deferred (some []))) (rec2 LoopState.ready none) →
                  (∀ (i1 : Int) (h2 : Heap) (I1 : Value → Heap → Prop),
                      h2[n2]? = some (rec2 LoopState.ready none) →
                        (h2[n2]? = some (rec2 LoopState.ready none) ∧
                            ∀ (h3 : Heap),
                              h3 = Array.setIfInBounds h2 n2 (rec2 LoopState.busy none) →
                                ∃ (p1 : Option Addr),
                                  ∃ (n5 : Nat),
                                    ∃ (n6 : Nat),
                                      cellAt h3 { block := n1, off := 0 } = some (Value.slice p1 n5 n6) ∧
                                        (0 + 1 = 1 ∧ True) ∧
                                          ∀ (n7 : Nat) (rec4 : Array Obj),
                                            n7 = Array.size h3 →
                                              rec4 = Array.push h3 (Obj.cells { toList := [Value.int IntKind.i64 i1] } 3) →
                                                ∃ (l1 : List Value),
                                                  srcIs rec4 1 1 (Value.slice (some { block := n7, off := 0 }) 1 1) l1 ∧
                                                    (∀ (v1 : Value), v1 ∈ l1 → isCell v1 = true) ∧
                                                      List.length l1 = 1 ∧
                                                        (n5 + 1 ≤ n6 →
                                                            match p1 with
                                                            | some a1 =>
                                                              okRow rec4 (Addr.add a1 (n5 * 1)) (List.length l1) ∧
                                                                ∀ (h4 : Heap),
                                                                  h4 = updRow rec4 (Addr.add a1 (n5 * 1)) 0 l1 →
                                                                    true = true ∧
                                                                      okAt h4 { block := n1, off := 0 } ∧
                                                                        ∀ (h5 : Heap),
                                                                          h5 = upd h4 { block := n1, off := 0 } (Value.slice p1 (n5 + 1) n6) →
                                                                            h5[n2]? = some (rec2 LoopState.busy none) ∧
                                                                              ∀ (h6 : Heap), h6 = Array.setIfInBounds h5 n2 (rec2 LoopState.ready none) → I1 (Value.bool true) h6
                                                            | none =>
                                                              true = true ∧
                                                                okAt rec4 { block := n1, off := 0 } ∧
                                                                  ∀ (h7 : Heap),
                                                                    h7 = upd rec4 { block := n1, off := 0 } (Value.slice p1 (n5 + 1) n6) →
                                                                      h7[n2]? = some (rec2 LoopState.busy none) ∧
                                                                        ∀ (h8 : Heap), h8 = Array.setIfInBounds h7 n2 (rec2 LoopState.ready none) → I1 (Value.bool true) h8) ∧
                                                          (n6 < n5 + 1 →
                                                            (n5 + 1) * 8 ≤ 70368744177664 ∧
                                                              0 < 8 ∧
                                                                ∃ (l2 : List Value),
                                                                  srcIs rec4 1 n5 (Value.slice p1 n5 n6) l2 ∧
                                                                    ∀ (n8 : Nat),
                                                                      n5 + 1 ≤ n8 →
                                                                        ∀ (n9 : Nat) (rec5 : Array Obj),
                                                                          n9 = Array.size rec4 →
                                                                            rec5 =
                                                                                Array.push rec4
                                                                                  (Obj.cells { toList := List.append (List.append l2 l1) (zrow [Value.int IntKind.i64 (Int.ofNat 0)] (n8 - (n5 + 1))) }
                                                                                    3) →
                                                                              true = true ∧
                                                                                okAt rec5 { block := n1, off := 0 } ∧
                                                                                  ∀ (h9 : Heap),
                                                                                    h9 = upd rec5 { block := n1, off := 0 } (Value.slice (some { block := n9, off := 0 }) (n5 + 1) n8) →
                                                                                      h9[n2]? = some (rec2 LoopState.busy none) ∧
                                                                                        ∀ (h10 : Heap), h10 = Array.setIfInBounds h9 n2 (rec2 LoopState.ready none) → I1 (Value.bool true) h10)) →
                          CallV Try.prog (yieldV n2) { toList := [Value.int IntKind.i64 i1] } h2 I1) →
                    CallH Try.prog 52 { toList := [yieldV n2, Value.pointer (some { block := b1, off := 0 })] } h1 fun (v2 : Value) (h11 : Heap) =>
                      h11[n2]? = some (rec2 LoopState.ready none) ∧
                        ∀ (h12 : Heap),
                          h12 = Array.setIfInBounds h11 n2 (rec2 LoopState.exhausted none) →
                            ∃ (p3 : Option Addr),
                              ∃ (n10 : Nat),
                                ∃ (n11 : Nat),
                                  cellAt h12 { block := n1, off := 0 } = some (Value.slice p3 n10 n11) ∧
                                    h12[n3]? = some (Obj.deferred (some [])) ∧ ∀ (h13 : Heap), h13 = Array.setIfInBounds h12 n3 (Obj.deferred none) → R (Value.slice p3 n10 n11) h13

theorem sAppendSeq_call (q0p : Option Addr) (q0l : Nat) (q0c : Nat) (b1 : Nat) {h : Heap} {R : Value → Heap → Prop} (H : sAppendSeq_vc q0p q0l q0c b1 h R) : CallH Try.prog 56 ⟨[.slice q0p q0l q0c, .func (.func 52) #[] #[.pointer (some ⟨b1, 0, none⟩)]]⟩ h R :=
  callH_of_dCode tabOK mixed [(.slice q0p q0l q0c, false), (.func (.func 52) #[] #[.pointer (some ⟨b1, 0, none⟩)], false)] Try.func56 (c := bodyC Try.f56) (by kernel_rfl) (by kernel_rfl : Try.f56.ntmps = 13) rfl
    (Eq.mp (by kernel_rfl : sAppendSeq_vc q0p q0l q0c b1 h R = dCode Try.prog T ⟨[], [], [], [(3, [.int .i64]), (3, [.int .i64]), (3, [.int .i64])], []⟩ (bodyC Try.f56) none (dEnd T (Try.f56.results.toList) R) (startE 13 [(.slice q0p q0l q0c, false), (.func (.func 52) #[] #[.pointer (some ⟨b1, 0, none⟩)], false)]) h) H)

/-- cmp.Less[int] -/
def cmpLess_vc (q0 : Int) (q1 : Int) (h : Heap) (R : Value → Heap → Prop) : Prop :=
  entersB Try.prog 87 = true ∧
  CallH Try.prog 87 { toList := [Value.int IntKind.i64 q0] } h fun (v1 : Value) (h1 : Heap) =>
    ∃ (t1 : Bool),
      v1 = Value.bool t1 ∧
        (t1 = true →
            entersB Try.prog 87 = true ∧
              CallH Try.prog 87 { toList := [Value.int IntKind.i64 q1] } h1 fun (v2 : Value) (h2 : Heap) =>
                ∃ (t2 : Bool), v2 = Value.bool t2 ∧ ((!t2) = true → R (Value.bool true) h2) ∧ ((!t2) = false → R (Value.bool (decide (q0 < q1))) h2)) ∧
          (t1 = false → R (Value.bool (decide (q0 < q1))) h1)

theorem cmpLess_call (q0 : Int) (q1 : Int) {h : Heap} {R : Value → Heap → Prop} (H : cmpLess_vc q0 q1 h R) : CallH Try.prog 76 ⟨[.int .i64 q0, .int .i64 q1]⟩ h R :=
  callH_of_dCode tabOK mixed [(.int .i64 q0, false), (.int .i64 q1, false)] Try.func76 (c := bodyC Try.f76) (by kernel_rfl) (by kernel_rfl : Try.f76.ntmps = 17) rfl
    (Eq.mp (by kernel_rfl : cmpLess_vc q0 q1 h R = dCode Try.prog T ⟨[], [], [], [], []⟩ (bodyC Try.f76) none (dEnd T (Try.f76.results.toList) R) (startE 17 [(.int .i64 q0, false), (.int .i64 q1, false)]) h) H)

/-- cmp.isNaN[int] -/
def isNaN_vc (q0 : Int) (h : Heap) (R : Value → Heap → Prop) : Prop :=
  R (Value.bool (q0 != q0)) h

theorem isNaN_call (q0 : Int) {h : Heap} {R : Value → Heap → Prop} (H : isNaN_vc q0 h R) : CallH Try.prog 87 ⟨[.int .i64 q0]⟩ h R :=
  callH_of_dCode tabOK mixed [(.int .i64 q0, false)] Try.func87 (c := bodyC Try.f87) (by kernel_rfl) (by kernel_rfl : Try.f87.ntmps = 6) rfl
    (Eq.mp (by kernel_rfl : isNaN_vc q0 h R = dCode Try.prog T ⟨[], [], [], [], []⟩ (bodyC Try.f87) none (dEnd T (Try.f87.results.toList) R) (startE 6 [(.int .i64 q0, false)]) h) H)

/-- slices.insertionSortOrdered[int] -/
def insO_vc (q0p : Option Addr) (q0l : Nat) (q0c : Nat) (q1 : Int) (q2 : Int) (h : Heap) (R : Value → Heap → Prop) : Prop :=
  ∃ (I1 : Int → Heap → Prop),
  ∃ (M1 : Int → Heap → Nat),
    I1 (IntKind.wrap IntKind.i64 (q1 + 1)) h ∧
      ∀ (i1 : Int) (h1 : Heap),
        I1 i1 h1 →
          (decide (i1 < q2) = true →
              ∃ (I2 : Int → Heap → Prop),
                ∃ (M2 : Int → Heap → Nat),
                  I2 i1 h1 ∧
                    ∀ (i2 : Int) (h2 : Heap),
                      I2 i2 h2 →
                        (decide (i2 > q1) = true →
                            match q0p with
                            | some a1 =>
                              (0 ≤ i2 ∧ i2 < (↑q0l : Int)) ∧
                                ∃ (i3 : Int),
                                  cellAt h2 (Addr.add a1 (Int.toNat i2 * 1)) = some (Value.int IntKind.i64 i3) ∧
                                    match q0p with
                                    | some a2 =>
                                      (0 ≤ IntKind.wrap IntKind.i64 (i2 - 1) ∧ IntKind.wrap IntKind.i64 (i2 - 1) < (↑q0l : Int)) ∧
                                        ∃ (i4 : Int),
                                          cellAt h2 (Addr.add a2 (Int.toNat (IntKind.wrap IntKind.i64 (i2 - 1)) * 1)) = some (Value.int IntKind.i64 i4) ∧
                                            entersB Try.prog 76 = true ∧
                                              CallH Try.prog 76 { toList := [Value.int IntKind.i64 i3, Value.int IntKind.i64 i4] } h2 fun (v1 : Value) (h3 : Heap) =>
                                                ∃ (t1 : Bool),
                                                  v1 = Value.bool t1 ∧
                                                    (t1 = true →
                                                        match q0p with
                                                        | some a3 =>
                                                          (0 ≤ IntKind.wrap IntKind.i64 (i2 - 1) ∧ IntKind.wrap IntKind.i64 (i2 - 1) < (↑q0l : Int)) ∧
                                                            ∃ (i5 : Int),
                                                              cellAt h3 (Addr.add a3 (Int.toNat (IntKind.wrap IntKind.i64 (i2 - 1)) * 1)) = some (Value.int IntKind.i64 i5) ∧
                                                                match q0p with
                                                                | some a4 =>
                                                                  (0 ≤ i2 ∧ i2 < (↑q0l : Int)) ∧
                                                                    ∃ (i6 : Int),
                                                                      cellAt h3 (Addr.add a4 (Int.toNat i2 * 1)) = some (Value.int IntKind.i64 i6) ∧
                                                                        match q0p with
                                                                        | some a5 =>
                                                                          (0 ≤ i2 ∧ i2 < (↑q0l : Int)) ∧
                                                                            true = true ∧
                                                                              okAt h3 (Addr.add a5 (Int.toNat i2 * 1)) ∧
                                                                                ∀ (h4 : Heap),
                                                                                  h4 = upd h3 (Addr.add a5 (Int.toNat i2 * 1)) (Value.int IntKind.i64 i5) →
                                                                                    match q0p with
                                                                                    | some a6 =>
                                                                                      (0 ≤ IntKind.wrap IntKind.i64 (i2 - 1) ∧ IntKind.wrap IntKind.i64 (i2 - 1) < (↑q0l : Int)) ∧
                                                                                        true = true ∧
                                                                                          okAt h4 (Addr.add a6 (Int.toNat (IntKind.wrap IntKind.i64 (i2 - 1)) * 1)) ∧
                                                                                            ∀ (h5 : Heap),
                                                                                              h5 = upd h4 (Addr.add a6 (Int.toNat (IntKind.wrap IntKind.i64 (i2 - 1)) * 1)) (Value.int IntKind.i64 i6) →
                                                                                                I2 (IntKind.wrap IntKind.i64 (i2 - 1)) h5 ∧ M2 (IntKind.wrap IntKind.i64 (i2 - 1)) h5 < M2 i2 h2
                                                                                    | none => False
                                                                        | none => False
                                                                | none => False
                                                        | none => False) ∧
                                                      (t1 = false → I1 (IntKind.wrap IntKind.i64 (i1 + 1)) h3 ∧ M1 (IntKind.wrap IntKind.i64 (i1 + 1)) h3 < M1 i1 h1)
                                    | none => False
                            | none => False) ∧
                          (decide (i2 > q1) = false → I1 (IntKind.wrap IntKind.i64 (i1 + 1)) h2 ∧ M1 (IntKind.wrap IntKind.i64 (i1 + 1)) h2 < M1 i1 h1)) ∧
            (decide (i1 < q2) = false → R (Value.tuple { toList := [] }) h1)

theorem insO_call (q0p : Option Addr) (q0l : Nat) (q0c : Nat) (q1 : Int) (q2 : Int) {h : Heap} {R : Value → Heap → Prop} (H : insO_vc q0p q0l q0c q1 q2 h R) : CallH Try.prog 70 ⟨[.slice q0p q0l q0c, .int .i64 q1, .int .i64 q2]⟩ h R :=
  callH_of_dCode tabOK mixed [(.slice q0p q0l q0c, false), (.int .i64 q1, false), (.int .i64 q2, false)] Try.func70 (c := bodyC Try.f70) (by kernel_rfl) (by kernel_rfl : Try.f70.ntmps = 49) rfl
    (Eq.mp (by kernel_rfl : insO_vc q0p q0l q0c q1 q2 h R = dCode Try.prog T ⟨[], [(4, [(7, .int .i64)]), (1, [(6, .int .i64)]), (4, [(7, .int .i64)]), (1, [(6, .int .i64)]), (4, [(7, .int .i64)]), (1, [(6, .int .i64)]), (4, [(7, .int .i64)]), (4, [(7, .int .i64)]), (4, [(7, .int .i64)])], [], [], []⟩ (bodyC Try.f70) none (dEnd T (Try.f70.results.toList) R) (startE 49 [(.slice q0p q0l q0c, false), (.int .i64 q1, false), (.int .i64 q2, false)]) h) H)

/-- slices.insertionSortCmpFunc[int] -/
def insC_vc (q0p : Option Addr) (q0l : Nat) (q0c : Nat) (q1 : Int) (q2 : Int) (q3 : Value) (h : Heap) (R : Value → Heap → Prop) : Prop :=
  ∃ (I1 : Int → Heap → Prop),
  ∃ (M1 : Int → Heap → Nat),
    I1 (IntKind.wrap IntKind.i64 (q1 + 1)) h ∧
      ∀ (i1 : Int) (h1 : Heap),
        I1 i1 h1 →
          (decide (i1 < q2) = true →
              ∃ (I2 : Int → Heap → Prop),
                ∃ (M2 : Int → Heap → Nat),
                  I2 i1 h1 ∧
                    ∀ (i2 : Int) (h2 : Heap),
                      I2 i2 h2 →
                        (decide (i2 > q1) = true →
                            match q0p with
                            | some a1 =>
                              (0 ≤ i2 ∧ i2 < (↑q0l : Int)) ∧
                                ∃ (i3 : Int),
                                  cellAt h2 (Addr.add a1 (Int.toNat i2 * 1)) = some (Value.int IntKind.i64 i3) ∧
                                    match q0p with
                                    | some a2 =>
                                      (0 ≤ IntKind.wrap IntKind.i64 (i2 - 1) ∧ IntKind.wrap IntKind.i64 (i2 - 1) < (↑q0l : Int)) ∧
                                        ∃ (i4 : Int),
                                          cellAt h2 (Addr.add a2 (Int.toNat (IntKind.wrap IntKind.i64 (i2 - 1)) * 1)) = some (Value.int IntKind.i64 i4) ∧
                                            match q3 with
                                            | Value.func (Fn.func x1) x2 x3 =>
                                              entersB Try.prog x1 = true ∧
                                                CallH Try.prog x1 { toList := List.append (List.append x2.1 [Value.int IntKind.i64 i3, Value.int IntKind.i64 i4]) x3.1 } h2
                                                  fun (v2 : Value) (h3 : Heap) =>
                                                  ∃ (i5 : Int),
                                                    v2 = Value.int IntKind.i64 i5 ∧
                                                      (decide (i5 < 0) = true →
                                                          match q0p with
                                                          | some a3 =>
                                                            (0 ≤ IntKind.wrap IntKind.i64 (i2 - 1) ∧ IntKind.wrap IntKind.i64 (i2 - 1) < (↑q0l : Int)) ∧
                                                              ∃ (i6 : Int),
                                                                cellAt h3 (Addr.add a3 (Int.toNat (IntKind.wrap IntKind.i64 (i2 - 1)) * 1)) = some (Value.int IntKind.i64 i6) ∧
                                                                  match q0p with
                                                                  | some a4 =>
                                                                    (0 ≤ i2 ∧ i2 < (↑q0l : Int)) ∧
                                                                      ∃ (i7 : Int),
                                                                        cellAt h3 (Addr.add a4 (Int.toNat i2 * 1)) = some (Value.int IntKind.i64 i7) ∧
                                                                          match q0p with
                                                                          | some a5 =>
                                                                            (0 ≤ i2 ∧ i2 < (↑q0l : Int)) ∧
                                                                              true = true ∧
                                                                                okAt h3 (Addr.add a5 (Int.toNat i2 * 1)) ∧
                                                                                  ∀ (h4 : Heap),
                                                                                    h4 = upd h3 (Addr.add a5 (Int.toNat i2 * 1)) (Value.int IntKind.i64 i6) →
                                                                                      match q0p with
                                                                                      | some a6 =>
                                                                                        (0 ≤ IntKind.wrap IntKind.i64 (i2 - 1) ∧ IntKind.wrap IntKind.i64 (i2 - 1) < (↑q0l : Int)) ∧
                                                                                          true = true ∧
                                                                                            okAt h4 (Addr.add a6 (Int.toNat (IntKind.wrap IntKind.i64 (i2 - 1)) * 1)) ∧
                                                                                              ∀ (h5 : Heap),
                                                                                                h5 =
                                                                                                    upd h4 (Addr.add a6 (Int.toNat (IntKind.wrap IntKind.i64 (i2 - 1)) * 1))
                                                                                                      (Value.int IntKind.i64 i7) →
                                                                                                  I2 (IntKind.wrap IntKind.i64 (i2 - 1)) h5 ∧ M2 (IntKind.wrap IntKind.i64 (i2 - 1)) h5 < M2 i2 h2
                                                                                      | none => False
                                                                          | none => False
                                                                  | none => False
                                                          | none => False) ∧
                                                        (decide (i5 < 0) = false → I1 (IntKind.wrap IntKind.i64 (i1 + 1)) h3 ∧ M1 (IntKind.wrap IntKind.i64 (i1 + 1)) h3 < M1 i1 h1)
                                            | v3 =>
                                              CallV Try.prog v3 { toList := [Value.int IntKind.i64 i3, Value.int IntKind.i64 i4] } h2 fun (v4 : Value) (h6 : Heap) =>
                                                ∃ (i8 : Int),
                                                  v4 = Value.int IntKind.i64 i8 ∧
                                                    (decide (i8 < 0) = true →
                                                        match q0p with
                                                        | some a7 =>
                                                          (0 ≤ IntKind.wrap IntKind.i64 (i2 - 1) ∧ IntKind.wrap IntKind.i64 (i2 - 1) < (↑q0l : Int)) ∧
                                                            ∃ (i9 : Int),
                                                              cellAt h6 (Addr.add a7 (Int.toNat (IntKind.wrap IntKind.i64 (i2 - 1)) * 1)) = some (Value.int IntKind.i64 i9) ∧
                                                                match q0p with
                                                                | some a8 =>
                                                                  (0 ≤ i2 ∧ i2 < (↑q0l : Int)) ∧
                                                                    ∃ (i10 : Int),
                                                                      cellAt h6 (Addr.add a8 (Int.toNat i2 * 1)) = some (Value.int IntKind.i64 i10) ∧
                                                                        match q0p with
                                                                        | some a9 =>
                                                                          (0 ≤ i2 ∧ i2 < (↑q0l : Int)) ∧
                                                                            true = true ∧
                                                                              okAt h6 (Addr.add a9 (Int.toNat i2 * 1)) ∧
                                                                                ∀ (h7 : Heap),
                                                                                  h7 = upd h6 (Addr.add a9 (Int.toNat i2 * 1)) (Value.int IntKind.i64 i9) →
                                                                                    match q0p with
                                                                                    | some a10 =>
                                                                                      (0 ≤ IntKind.wrap IntKind.i64 (i2 - 1) ∧ IntKind.wrap IntKind.i64 (i2 - 1) < (↑q0l : Int)) ∧
                                                                                        true = true ∧
                                                                                          okAt h7 (Addr.add a10 (Int.toNat (IntKind.wrap IntKind.i64 (i2 - 1)) * 1)) ∧
                                                                                            ∀ (h8 : Heap),
                                                                                              h8 =
                                                                                                  upd h7 (Addr.add a10 (Int.toNat (IntKind.wrap IntKind.i64 (i2 - 1)) * 1))
                                                                                                    (Value.int IntKind.i64 i10) →
                                                                                                I2 (IntKind.wrap IntKind.i64 (i2 - 1)) h8 ∧ M2 (IntKind.wrap IntKind.i64 (i2 - 1)) h8 < M2 i2 h2
                                                                                    | none => False
                                                                        | none => False
                                                                | none => False
                                                        | none => False) ∧
                                                      (decide (i8 < 0) = false → I1 (IntKind.wrap IntKind.i64 (i1 + 1)) h6 ∧ M1 (IntKind.wrap IntKind.i64 (i1 + 1)) h6 < M1 i1 h1)
                                    | none => False
                            | none => False) ∧
                          (decide (i2 > q1) = false → I1 (IntKind.wrap IntKind.i64 (i1 + 1)) h2 ∧ M1 (IntKind.wrap IntKind.i64 (i1 + 1)) h2 < M1 i1 h1)) ∧
            (decide (i1 < q2) = false → R (Value.tuple { toList := [] }) h1)

theorem insC_call (q0p : Option Addr) (q0l : Nat) (q0c : Nat) (q1 : Int) (q2 : Int) (q3 : Value) {h : Heap} {R : Value → Heap → Prop} (H : insC_vc q0p q0l q0c q1 q2 q3 h R) : CallH Try.prog 60 ⟨[.slice q0p q0l q0c, .int .i64 q1, .int .i64 q2, q3]⟩ h R :=
  callH_of_dCode tabOK mixed [(.slice q0p q0l q0c, false), (.int .i64 q1, false), (.int .i64 q2, false), (q3, false)] Try.func60 (c := bodyC Try.f60) (by kernel_rfl) (by kernel_rfl : Try.f60.ntmps = 53) rfl
    (Eq.mp (by kernel_rfl : insC_vc q0p q0l q0c q1 q2 q3 h R = dCode Try.prog T ⟨[], [(4, [(9, .int .i64)]), (1, [(8, .int .i64)]), (4, [(9, .int .i64)]), (1, [(8, .int .i64)]), (4, [(9, .int .i64)]), (1, [(8, .int .i64)]), (4, [(9, .int .i64)]), (4, [(9, .int .i64)]), (4, [(9, .int .i64)])], [], [], []⟩ (bodyC Try.f60) none (dEnd T (Try.f60.results.toList) R) (startE 53 [(.slice q0p q0l q0c, false), (.int .i64 q1, false), (.int .i64 q2, false), (q3, false)]) h) H)

/-- incipit/incipitref01.Same -/
def rSame_vc (q0p : Option Addr) (q0l : Nat) (q0c : Nat) (q1p : Option Addr) (q1l : Nat) (q1c : Nat) (h : Heap) (R : Value → Heap → Prop) : Prop :=
  entersB Try.prog 39 = true ∧
  CallH Try.prog 39 { toList := [Value.slice q0p q0l q0c, Value.slice q1p q1l q1c] } h fun (v1 : Value) (h1 : Heap) => ∃ (i1 : Int), v1 = Value.int IntKind.i64 i1 ∧ R (Value.bool (i1 == 0)) h1

theorem rSame_call (q0p : Option Addr) (q0l : Nat) (q0c : Nat) (q1p : Option Addr) (q1l : Nat) (q1c : Nat) {h : Heap} {R : Value → Heap → Prop} (H : rSame_vc q0p q0l q0c q1p q1l q1c h R) : CallH Try.prog 17 ⟨[.slice q0p q0l q0c, .slice q1p q1l q1c]⟩ h R :=
  callH_of_dCode tabOK mixed [(.slice q0p q0l q0c, false), (.slice q1p q1l q1c, false)] Try.func17 (c := bodyC Try.f17) (by kernel_rfl) (by kernel_rfl : Try.f17.ntmps = 9) rfl
    (Eq.mp (by kernel_rfl : rSame_vc q0p q0l q0c q1p q1l q1c h R = dCode Try.prog T ⟨[], [], [], [], []⟩ (bodyC Try.f17) none (dEnd T (Try.f17.results.toList) R) (startE 9 [(.slice q0p q0l q0c, false), (.slice q1p q1l q1c, false)]) h) H)

/-- incipit/incipitref05.Ints -/
def rInts_vc (q0p : Option Addr) (q0l : Nat) (q0c : Nat) (q1p : Option Addr) (q1l : Nat) (q1c : Nat) (h : Heap) (R : Value → Heap → Prop) : Prop :=
  (((↑q0l : Int) != (↑q1l : Int)) = true → R (Value.bool false) h) ∧
  (((↑q0l : Int) != (↑q1l : Int)) = false →
    ∃ (I1 : Int → Heap → Prop),
      ∃ (M1 : Int → Heap → Nat),
        I1 0 h ∧
          ∀ (i1 : Int) (h1 : Heap),
            I1 i1 h1 →
              (decide (i1 < (↑q0l : Int)) = true →
                  match q0p with
                  | some a1 =>
                    (0 ≤ i1 ∧ i1 < (↑q0l : Int)) ∧
                      ∃ (i2 : Int),
                        cellAt h1 (Addr.add a1 (Int.toNat i1 * 1)) = some (Value.int IntKind.i64 i2) ∧
                          match q1p with
                          | some a2 =>
                            (0 ≤ i1 ∧ i1 < (↑q1l : Int)) ∧
                              ∃ (i3 : Int),
                                cellAt h1 (Addr.add a2 (Int.toNat i1 * 1)) = some (Value.int IntKind.i64 i3) ∧
                                  ((i2 != i3) = true → R (Value.bool false) h1) ∧
                                    ((i2 != i3) = false → I1 (IntKind.wrap IntKind.i64 (i1 + 1)) h1 ∧ M1 (IntKind.wrap IntKind.i64 (i1 + 1)) h1 < M1 i1 h1)
                          | none => False
                  | none => False) ∧
                (decide (i1 < (↑q0l : Int)) = false → R (Value.bool true) h1))

theorem rInts_call (q0p : Option Addr) (q0l : Nat) (q0c : Nat) (q1p : Option Addr) (q1l : Nat) (q1c : Nat) {h : Heap} {R : Value → Heap → Prop} (H : rInts_vc q0p q0l q0c q1p q1l q1c h R) : CallH Try.prog 28 ⟨[.slice q0p q0l q0c, .slice q1p q1l q1c]⟩ h R :=
  callH_of_dCode tabOK mixed [(.slice q0p q0l q0c, false), (.slice q1p q1l q1c, false)] Try.func28 (c := bodyC Try.f28) (by kernel_rfl) (by kernel_rfl : Try.f28.ntmps = 26) rfl
    (Eq.mp (by kernel_rfl : rInts_vc q0p q0l q0c q1p q1l q1c h R = dCode Try.prog T ⟨[], [(4, [(5, .int .i64)]), (4, [(5, .int .i64)]), (4, [(5, .int .i64)]), (4, [(5, .int .i64)]), (4, [(5, .int .i64)])], [], [], []⟩ (bodyC Try.f28) none (dEnd T (Try.f28.results.toList) R) (startE 26 [(.slice q0p q0l q0c, false), (.slice q1p q1l q1c, false)]) h) H)

/-- incipit/incipitref01.Compare -/
def rCompare_vc (q0p : Option Addr) (q0l : Nat) (q0c : Nat) (q1p : Option Addr) (q1l : Nat) (q1c : Nat) (h : Heap) (R : Value → Heap → Prop) : Prop :=
  entersB Try.prog 53 = true ∧
  CallH Try.prog 53 { toList := [Value.slice q0p q0l q0c, Value.slice q1p q1l q1c] } h fun (v1 : Value) (h1 : Heap) =>
    ∃ (i1 : Int),
      v1 = Value.int IntKind.i64 i1 ∧
        ((i1 == (↑q0l : Int)) = true →
            ((i1 == (↑q1l : Int)) = true → R (Value.int IntKind.i64 0) h1) ∧
              ((i1 == (↑q1l : Int)) = false →
                ((i1 == (↑q0l : Int)) = true → R (Value.int IntKind.i64 (-1)) h1) ∧
                  ((i1 == (↑q0l : Int)) = false →
                    ((i1 == (↑q1l : Int)) = true → R (Value.int IntKind.i64 1) h1) ∧
                      ((i1 == (↑q1l : Int)) = false →
                        match q0p with
                        | some a1 =>
                          (0 ≤ i1 ∧ i1 < (↑q0l : Int)) ∧
                            ∃ (i2 : Int),
                              cellAt h1 (Addr.add a1 (Int.toNat i1 * 1)) = some (Value.int IntKind.u8 i2) ∧
                                match q1p with
                                | some a2 =>
                                  (0 ≤ i1 ∧ i1 < (↑q1l : Int)) ∧
                                    ∃ (i3 : Int),
                                      cellAt h1 (Addr.add a2 (Int.toNat i1 * 1)) = some (Value.int IntKind.u8 i3) ∧
                                        (decide (i2 > i3) = true → R (Value.int IntKind.i64 1) h1) ∧ (decide (i2 > i3) = false → R (Value.int IntKind.i64 (-1)) h1)
                                | none => False
                        | none => False)))) ∧
          ((i1 == (↑q0l : Int)) = false →
            ((i1 == (↑q0l : Int)) = true → R (Value.int IntKind.i64 (-1)) h1) ∧
              ((i1 == (↑q0l : Int)) = false →
                ((i1 == (↑q1l : Int)) = true → R (Value.int IntKind.i64 1) h1) ∧
                  ((i1 == (↑q1l : Int)) = false →
                    match q0p with
                    | some a3 =>
                      (0 ≤ i1 ∧ i1 < (↑q0l : Int)) ∧
                        ∃ (i4 : Int),
                          cellAt h1 (Addr.add a3 (Int.toNat i1 * 1)) = some (Value.int IntKind.u8 i4) ∧
                            match q1p with
                            | some a4 =>
                              (0 ≤ i1 ∧ i1 < (↑q1l : Int)) ∧
                                ∃ (i5 : Int),
                                  cellAt h1 (Addr.add a4 (Int.toNat i1 * 1)) = some (Value.int IntKind.u8 i5) ∧
                                    (decide (i4 > i5) = true → R (Value.int IntKind.i64 1) h1) ∧ (decide (i4 > i5) = false → R (Value.int IntKind.i64 (-1)) h1)
                            | none => False
                    | none => False)))

theorem rCompare_call (q0p : Option Addr) (q0l : Nat) (q0c : Nat) (q1p : Option Addr) (q1l : Nat) (q1c : Nat) {h : Heap} {R : Value → Heap → Prop} (H : rCompare_vc q0p q0l q0c q1p q1l q1c h R) : CallH Try.prog 39 ⟨[.slice q0p q0l q0c, .slice q1p q1l q1c]⟩ h R :=
  callH_of_dCode tabOK mixed [(.slice q0p q0l q0c, false), (.slice q1p q1l q1c, false)] Try.func39 (c := bodyC Try.f39) (by kernel_rfl) (by kernel_rfl : Try.f39.ntmps = 38) rfl
    (Eq.mp (by kernel_rfl : rCompare_vc q0p q0l q0c q1p q1l q1c h R = dCode Try.prog T ⟨[], [], [], [], []⟩ (bodyC Try.f39) none (dEnd T (Try.f39.results.toList) R) (startE 38 [(.slice q0p q0l q0c, false), (.slice q1p q1l q1c, false)]) h) H)

/-- incipit/incipitref01.Prefix -/
def rPrefix_vc (q0p : Option Addr) (q0l : Nat) (q0c : Nat) (q1p : Option Addr) (q1l : Nat) (q1c : Nat) (h : Heap) (R : Value → Heap → Prop) : Prop :=
  ∃ (I1 : Int → Heap → Prop),
  ∃ (M1 : Int → Heap → Nat),
    I1 0 h ∧
      ∀ (i1 : Int) (h1 : Heap),
        I1 i1 h1 →
          (decide (i1 < (↑q0l : Int)) = true →
              (decide (i1 < (↑q1l : Int)) = true →
                  match q0p with
                  | some a1 =>
                    (0 ≤ i1 ∧ i1 < (↑q0l : Int)) ∧
                      ∃ (i2 : Int),
                        cellAt h1 (Addr.add a1 (Int.toNat i1 * 1)) = some (Value.int IntKind.u8 i2) ∧
                          match q1p with
                          | some a2 =>
                            (0 ≤ i1 ∧ i1 < (↑q1l : Int)) ∧
                              ∃ (i3 : Int),
                                cellAt h1 (Addr.add a2 (Int.toNat i1 * 1)) = some (Value.int IntKind.u8 i3) ∧
                                  ((i2 == i3) = true → I1 (IntKind.wrap IntKind.i64 (i1 + 1)) h1 ∧ M1 (IntKind.wrap IntKind.i64 (i1 + 1)) h1 < M1 i1 h1) ∧
                                    ((i2 == i3) = false → R (Value.int IntKind.i64 i1) h1)
                          | none => False
                  | none => False) ∧
                (decide (i1 < (↑q1l : Int)) = false → R (Value.int IntKind.i64 i1) h1)) ∧
            (decide (i1 < (↑q0l : Int)) = false → R (Value.int IntKind.i64 i1) h1)

theorem rPrefix_call (q0p : Option Addr) (q0l : Nat) (q0c : Nat) (q1p : Option Addr) (q1l : Nat) (q1c : Nat) {h : Heap} {R : Value → Heap → Prop} (H : rPrefix_vc q0p q0l q0c q1p q1l q1c h R) : CallH Try.prog 53 ⟨[.slice q0p q0l q0c, .slice q1p q1l q1c]⟩ h R :=
  callH_of_dCode tabOK mixed [(.slice q0p q0l q0c, false), (.slice q1p q1l q1c, false)] Try.func53 (c := bodyC Try.f53) (by kernel_rfl) (by kernel_rfl : Try.f53.ntmps = 30) rfl
    (Eq.mp (by kernel_rfl : rPrefix_vc q0p q0l q0c q1p q1l q1c h R = dCode Try.prog T ⟨[], [(2, [(5, .int .i64)]), (2, [(5, .int .i64)]), (2, [(5, .int .i64)]), (2, [(5, .int .i64)])], [], [], []⟩ (bodyC Try.f53) none (dEnd T (Try.f53.results.toList) R) (startE 30 [(.slice q0p q0l q0c, false), (.slice q1p q1l q1c, false)]) h) H)

/-- incipit/incipitlaw05.page -/
def pg_vc (q0 : Int) (h : Heap) (R : Value → Heap → Prop) : Prop :=
  (0 + 1 = 1 ∧ 0 + 1 = 1 ∧ 0 + 1 = 1 ∧ 0 + 1 = 1 ∧ True) ∧
  ∀ (n1 : Nat) (rec1 : Array Obj),
    n1 = Array.size h →
      rec1 = Array.push h (Obj.cells { toList := [Value.int IntKind.u8 q0, Value.int IntKind.u8 q0, Value.int IntKind.u8 q0, Value.int IntKind.u8 q0] } 5) →
        entersB Try.prog 33 = true ∧
          CallH Try.prog 33 { toList := [Value.slice (some { block := n1, off := 0 }) 4 4] } rec1 fun (v1 : Value) (h1 : Heap) =>
            ∃ (p1 : Option Addr), ∃ (n2 : Nat), ∃ (n3 : Nat), v1 = Value.slice p1 n2 n3 ∧ R (Value.slice p1 n2 n3) h1

theorem pg_call (q0 : Int) {h : Heap} {R : Value → Heap → Prop} (H : pg_vc q0 h R) : CallH Try.prog 11 ⟨[.int .u8 q0]⟩ h R :=
  callH_of_dCode tabOK mixed [(.int .u8 q0, false)] Try.func11 (c := bodyC Try.f11) (by kernel_rfl) (by kernel_rfl : Try.f11.ntmps = 9) rfl
    (Eq.mp (by kernel_rfl : pg_vc q0 h R = dCode Try.prog T ⟨[], [], [], [], []⟩ (bodyC Try.f11) none (dEnd T (Try.f11.results.toList) R) (startE 9 [(.int .u8 q0, false)]) h) H)

/-- incipit/incipitlaw03.Page -/
def lPage_vc (q0p : Option Addr) (q0l : Nat) (q0c : Nat) (h : Heap) (R : Value → Heap → Prop) : Prop :=
  ((0 : Int) ≤ (256 : Int) ∧ (256 : Int) ≤ (256 : Int) ∧ (↑(1 : Nat) : Int) * (256 : Int) ≤ (281474976710656 : Int) ∧ (256 : Int) ≤ (281474976710656 : Int)) ∧
  ∀ (n1 : Nat) (rec1 : Array Obj),
    n1 = Array.size h →
      rec1 = Array.push h (Obj.cells { toList := zrow [Value.int IntKind.u8 (Int.ofNat (nat_lit 0))] (256 : Nat) : Array Value } (5 : TypeId)) →
        ∃ (I1 : Int → Heap → Prop),
          ∃ (M1 : Int → Heap → Nat),
            I1 (0 : Int) rec1 ∧
              ∀ (i1 : Int) (h1 : Heap),
                I1 i1 h1 →
                  (decide (i1 < (↑(256 : Nat) : Int)) = true →
                      (64 : Int) ≠ (0 : Int) ∧
                        (decide (IntKind.wrap IntKind.i64 (Int.tdiv i1 (64 : Int)) < (↑q0l : Int)) = true →
                            match q0p with
                            | some a1 =>
                              ((0 : Int) ≤ IntKind.wrap IntKind.i64 (Int.tdiv i1 (64 : Int)) ∧ IntKind.wrap IntKind.i64 (Int.tdiv i1 (64 : Int)) < (↑q0l : Int)) ∧
                                ∃ (i2 : Int),
                                  cellAt h1 (Addr.add a1 (Int.toNat (IntKind.wrap IntKind.i64 (Int.tdiv i1 (64 : Int))) * (1 : Nat))) = some (Value.int IntKind.u8 i2) ∧
                                    ((0 : Int) ≤ i1 ∧ i1 < (↑(256 : Nat) : Int)) ∧
                                      true = true ∧
                                        okAt h1 (Addr.add { block := n1, off := (0 : Nat) : Addr } (Int.toNat i1 * (1 : Nat))) ∧
                                          ∀ (h2 : Heap),
                                            h2 = upd h1 (Addr.add { block := n1, off := (0 : Nat) : Addr } (Int.toNat i1 * (1 : Nat))) (Value.int IntKind.u8 i2) →
                                              I1 (IntKind.wrap IntKind.i64 (i1 + (1 : Int))) h2 ∧ M1 (IntKind.wrap IntKind.i64 (i1 + (1 : Int))) h2 < M1 i1 h1
                            | none => False) ∧
                          (decide (IntKind.wrap IntKind.i64 (Int.tdiv i1 (64 : Int)) < (↑q0l : Int)) = false →
                            I1 (IntKind.wrap IntKind.i64 (i1 + (1 : Int))) h1 ∧ M1 (IntKind.wrap IntKind.i64 (i1 + (1 : Int))) h1 < M1 i1 h1)) ∧
                    (decide (i1 < (↑(256 : Nat) : Int)) = false → R (Value.slice (some { block := n1, off := (0 : Nat) : Addr }) (256 : Nat) (256 : Nat)) h1)

theorem lPage_call (q0p : Option Addr) (q0l : Nat) (q0c : Nat) {h : Heap} {R : Value → Heap → Prop} (H : lPage_vc q0p q0l q0c h R) : CallH Try.prog 33 ⟨[.slice q0p q0l q0c]⟩ h R :=
  callH_of_dCode tabOK mixed [(.slice q0p q0l q0c, false)] Try.func33 (c := bodyC Try.f33) (by kernel_rfl) (by kernel_rfl : Try.f33.ntmps = 27) rfl
    (Eq.mp (by kernel_rfl : lPage_vc q0p q0l q0c h R = dCode Try.prog T ⟨[], [(3, [(9, .int .i64)])], [], [], []⟩ (bodyC Try.f33) none (dEnd T (Try.f33.results.toList) R) (startE 27 [(.slice q0p q0l q0c, false)]) h) H)

end Go.Proofs.Ytfapgccnhonoiaa

/- The conditions of some functions of the program, as text (printed by a tool of this claim's author, wip/tool), and that they are enough for a call. -/
set_option linter.unusedVariables false
namespace Go.Proofs.Ytfapgccnhonoiaa

/-- slices.pdqsortCmpFunc[int] -/
def pdqC_vc (q0p : Option Addr) (q0l : Nat) (q0c : Nat) (q1 : Int) (q2 : Int) (q3 : Int) (q4 : Value) (h : Heap) (R : Value → Heap → Prop) : Prop :=
  ∃ (I1 : Int → Int → Int → Bool → Bool → Heap → Prop),
  ∃ (M1 : Int → Int → Int → Bool → Bool → Heap → Nat),
    I1 q1 q2 q3 true true h ∧
      ∀ (i1 i2 i3 : Int) (t1 t2 : Bool) (h1 : Heap),
        I1 i1 i2 i3 t1 t2 h1 →
          (decide (IntKind.wrap IntKind.i64 (i2 - i1) ≤ 12) = true →
              entersB Try.prog 60 = true ∧
                CallH Try.prog 60 { toList := [Value.slice q0p q0l q0c, Value.int IntKind.i64 i1, Value.int IntKind.i64 i2, q4] : Array Value } h1 fun (v1 : Value) (h2 : Heap) =>
                  v1 = Value.tuple { toList := [] : Array Value } ∧ R (Value.tuple { toList := [] : Array Value }) h2) ∧
            (decide (IntKind.wrap IntKind.i64 (i2 - i1) ≤ 12) = false → False)

theorem pdqC_call (q0p : Option Addr) (q0l : Nat) (q0c : Nat) (q1 : Int) (q2 : Int) (q3 : Int) (q4 : Value) {h : Heap} {R : Value → Heap → Prop} (H : pdqC_vc q0p q0l q0c q1 q2 q3 q4 h R) : CallH Try.prog 57 ⟨[.slice q0p q0l q0c, .int .i64 q1, .int .i64 q2, .int .i64 q3, q4]⟩ h R :=
  callH_of_dCode tabOK mixed [(.slice q0p q0l q0c, false), (.int .i64 q1, false), (.int .i64 q2, false), (.int .i64 q3, false), (q4, false)] Try.func57 (c := bodyC Try.f57) (by kernel_rfl) (by kernel_rfl : Try.f57.ntmps = 148) rfl
    (Eq.mp (by kernel_rfl : pdqC_vc q0p q0l q0c q1 q2 q3 q4 h R = dCode Try.prog T ⟨[], [(2, [(1, .int .i64), (2, .int .i64), (3, .int .i64), (10, .bool), (11, .bool)])], [], [], [5, 6, 7, 8, 9, 10, 11, 12, 13, 14, 15, 16, 17, 18, 19, 20, 21, 22, 23, 24, 25, 26, 27, 28, 29, 30]⟩ (bodyC Try.f57) none (dEnd T (Try.f57.results.toList) R) (startE 148 [(.slice q0p q0l q0c, false), (.int .i64 q1, false), (.int .i64 q2, false), (.int .i64 q3, false), (q4, false)]) h) H)

/-- slices.pdqsortOrdered[int] -/
def pdqO_vc (q0p : Option Addr) (q0l : Nat) (q0c : Nat) (q1 : Int) (q2 : Int) (q3 : Int) (h : Heap) (R : Value → Heap → Prop) : Prop :=
  ∃ (I1 : Int → Int → Int → Bool → Bool → Heap → Prop),
  ∃ (M1 : Int → Int → Int → Bool → Bool → Heap → Nat),
    I1 q1 q2 q3 true true h ∧
      ∀ (i1 i2 i3 : Int) (t1 t2 : Bool) (h1 : Heap),
        I1 i1 i2 i3 t1 t2 h1 →
          (decide (IntKind.wrap IntKind.i64 (i2 - i1) ≤ 12) = true →
              entersB Try.prog 70 = true ∧
                CallH Try.prog 70 { toList := [Value.slice q0p q0l q0c, Value.int IntKind.i64 i1, Value.int IntKind.i64 i2] : Array Value } h1 fun (v1 : Value) (h2 : Heap) =>
                  v1 = Value.tuple { toList := [] : Array Value } ∧ R (Value.tuple { toList := [] : Array Value }) h2) ∧
            (decide (IntKind.wrap IntKind.i64 (i2 - i1) ≤ 12) = false → False)

theorem pdqO_call (q0p : Option Addr) (q0l : Nat) (q0c : Nat) (q1 : Int) (q2 : Int) (q3 : Int) {h : Heap} {R : Value → Heap → Prop} (H : pdqO_vc q0p q0l q0c q1 q2 q3 h R) : CallH Try.prog 59 ⟨[.slice q0p q0l q0c, .int .i64 q1, .int .i64 q2, .int .i64 q3]⟩ h R :=
  callH_of_dCode tabOK mixed [(.slice q0p q0l q0c, false), (.int .i64 q1, false), (.int .i64 q2, false), (.int .i64 q3, false)] Try.func59 (c := bodyC Try.f59) (by kernel_rfl) (by kernel_rfl : Try.f59.ntmps = 134) rfl
    (Eq.mp (by kernel_rfl : pdqO_vc q0p q0l q0c q1 q2 q3 h R = dCode Try.prog T ⟨[], [(2, [(1, .int .i64), (2, .int .i64), (3, .int .i64), (8, .bool), (9, .bool)])], [], [], [5, 6, 7, 8, 9, 10, 11, 12, 13, 14, 15, 16, 17, 18, 19, 20, 21, 22, 23, 24, 25, 26, 27, 28, 29, 30]⟩ (bodyC Try.f59) none (dEnd T (Try.f59.results.toList) R) (startE 134 [(.slice q0p q0l q0c, false), (.int .i64 q1, false), (.int .i64 q2, false), (.int .i64 q3, false)]) h) H)

/-- math/bits.Len -/
def bLen_vc (q0 : Int) (h : Heap) (R : Value → Heap → Prop) : Prop :=
  entersB Try.prog 69 = true ∧ CallH Try.prog 69 { toList := [Value.int IntKind.u64 q0] : Array Value } h fun (v1 : Value) (h1 : Heap) => ∃ (i1 : Int), v1 = Value.int IntKind.i64 i1 ∧ R (Value.int IntKind.i64 i1) h1

theorem bLen_call (q0 : Int) {h : Heap} {R : Value → Heap → Prop} (H : bLen_vc q0 h R) : CallH Try.prog 58 ⟨[.int .u64 q0]⟩ h R :=
  callH_of_dCode tabOK mixed [(.int .u64 q0, false)] Try.func58 (c := bodyC Try.f58) (by kernel_rfl) (by kernel_rfl : Try.f58.ntmps = 8) rfl
    (Eq.mp (by kernel_rfl : bLen_vc q0 h R = dCode Try.prog T ⟨[], [], [], [], []⟩ (bodyC Try.f58) none (dEnd T (Try.f58.results.toList) R) (startE 8 [(.int .u64 q0, false)]) h) H)

/-- math/bits.Len64 -/
def bLen64_vc (q0 : Int) (h : Heap) (R : Value → Heap → Prop) : Prop :=
  (decide (q0 ≥ (4294967296 : Int)) = true → False) ∧
 (decide (q0 ≥ (4294967296 : Int)) = false →
  (decide (q0 ≥ (65536 : Int)) = true → False) ∧
   (decide (q0 ≥ (65536 : Int)) = false →
    (decide (q0 ≥ (256 : Int)) = true → False) ∧
     (decide (q0 ≥ (256 : Int)) = false →
      ((0 : Int) ≤ IntKind.wrap IntKind.u8 q0 ∧ IntKind.wrap IntKind.u8 q0 < (↑(256 : Nat) : Int)) ∧
       ∃ (x1 : UInt8),
        {
            data :=
             {
              toList :=
               [(0 : UInt8), (1 : UInt8), (2 : UInt8), (2 : UInt8), (3 : UInt8), (3 : UInt8), (3 : UInt8), (3 : UInt8), (4 : UInt8), (4 : UInt8), (4 : UInt8), (4 : UInt8), (4 : UInt8), (4 : UInt8), (4 : UInt8), (4 : UInt8), (5 : UInt8), (5 : UInt8), (5 : UInt8), (5 : UInt8), (5 : UInt8),
                (5 : UInt8), (5 : UInt8), (5 : UInt8), (5 : UInt8), (5 : UInt8), (5 : UInt8), (5 : UInt8), (5 : UInt8), (5 : UInt8), (5 : UInt8), (5 : UInt8), (6 : UInt8), (6 : UInt8), (6 : UInt8), (6 : UInt8), (6 : UInt8), (6 : UInt8), (6 : UInt8), (6 : UInt8), (6 : UInt8), (6 : UInt8),
                (6 : UInt8), (6 : UInt8), (6 : UInt8), (6 : UInt8), (6 : UInt8), (6 : UInt8), (6 : UInt8), (6 : UInt8), (6 : UInt8), (6 : UInt8), (6 : UInt8), (6 : UInt8), (6 : UInt8), (6 : UInt8), (6 : UInt8), (6 : UInt8), (6 : UInt8), (6 : UInt8), (6 : UInt8), (6 : UInt8), (6 : UInt8),
                (6 : UInt8), (7 : UInt8), (7 : UInt8), (7 : UInt8), (7 : UInt8), (7 : UInt8), (7 : UInt8), (7 : UInt8), (7 : UInt8), (7 : UInt8), (7 : UInt8), (7 : UInt8), (7 : UInt8), (7 : UInt8), (7 : UInt8), (7 : UInt8), (7 : UInt8), (7 : UInt8), (7 : UInt8), (7 : UInt8), (7 : UInt8),
                (7 : UInt8), (7 : UInt8), (7 : UInt8), (7 : UInt8), (7 : UInt8), (7 : UInt8), (7 : UInt8), (7 : UInt8), (7 : UInt8), (7 : UInt8), (7 : UInt8), (7 : UInt8), (7 : UInt8), (7 : UInt8), (7 : UInt8), (7 : UInt8), (7 : UInt8), (7 : UInt8), (7 : UInt8), (7 : UInt8), (7 : UInt8),
                (7 : UInt8), (7 : UInt8), (7 : UInt8), (7 : UInt8), (7 : UInt8), (7 : UInt8), (7 : UInt8), (7 : UInt8), (7 : UInt8), (7 : UInt8), (7 : UInt8), (7 : UInt8), (7 : UInt8), (7 : UInt8), (7 : UInt8), (7 : UInt8), (7 : UInt8), (7 : UInt8), (7 : UInt8), (7 : UInt8), (7 : UInt8),
                (7 : UInt8), (7 : UInt8), (8 : UInt8), (8 : UInt8), (8 : UInt8), (8 : UInt8), (8 : UInt8), (8 : UInt8), (8 : UInt8), (8 : UInt8), (8 : UInt8), (8 : UInt8), (8 : UInt8), (8 : UInt8), (8 : UInt8), (8 : UInt8), (8 : UInt8), (8 : UInt8), (8 : UInt8), (8 : UInt8), (8 : UInt8),
                (8 : UInt8), (8 : UInt8), (8 : UInt8), (8 : UInt8), (8 : UInt8), (8 : UInt8), (8 : UInt8), (8 : UInt8), (8 : UInt8), (8 : UInt8), (8 : UInt8), (8 : UInt8), (8 : UInt8), (8 : UInt8), (8 : UInt8), (8 : UInt8), (8 : UInt8), (8 : UInt8), (8 : UInt8), (8 : UInt8), (8 : UInt8),
                (8 : UInt8), (8 : UInt8), (8 : UInt8), (8 : UInt8), (8 : UInt8), (8 : UInt8), (8 : UInt8), (8 : UInt8), (8 : UInt8), (8 : UInt8), (8 : UInt8), (8 : UInt8), (8 : UInt8), (8 : UInt8), (8 : UInt8), (8 : UInt8), (8 : UInt8), (8 : UInt8), (8 : UInt8), (8 : UInt8), (8 : UInt8),
                (8 : UInt8), (8 : UInt8), (8 : UInt8), (8 : UInt8), (8 : UInt8), (8 : UInt8), (8 : UInt8), (8 : UInt8), (8 : UInt8), (8 : UInt8), (8 : UInt8), (8 : UInt8), (8 : UInt8), (8 : UInt8), (8 : UInt8), (8 : UInt8), (8 : UInt8), (8 : UInt8), (8 : UInt8), (8 : UInt8), (8 : UInt8),
                (8 : UInt8), (8 : UInt8), (8 : UInt8), (8 : UInt8), (8 : UInt8), (8 : UInt8), (8 : UInt8), (8 : UInt8), (8 : UInt8), (8 : UInt8), (8 : UInt8), (8 : UInt8), (8 : UInt8), (8 : UInt8), (8 : UInt8), (8 : UInt8), (8 : UInt8), (8 : UInt8), (8 : UInt8), (8 : UInt8), (8 : UInt8),
                (8 : UInt8), (8 : UInt8), (8 : UInt8), (8 : UInt8), (8 : UInt8), (8 : UInt8), (8 : UInt8), (8 : UInt8), (8 : UInt8), (8 : UInt8), (8 : UInt8), (8 : UInt8), (8 : UInt8), (8 : UInt8), (8 : UInt8), (8 : UInt8), (8 : UInt8), (8 : UInt8), (8 : UInt8), (8 : UInt8), (8 : UInt8),
                (8 : UInt8), (8 : UInt8), (8 : UInt8), (8 : UInt8)] :
              Array UInt8 } :
            ByteArray }[Int.toNat (IntKind.wrap IntKind.u8 q0)]? =
          some x1 ∧
         R (Value.int IntKind.i64 (IntKind.wrap IntKind.i64 ((0 : Int) + IntKind.wrap IntKind.i64 (↑(UInt8.toNat x1) : Int)))) h)))

theorem bLen64_call (q0 : Int) {h : Heap} {R : Value → Heap → Prop} (H : bLen64_vc q0 h R) : CallH Try.prog 69 ⟨[.int .u64 q0]⟩ h R :=
  callH_of_dCode tabOK mixed [(.int .u64 q0, false)] Try.func69 (c := bodyC Try.f69) (by kernel_rfl) (by kernel_rfl : Try.f69.ntmps = 25) rfl
    (Eq.mp (by kernel_rfl : bLen64_vc q0 h R = dCode Try.prog T ⟨[], [], [], [], [2, 3, 5, 6, 8, 9]⟩ (bodyC Try.f69) none (dEnd T (Try.f69.results.toList) R) (startE 25 [(.int .u64 q0, false)]) h) H)

end Go.Proofs.Ytfapgccnhonoiaa

/- The conditions of some functions of the program, as text (printed by a tool of this claim's author, wip/tool), and that they are enough for a call. -/
set_option linter.unusedVariables false
namespace Go.Proofs.Ytfapgccnhonoiaa

/-- incipit/cache.New -/
def cNew_vc (q0 : Nat) (q1 : Int) (h : Heap) (R : Value → Heap → Prop) : Prop :=
  entersB Try.prog 27 = true ∧
  CallH Try.prog 27 { toList := [Value.pointer (some { block := q0, off := 0 })] } h fun (v1 : Value) (h1 : Heap) =>
    ∃ (i1 : Int),
      v1 = Value.int IntKind.i64 i1 ∧
        ((i1 == 0) = true → R (Value.tuple { toList := [Value.pointer none, Value.int IntKind.i64 2] }) h1) ∧
          ((i1 == 0) = false →
            (decide (q1 < 2) = true → R (Value.tuple { toList := [Value.pointer none, Value.int IntKind.i64 1] }) h1) ∧
              (decide (q1 < 2) = false →
                (decide (q1 > 64) = true → R (Value.tuple { toList := [Value.pointer none, Value.int IntKind.i64 1] }) h1) ∧
                  (decide (q1 > 64) = false →
                    ∀ (n1 : Nat) (rec1 : Array Obj),
                      n1 = Array.size h1 →
                        rec1 = Array.push h1 (Obj.map { toList := [] } 0) →
                          ∀ (n2 : Nat) (rec2 : Array Obj),
                            n2 = Array.size rec1 →
                              rec2 =
                                  Array.push rec1
                                    (Obj.cells
                                      {
                                        toList :=
                                          [Value.pointer (some { block := q0, off := 0 }), Value.int IntKind.i64 q1, Value.map (some n1), Value.int IntKind.i64 0, Value.int IntKind.i64 0,
                                            Value.int IntKind.i64 0] }
                                      53 (0, 0)) →
                                R (Value.tuple { toList := [Value.pointer (some { block := n2, off := 0 }), Value.int IntKind.i64 0] }) rec2)))

theorem cNew_call (q0 : Nat) (q1 : Int) {h : Heap} {R : Value → Heap → Prop} (H : cNew_vc q0 q1 h R) : CallH Try.prog 8 ⟨[.pointer (some ⟨q0, 0, none⟩), .int .i64 q1]⟩ h R :=
  callH_of_dCode tabOK mixed [(.pointer (some ⟨q0, 0, none⟩), false), (.int .i64 q1, false)] Try.func8 (c := bodyC Try.f8) (by kernel_rfl) (by kernel_rfl : Try.f8.ntmps = 22) rfl
    (Eq.mp (by kernel_rfl : cNew_vc q0 q1 h R = dCode Try.prog T ⟨[], [], [], [], []⟩ (bodyC Try.f8) none (dEnd T (Try.f8.results.toList) R) (startE 22 [(.pointer (some ⟨q0, 0, none⟩), false), (.int .i64 q1, false)]) h) H)

/-- incipit/cache.New -/
def cNewN_vc (q1 : Int) (h : Heap) (R : Value → Heap → Prop) : Prop :=
  entersB Try.prog 27 = true ∧
  CallH Try.prog 27 { toList := [Value.pointer none] } h fun (v1 : Value) (h1 : Heap) =>
    ∃ (i1 : Int),
      v1 = Value.int IntKind.i64 i1 ∧
        ((i1 == 0) = true → R (Value.tuple { toList := [Value.pointer none, Value.int IntKind.i64 2] }) h1) ∧
          ((i1 == 0) = false →
            (decide (q1 < 2) = true → R (Value.tuple { toList := [Value.pointer none, Value.int IntKind.i64 1] }) h1) ∧
              (decide (q1 < 2) = false →
                (decide (q1 > 64) = true → R (Value.tuple { toList := [Value.pointer none, Value.int IntKind.i64 1] }) h1) ∧
                  (decide (q1 > 64) = false →
                    ∀ (n1 : Nat) (rec1 : Array Obj),
                      n1 = Array.size h1 →
                        rec1 = Array.push h1 (Obj.map { toList := [] } 0) →
                          ∀ (n2 : Nat) (rec2 : Array Obj),
                            n2 = Array.size rec1 →
                              rec2 =
                                  Array.push rec1
                                    (Obj.cells
                                      { toList := [Value.pointer none, Value.int IntKind.i64 q1, Value.map (some n1), Value.int IntKind.i64 0, Value.int IntKind.i64 0, Value.int IntKind.i64 0] } 53
                                      (0, 0)) →
                                R (Value.tuple { toList := [Value.pointer (some { block := n2, off := 0 }), Value.int IntKind.i64 0] }) rec2)))

theorem cNewN_call (q1 : Int) {h : Heap} {R : Value → Heap → Prop} (H : cNewN_vc q1 h R) : CallH Try.prog 8 ⟨[.pointer none, .int .i64 q1]⟩ h R :=
  callH_of_dCode tabOK mixed [(.pointer none, false), (.int .i64 q1, false)] Try.func8 (c := bodyC Try.f8) (by kernel_rfl) (by kernel_rfl : Try.f8.ntmps = 22) rfl
    (Eq.mp (by kernel_rfl : cNewN_vc q1 h R = dCode Try.prog T ⟨[], [], [], [], []⟩ (bodyC Try.f8) none (dEnd T (Try.f8.results.toList) R) (startE 22 [(.pointer none, false), (.int .i64 q1, false)]) h) H)

/-- (*incipit/cache.Cache).Put -/
def cPut_vc (q0 : Nat) (q1 : Int) (q2p : Option Addr) (q2l : Nat) (q2c : Nat) (h : Heap) (R : Value → Heap → Prop) : Prop :=
  entersB Try.prog 29 = true ∧
  CallH Try.prog 29 { toList := [Value.pointer (some { block := q0, off := 0 }), Value.int IntKind.i64 q1, Value.int IntKind.i64 (↑q2l : Int)] } h fun (v1 : Value) (h1 : Heap) =>
    ∃ (i1 : Int),
      v1 = Value.int IntKind.i64 i1 ∧
        ((i1 != 0) = true → R (Value.int IntKind.i64 i1) h1) ∧
          ((i1 != 0) = false →
            entersB Try.prog 30 = true ∧
              CallH Try.prog 30 { toList := [Value.pointer (some { block := q0, off := 0 }), Value.int IntKind.i64 q1] } h1 fun (v2 : Value) (h2 : Heap) =>
                ∃ (p1 : Option Addr),
                  ∃ (i2 : Int),
                    v2 = Value.tuple { toList := [Value.pointer p1, Value.int IntKind.i64 i2] } ∧
                      ((i2 != 0) = true → R (Value.int IntKind.i64 i2) h2) ∧
                        ((i2 != 0) = false →
                          (Option.isNone p1 = true →
                              ∀ (n1 : Nat) (rec1 : Array Obj),
                                n1 = Array.size h2 →
                                  rec1 =
                                      Array.push h2
                                        (Obj.cells { toList := [Value.slice none 0 0, Value.bool false, Value.int IntKind.i64 (Int.ofNat 0), Value.int IntKind.i64 (Int.ofNat 0)] } 70 (0, 0)) →
                                    entersB Try.prog 31 = true ∧
                                      CallH Try.prog 31 { toList := [Value.pointer (some { block := q0, off := 0 }), Value.pointer (some { block := n1, off := 0 })] } rec1
                                        fun (v3 : Value) (h3 : Heap) =>
                                        v3 = Value.tuple { toList := [] } ∧
                                          ∃ (m1 : Option Nat),
                                            cellAt h3 { block := q0, off := 2 } = some (Value.map m1) ∧
                                              match m1 with
                                              | some n2 =>
                                                ∃ (x1 : Array MapEntry),
                                                  ∃ (n3 : Nat),
                                                    h3[n2]? = some (Obj.map x1 n3) ∧
                                                      keysOK (Value.int IntKind.i64 q1) x1 ∧
                                                        ∀ (h4 : Heap),
                                                          h4 = Array.setIfInBounds h3 n2 (mput x1 n3 (Value.int IntKind.i64 q1) (Value.pointer (some { block := n1, off := 0 }))) →
                                                            entersB Try.prog 32 = true ∧
                                                              CallH Try.prog 32 { toList := [Value.slice q2p q2l q2c] } h4 fun (v4 : Value) (h5 : Heap) =>
                                                                ∃ (p2 : Option Addr),
                                                                  ∃ (n5 : Nat),
                                                                    ∃ (n6 : Nat),
                                                                      v4 = Value.slice p2 n5 n6 ∧
                                                                        true = true ∧
                                                                          okAt h5 { block := n1, off := 0 } ∧
                                                                            ∀ (h6 : Heap),
                                                                              h6 = upd h5 { block := n1, off := 0 } (Value.slice p2 n5 n6) →
                                                                                true = true ∧
                                                                                  okAt h6 { block := n1, off := 1 } ∧
                                                                                    ∀ (h7 : Heap), h7 = upd h6 { block := n1, off := 1 } (Value.bool true) → R (Value.int IntKind.i64 0) h7
                                              | none => False) ∧
                            (Option.isNone p1 = false →
                              entersB Try.prog 32 = true ∧
                                CallH Try.prog 32 { toList := [Value.slice q2p q2l q2c] } h2 fun (v5 : Value) (h8 : Heap) =>
                                  ∃ (p3 : Option Addr),
                                    ∃ (n7 : Nat),
                                      ∃ (n8 : Nat),
                                        v5 = Value.slice p3 n7 n8 ∧
                                          match p1 with
                                          | some a1 =>
                                            true = true ∧
                                              okAt h8 a1 ∧
                                                ∀ (h9 : Heap),
                                                  h9 = upd h8 a1 (Value.slice p3 n7 n8) →
                                                    match p1 with
                                                    | some a2 =>
                                                      true = true ∧ okAt h9 (Addr.add a2 1) ∧ ∀ (h10 : Heap), h10 = upd h9 (Addr.add a2 1) (Value.bool true) → R (Value.int IntKind.i64 0) h10
                                                    | none => False
                                          | none => False)))

theorem cPut_call (q0 : Nat) (q1 : Int) (q2p : Option Addr) (q2l : Nat) (q2c : Nat) {h : Heap} {R : Value → Heap → Prop} (H : cPut_vc q0 q1 q2p q2l q2c h R) : CallH Try.prog 10 ⟨[.pointer (some ⟨q0, 0, none⟩), .int .i64 q1, .slice q2p q2l q2c]⟩ h R :=
  callH_of_dCode tabOK mixed [(.pointer (some ⟨q0, 0, none⟩), false), (.int .i64 q1, false), (.slice q2p q2l q2c, false)] Try.func10 (c := bodyC Try.f10) (by kernel_rfl) (by kernel_rfl : Try.f10.ntmps = 48) rfl
    (Eq.mp (by kernel_rfl : cPut_vc q0 q1 q2p q2l q2c h R = dCode Try.prog T ⟨[], [], [], [], []⟩ (bodyC Try.f10) none (dEnd T (Try.f10.results.toList) R) (startE 48 [(.pointer (some ⟨q0, 0, none⟩), false), (.int .i64 q1, false), (.slice q2p q2l q2c, false)]) h) H)

/-- (*incipit/cache.Cache).Put -/
def cPutN_vc (q1 : Int) (q2p : Option Addr) (q2l : Nat) (q2c : Nat) (h : Heap) (R : Value → Heap → Prop) : Prop :=
  entersB Try.prog 29 = true ∧
  CallH Try.prog 29 { toList := [Value.pointer none, Value.int IntKind.i64 q1, Value.int IntKind.i64 (↑q2l : Int)] } h fun (v1 : Value) (h1 : Heap) =>
    ∃ (i1 : Int),
      v1 = Value.int IntKind.i64 i1 ∧
        ((i1 != 0) = true → R (Value.int IntKind.i64 i1) h1) ∧
          ((i1 != 0) = false →
            entersB Try.prog 30 = true ∧
              CallH Try.prog 30 { toList := [Value.pointer none, Value.int IntKind.i64 q1] } h1 fun (v2 : Value) (h2 : Heap) =>
                ∃ (p1 : Option Addr),
                  ∃ (i2 : Int),
                    v2 = Value.tuple { toList := [Value.pointer p1, Value.int IntKind.i64 i2] } ∧
                      ((i2 != 0) = true → R (Value.int IntKind.i64 i2) h2) ∧
                        ((i2 != 0) = false →
                          (Option.isNone p1 = true →
                              ∀ (n1 : Nat) (rec1 : Array Obj),
                                n1 = Array.size h2 →
                                  rec1 =
                                      Array.push h2
                                        (Obj.cells { toList := [Value.slice none 0 0, Value.bool false, Value.int IntKind.i64 (Int.ofNat 0), Value.int IntKind.i64 (Int.ofNat 0)] } 70 (0, 0)) →
                                    entersB Try.prog 31 = true ∧
                                      CallH Try.prog 31 { toList := [Value.pointer none, Value.pointer (some { block := n1, off := 0 })] } rec1 fun (v3 : Value) (h3 : Heap) =>
                                        v3 = Value.tuple { toList := [] } ∧ False) ∧
                            (Option.isNone p1 = false →
                              entersB Try.prog 32 = true ∧
                                CallH Try.prog 32 { toList := [Value.slice q2p q2l q2c] } h2 fun (v4 : Value) (h4 : Heap) =>
                                  ∃ (p2 : Option Addr),
                                    ∃ (n2 : Nat),
                                      ∃ (n3 : Nat),
                                        v4 = Value.slice p2 n2 n3 ∧
                                          match p1 with
                                          | some a1 =>
                                            true = true ∧
                                              okAt h4 a1 ∧
                                                ∀ (h5 : Heap),
                                                  h5 = upd h4 a1 (Value.slice p2 n2 n3) →
                                                    match p1 with
                                                    | some a2 => true = true ∧ okAt h5 (Addr.add a2 1) ∧ ∀ (h6 : Heap), h6 = upd h5 (Addr.add a2 1) (Value.bool true) → R (Value.int IntKind.i64 0) h6
                                                    | none => False
                                          | none => False)))

theorem cPutN_call (q1 : Int) (q2p : Option Addr) (q2l : Nat) (q2c : Nat) {h : Heap} {R : Value → Heap → Prop} (H : cPutN_vc q1 q2p q2l q2c h R) : CallH Try.prog 10 ⟨[.pointer none, .int .i64 q1, .slice q2p q2l q2c]⟩ h R :=
  callH_of_dCode tabOK mixed [(.pointer none, false), (.int .i64 q1, false), (.slice q2p q2l q2c, false)] Try.func10 (c := bodyC Try.f10) (by kernel_rfl) (by kernel_rfl : Try.f10.ntmps = 48) rfl
    (Eq.mp (by kernel_rfl : cPutN_vc q1 q2p q2l q2c h R = dCode Try.prog T ⟨[], [], [], [], []⟩ (bodyC Try.f10) none (dEnd T (Try.f10.results.toList) R) (startE 48 [(.pointer none, false), (.int .i64 q1, false), (.slice q2p q2l q2c, false)]) h) H)

/-- (*incipit/cache.Cache).Pin -/
def cPin_vc (q0 : Nat) (q1 : Int) (h : Heap) (R : Value → Heap → Prop) : Prop :=
  entersB Try.prog 34 = true ∧
  CallH Try.prog 34 { toList := [Value.pointer (some { block := q0, off := 0 }), Value.int IntKind.i64 q1] } h fun (v1 : Value) (h1 : Heap) =>
    ∃ (p1 : Option Addr),
      ∃ (i1 : Int),
        v1 = Value.tuple { toList := [Value.pointer p1, Value.int IntKind.i64 i1] } ∧
          ((i1 != 0) = true → R (Value.int IntKind.i64 i1) h1) ∧
            ((i1 != 0) = false →
              match p1 with
              | some a1 =>
                ∃ (i2 : Int),
                  cellAt h1 (Addr.add a1 2) = some (Value.int IntKind.i64 i2) ∧
                    match p1 with
                    | some a2 =>
                      true = true ∧ okAt h1 (Addr.add a2 2) ∧ ∀ (h2 : Heap), h2 = upd h1 (Addr.add a2 2) (Value.int IntKind.i64 (IntKind.wrap IntKind.i64 (i2 + 1))) → R (Value.int IntKind.i64 0) h2
                    | none => False
              | none => False)

theorem cPin_call (q0 : Nat) (q1 : Int) {h : Heap} {R : Value → Heap → Prop} (H : cPin_vc q0 q1 h R) : CallH Try.prog 12 ⟨[.pointer (some ⟨q0, 0, none⟩), .int .i64 q1]⟩ h R :=
  callH_of_dCode tabOK mixed [(.pointer (some ⟨q0, 0, none⟩), false), (.int .i64 q1, false)] Try.func12 (c := bodyC Try.f12) (by kernel_rfl) (by kernel_rfl : Try.f12.ntmps = 23) rfl
    (Eq.mp (by kernel_rfl : cPin_vc q0 q1 h R = dCode Try.prog T ⟨[], [], [], [], []⟩ (bodyC Try.f12) none (dEnd T (Try.f12.results.toList) R) (startE 23 [(.pointer (some ⟨q0, 0, none⟩), false), (.int .i64 q1, false)]) h) H)

/-- (*incipit/cache.Cache).Pin -/
def cPinN_vc (q1 : Int) (h : Heap) (R : Value → Heap → Prop) : Prop :=
  entersB Try.prog 34 = true ∧
  CallH Try.prog 34 { toList := [Value.pointer none, Value.int IntKind.i64 q1] } h fun (v1 : Value) (h1 : Heap) =>
    ∃ (p1 : Option Addr),
      ∃ (i1 : Int),
        v1 = Value.tuple { toList := [Value.pointer p1, Value.int IntKind.i64 i1] } ∧
          ((i1 != 0) = true → R (Value.int IntKind.i64 i1) h1) ∧
            ((i1 != 0) = false →
              match p1 with
              | some a1 =>
                ∃ (i2 : Int),
                  cellAt h1 (Addr.add a1 2) = some (Value.int IntKind.i64 i2) ∧
                    match p1 with
                    | some a2 =>
                      true = true ∧ okAt h1 (Addr.add a2 2) ∧ ∀ (h2 : Heap), h2 = upd h1 (Addr.add a2 2) (Value.int IntKind.i64 (IntKind.wrap IntKind.i64 (i2 + 1))) → R (Value.int IntKind.i64 0) h2
                    | none => False
              | none => False)

theorem cPinN_call (q1 : Int) {h : Heap} {R : Value → Heap → Prop} (H : cPinN_vc q1 h R) : CallH Try.prog 12 ⟨[.pointer none, .int .i64 q1]⟩ h R :=
  callH_of_dCode tabOK mixed [(.pointer none, false), (.int .i64 q1, false)] Try.func12 (c := bodyC Try.f12) (by kernel_rfl) (by kernel_rfl : Try.f12.ntmps = 23) rfl
    (Eq.mp (by kernel_rfl : cPinN_vc q1 h R = dCode Try.prog T ⟨[], [], [], [], []⟩ (bodyC Try.f12) none (dEnd T (Try.f12.results.toList) R) (startE 23 [(.pointer none, false), (.int .i64 q1, false)]) h) H)

/-- (*incipit/cache.Cache).Get -/
def cGet_vc (q0 : Nat) (q1 : Int) (h : Heap) (R : Value → Heap → Prop) : Prop :=
  entersB Try.prog 29 = true ∧
  CallH Try.prog 29 { toList := [Value.pointer (some { block := q0, off := 0 }), Value.int IntKind.i64 q1, Value.int IntKind.i64 256] } h fun (v1 : Value) (h1 : Heap) =>
    ∃ (i1 : Int),
      v1 = Value.int IntKind.i64 i1 ∧
        ((i1 != 0) = true → R (Value.tuple { toList := [Value.slice none 0 0, Value.int IntKind.i64 i1] }) h1) ∧
          ((i1 != 0) = false →
            entersB Try.prog 30 = true ∧
              CallH Try.prog 30 { toList := [Value.pointer (some { block := q0, off := 0 }), Value.int IntKind.i64 q1] } h1 fun (v2 : Value) (h2 : Heap) =>
                ∃ (p1 : Option Addr),
                  ∃ (i2 : Int),
                    v2 = Value.tuple { toList := [Value.pointer p1, Value.int IntKind.i64 i2] } ∧
                      ((i2 != 0) = true → R (Value.tuple { toList := [Value.slice none 0 0, Value.int IntKind.i64 i2] }) h2) ∧
                        ((i2 != 0) = false →
                          (Option.isNone p1 = true →
                              ∃ (p2 : Option Addr),
                                cellAt h2 { block := q0, off := 0 } = some (Value.pointer p2) ∧
                                  entersB Try.prog 21 = true ∧
                                    CallH Try.prog 21 { toList := [Value.pointer p2, Value.int IntKind.i64 q1] } h2 fun (v3 : Value) (h3 : Heap) =>
                                      ∃ (p3 : Option Addr),
                                        ∃ (n1 : Nat),
                                          ∃ (n2 : Nat),
                                            ∃ (i3 : Int),
                                              v3 = Value.tuple { toList := [Value.slice p3 n1 n2, Value.int IntKind.i64 i3] } ∧
                                                ((i3 != 0) = true → R (Value.tuple { toList := [Value.slice none 0 0, Value.int IntKind.i64 i3] }) h3) ∧
                                                  ((i3 != 0) = false →
                                                    ∀ (n3 : Nat) (rec1 : Array Obj),
                                                      n3 = Array.size h3 →
                                                        rec1 =
                                                            Array.push h3
                                                              (Obj.cells { toList := [Value.slice p3 n1 n2, Value.bool false, Value.int IntKind.i64 0, Value.int IntKind.i64 0] } 70 (0, 0)) →
                                                          entersB Try.prog 31 = true ∧
                                                            CallH Try.prog 31 { toList := [Value.pointer (some { block := q0, off := 0 }), Value.pointer (some { block := n3, off := 0 })] } rec1
                                                              fun (v4 : Value) (h4 : Heap) =>
                                                              v4 = Value.tuple { toList := [] } ∧
                                                                ∃ (m1 : Option Nat),
                                                                  cellAt h4 { block := q0, off := 2 } = some (Value.map m1) ∧
                                                                    match m1 with
                                                                    | some n4 =>
                                                                      ∃ (x1 : Array MapEntry),
                                                                        ∃ (n5 : Nat),
                                                                          h4[n4]? = some (Obj.map x1 n5) ∧
                                                                            keysOK (Value.int IntKind.i64 q1) x1 ∧
                                                                              ∀ (h5 : Heap),
                                                                                h5 =
                                                                                    Array.setIfInBounds h4 n4 (mput x1 n5 (Value.int IntKind.i64 q1) (Value.pointer (some { block := n3, off := 0 }))) →
                                                                                  ∃ (p4 : Option Addr),
                                                                                    ∃ (n7 : Nat),
                                                                                      ∃ (n8 : Nat),
                                                                                        cellAt h5 { block := n3, off := 0 } = some (Value.slice p4 n7 n8) ∧
                                                                                          entersB Try.prog 32 = true ∧
                                                                                            CallH Try.prog 32 { toList := [Value.slice p4 n7 n8] } h5 fun (v5 : Value) (h6 : Heap) =>
                                                                                              ∃ (p5 : Option Addr),
                                                                                                ∃ (n9 : Nat),
                                                                                                  ∃ (n10 : Nat),
                                                                                                    v5 = Value.slice p5 n9 n10 ∧
                                                                                                      R (Value.tuple { toList := [Value.slice p5 n9 n10, Value.int IntKind.i64 0] }) h6
                                                                    | none => False)) ∧
                            (Option.isNone p1 = false →
                              match p1 with
                              | some a1 =>
                                ∃ (p7 : Option Addr),
                                  ∃ (n11 : Nat),
                                    ∃ (n12 : Nat),
                                      cellAt h2 a1 = some (Value.slice p7 n11 n12) ∧
                                        entersB Try.prog 32 = true ∧
                                          CallH Try.prog 32 { toList := [Value.slice p7 n11 n12] } h2 fun (v6 : Value) (h7 : Heap) =>
                                            ∃ (p8 : Option Addr),
                                              ∃ (n13 : Nat), ∃ (n14 : Nat), v6 = Value.slice p8 n13 n14 ∧ R (Value.tuple { toList := [Value.slice p8 n13 n14, Value.int IntKind.i64 0] }) h7
                              | none => False)))

theorem cGet_call (q0 : Nat) (q1 : Int) {h : Heap} {R : Value → Heap → Prop} (H : cGet_vc q0 q1 h R) : CallH Try.prog 13 ⟨[.pointer (some ⟨q0, 0, none⟩), .int .i64 q1]⟩ h R :=
  callH_of_dCode tabOK mixed [(.pointer (some ⟨q0, 0, none⟩), false), (.int .i64 q1, false)] Try.func13 (c := bodyC Try.f13) (by kernel_rfl) (by kernel_rfl : Try.f13.ntmps = 57) rfl
    (Eq.mp (by kernel_rfl : cGet_vc q0 q1 h R = dCode Try.prog T ⟨[], [], [], [], []⟩ (bodyC Try.f13) none (dEnd T (Try.f13.results.toList) R) (startE 57 [(.pointer (some ⟨q0, 0, none⟩), false), (.int .i64 q1, false)]) h) H)

/-- (*incipit/cache.Cache).Get -/
def cGetN_vc (q1 : Int) (h : Heap) (R : Value → Heap → Prop) : Prop :=
  entersB Try.prog 29 = true ∧
  CallH Try.prog 29 { toList := [Value.pointer none, Value.int IntKind.i64 q1, Value.int IntKind.i64 256] } h fun (v1 : Value) (h1 : Heap) =>
    ∃ (i1 : Int),
      v1 = Value.int IntKind.i64 i1 ∧
        ((i1 != 0) = true → R (Value.tuple { toList := [Value.slice none 0 0, Value.int IntKind.i64 i1] }) h1) ∧
          ((i1 != 0) = false →
            entersB Try.prog 30 = true ∧
              CallH Try.prog 30 { toList := [Value.pointer none, Value.int IntKind.i64 q1] } h1 fun (v2 : Value) (h2 : Heap) =>
                ∃ (p1 : Option Addr),
                  ∃ (i2 : Int),
                    v2 = Value.tuple { toList := [Value.pointer p1, Value.int IntKind.i64 i2] } ∧
                      ((i2 != 0) = true → R (Value.tuple { toList := [Value.slice none 0 0, Value.int IntKind.i64 i2] }) h2) ∧
                        ((i2 != 0) = false →
                          (Option.isNone p1 = true → False) ∧
                            (Option.isNone p1 = false →
                              match p1 with
                              | some a1 =>
                                ∃ (p3 : Option Addr),
                                  ∃ (n1 : Nat),
                                    ∃ (n2 : Nat),
                                      cellAt h2 a1 = some (Value.slice p3 n1 n2) ∧
                                        entersB Try.prog 32 = true ∧
                                          CallH Try.prog 32 { toList := [Value.slice p3 n1 n2] } h2 fun (v3 : Value) (h3 : Heap) =>
                                            ∃ (p4 : Option Addr),
                                              ∃ (n3 : Nat), ∃ (n4 : Nat), v3 = Value.slice p4 n3 n4 ∧ R (Value.tuple { toList := [Value.slice p4 n3 n4, Value.int IntKind.i64 0] }) h3
                              | none => False)))

theorem cGetN_call (q1 : Int) {h : Heap} {R : Value → Heap → Prop} (H : cGetN_vc q1 h R) : CallH Try.prog 13 ⟨[.pointer none, .int .i64 q1]⟩ h R :=
  callH_of_dCode tabOK mixed [(.pointer none, false), (.int .i64 q1, false)] Try.func13 (c := bodyC Try.f13) (by kernel_rfl) (by kernel_rfl : Try.f13.ntmps = 57) rfl
    (Eq.mp (by kernel_rfl : cGetN_vc q1 h R = dCode Try.prog T ⟨[], [], [], [], []⟩ (bodyC Try.f13) none (dEnd T (Try.f13.results.toList) R) (startE 57 [(.pointer none, false), (.int .i64 q1, false)]) h) H)

/-- (*incipit/cache.Cache).Has -/
def cHas_vc (q0 : Nat) (q1 : Int) (h : Heap) (R : Value → Heap → Prop) : Prop :=
  entersB Try.prog 34 = true ∧
  CallH Try.prog 34 { toList := [Value.pointer (some { block := q0, off := 0 }), Value.int IntKind.i64 q1] } h fun (v1 : Value) (h1 : Heap) =>
    ∃ (p1 : Option Addr), ∃ (i1 : Int), v1 = Value.tuple { toList := [Value.pointer p1, Value.int IntKind.i64 i1] } ∧ R (Value.bool (i1 == 0)) h1

theorem cHas_call (q0 : Nat) (q1 : Int) {h : Heap} {R : Value → Heap → Prop} (H : cHas_vc q0 q1 h R) : CallH Try.prog 14 ⟨[.pointer (some ⟨q0, 0, none⟩), .int .i64 q1]⟩ h R :=
  callH_of_dCode tabOK mixed [(.pointer (some ⟨q0, 0, none⟩), false), (.int .i64 q1, false)] Try.func14 (c := bodyC Try.f14) (by kernel_rfl) (by kernel_rfl : Try.f14.ntmps = 15) rfl
    (Eq.mp (by kernel_rfl : cHas_vc q0 q1 h R = dCode Try.prog T ⟨[], [], [], [], []⟩ (bodyC Try.f14) none (dEnd T (Try.f14.results.toList) R) (startE 15 [(.pointer (some ⟨q0, 0, none⟩), false), (.int .i64 q1, false)]) h) H)

/-- (*incipit/cache.Cache).Has -/
def cHasN_vc (q1 : Int) (h : Heap) (R : Value → Heap → Prop) : Prop :=
  entersB Try.prog 34 = true ∧
  CallH Try.prog 34 { toList := [Value.pointer none, Value.int IntKind.i64 q1] } h fun (v1 : Value) (h1 : Heap) =>
    ∃ (p1 : Option Addr), ∃ (i1 : Int), v1 = Value.tuple { toList := [Value.pointer p1, Value.int IntKind.i64 i1] } ∧ R (Value.bool (i1 == 0)) h1

theorem cHasN_call (q1 : Int) {h : Heap} {R : Value → Heap → Prop} (H : cHasN_vc q1 h R) : CallH Try.prog 14 ⟨[.pointer none, .int .i64 q1]⟩ h R :=
  callH_of_dCode tabOK mixed [(.pointer none, false), (.int .i64 q1, false)] Try.func14 (c := bodyC Try.f14) (by kernel_rfl) (by kernel_rfl : Try.f14.ntmps = 15) rfl
    (Eq.mp (by kernel_rfl : cHasN_vc q1 h R = dCode Try.prog T ⟨[], [], [], [], []⟩ (bodyC Try.f14) none (dEnd T (Try.f14.results.toList) R) (startE 15 [(.pointer none, false), (.int .i64 q1, false)]) h) H)

/-- (*incipit/cache.Cache).Held -/
def cHeld_vc (q0 : Nat) (h : Heap) (R : Value → Heap → Prop) : Prop :=
  ∀ (n1 : Nat) (rec1 : Array Obj),
  n1 = Array.size h →
    rec1 = Array.push h (Obj.cells { toList := [Value.pointer (some { block := q0, off := 0 })] } 27 (0, 0)) →
      ∃ (p1 : Option Addr),
        cellAt rec1 { block := n1, off := 0 } = some (Value.pointer p1) ∧
          entersB Try.prog 35 = true ∧
            CallH Try.prog 35 { toList := [Value.pointer p1] } rec1 fun (v1 : Value) (h1 : Heap) =>
              ∃ (t1 : Bool),
                v1 = Value.bool t1 ∧
                  (t1 = true → R (Value.slice none 0 0) h1) ∧
                    (t1 = false →
                      ∃ (p2 : Option Addr),
                        cellAt h1 { block := n1, off := 0 } = some (Value.pointer p2) ∧
                          match p2 with
                          | some a1 =>
                            ∃ (m1 : Option Nat),
                              cellAt h1 (Addr.add a1 2) = some (Value.map m1) ∧
                                entersB Try.prog 37 = true ∧
                                  CallH Try.prog 37 { toList := [Value.map m1] } h1 fun (v2 : Value) (h2 : Heap) =>
                                    ∃ (v3 : Value),
                                      v2 = v3 ∧
                                        entersB Try.prog 36 = true ∧
                                          CallH Try.prog 36 { toList := [v3, Value.func (Fn.func 38) { toList := [] } { toList := [Value.pointer (some { block := n1, off := 0 })] }] } h2
                                            fun (v4 : Value) (h3 : Heap) => ∃ (p4 : Option Addr), ∃ (n2 : Nat), ∃ (n3 : Nat), v4 = Value.slice p4 n2 n3 ∧ R (Value.slice p4 n2 n3) h3
                          | none => False)

theorem cHeld_call (q0 : Nat) {h : Heap} {R : Value → Heap → Prop} (H : cHeld_vc q0 h R) : CallH Try.prog 15 ⟨[.pointer (some ⟨q0, 0, none⟩)]⟩ h R :=
  callH_of_dCode tabOK mixed [(.pointer (some ⟨q0, 0, none⟩), false)] Try.func15 (c := bodyC Try.f15) (by kernel_rfl) (by kernel_rfl : Try.f15.ntmps = 12) rfl
    (Eq.mp (by kernel_rfl : cHeld_vc q0 h R = dCode Try.prog T ⟨[], [], [], [], []⟩ (bodyC Try.f15) none (dEnd T (Try.f15.results.toList) R) (startE 12 [(.pointer (some ⟨q0, 0, none⟩), false)]) h) H)

/-- (*incipit/cache.Cache).Held -/
def cHeldN_vc (h : Heap) (R : Value → Heap → Prop) : Prop :=
  ∀ (n1 : Nat) (rec1 : Array Obj),
  n1 = Array.size h →
    rec1 = Array.push h (Obj.cells { toList := [Value.pointer none] } 27 (0, 0)) →
      ∃ (p1 : Option Addr),
        cellAt rec1 { block := n1, off := 0 } = some (Value.pointer p1) ∧
          entersB Try.prog 35 = true ∧
            CallH Try.prog 35 { toList := [Value.pointer p1] } rec1 fun (v1 : Value) (h1 : Heap) =>
              ∃ (t1 : Bool),
                v1 = Value.bool t1 ∧
                  (t1 = true → R (Value.slice none 0 0) h1) ∧
                    (t1 = false →
                      ∃ (p2 : Option Addr),
                        cellAt h1 { block := n1, off := 0 } = some (Value.pointer p2) ∧
                          match p2 with
                          | some a1 =>
                            ∃ (m1 : Option Nat),
                              cellAt h1 (Addr.add a1 2) = some (Value.map m1) ∧
                                entersB Try.prog 37 = true ∧
                                  CallH Try.prog 37 { toList := [Value.map m1] } h1 fun (v2 : Value) (h2 : Heap) =>
                                    ∃ (v3 : Value),
                                      v2 = v3 ∧
                                        entersB Try.prog 36 = true ∧
                                          CallH Try.prog 36 { toList := [v3, Value.func (Fn.func 38) { toList := [] } { toList := [Value.pointer (some { block := n1, off := 0 })] }] } h2
                                            fun (v4 : Value) (h3 : Heap) => ∃ (p4 : Option Addr), ∃ (n2 : Nat), ∃ (n3 : Nat), v4 = Value.slice p4 n2 n3 ∧ R (Value.slice p4 n2 n3) h3
                          | none => False)

theorem cHeldN_call  {h : Heap} {R : Value → Heap → Prop} (H : cHeldN_vc  h R) : CallH Try.prog 15 ⟨[.pointer none]⟩ h R :=
  callH_of_dCode tabOK mixed [(.pointer none, false)] Try.func15 (c := bodyC Try.f15) (by kernel_rfl) (by kernel_rfl : Try.f15.ntmps = 12) rfl
    (Eq.mp (by kernel_rfl : cHeldN_vc  h R = dCode Try.prog T ⟨[], [], [], [], []⟩ (bodyC Try.f15) none (dEnd T (Try.f15.results.toList) R) (startE 12 [(.pointer none, false)]) h) H)

/-- (*incipit/cache.Cache).Forget -/
def cForget_vc (q0 : Nat) (q1 : Int) (h : Heap) (R : Value → Heap → Prop) : Prop :=
  entersB Try.prog 34 = true ∧
  CallH Try.prog 34 { toList := [Value.pointer (some { block := q0, off := 0 }), Value.int IntKind.i64 q1] } h fun (v1 : Value) (h1 : Heap) =>
    ∃ (p1 : Option Addr),
      ∃ (i1 : Int),
        v1 = Value.tuple { toList := [Value.pointer p1, Value.int IntKind.i64 i1] } ∧
          ((i1 != 0) = true → R (Value.int IntKind.i64 i1) h1) ∧
            ((i1 != 0) = false →
              match p1 with
              | some a1 =>
                ∃ (i2 : Int),
                  cellAt h1 (Addr.add a1 2) = some (Value.int IntKind.i64 i2) ∧
                    (decide (i2 > 0) = true → R (Value.int IntKind.i64 7) h1) ∧
                      (decide (i2 > 0) = false →
                        ∃ (m1 : Option Nat),
                          cellAt h1 { block := q0, off := 2 } = some (Value.map m1) ∧
                            match m1 with
                            | some n1 =>
                              ∃ (x1 : Array MapEntry),
                                ∃ (n2 : Nat),
                                  h1[n1]? = some (Obj.map x1 n2) ∧
                                    keysOK (Value.int IntKind.i64 q1) x1 ∧
                                      ∀ (h2 : Heap),
                                        h2 =
                                            Array.setIfInBounds h1 n1
                                              (match mfind (Value.int IntKind.i64 q1) x1 with
                                              | some (n4, v2) => Obj.map (Array.eraseIdxIfInBounds x1 n4) n2
                                              | none => Obj.map x1 n2) →
                                          R (Value.int IntKind.i64 0) h2
                            | none => False)
              | none => False)

theorem cForget_call (q0 : Nat) (q1 : Int) {h : Heap} {R : Value → Heap → Prop} (H : cForget_vc q0 q1 h R) : CallH Try.prog 16 ⟨[.pointer (some ⟨q0, 0, none⟩), .int .i64 q1]⟩ h R :=
  callH_of_dCode tabOK mixed [(.pointer (some ⟨q0, 0, none⟩), false), (.int .i64 q1, false)] Try.func16 (c := bodyC Try.f16) (by kernel_rfl) (by kernel_rfl : Try.f16.ntmps = 28) rfl
    (Eq.mp (by kernel_rfl : cForget_vc q0 q1 h R = dCode Try.prog T ⟨[], [], [], [], []⟩ (bodyC Try.f16) none (dEnd T (Try.f16.results.toList) R) (startE 28 [(.pointer (some ⟨q0, 0, none⟩), false), (.int .i64 q1, false)]) h) H)

/-- (*incipit/cache.Cache).Forget -/
def cForgetN_vc (q1 : Int) (h : Heap) (R : Value → Heap → Prop) : Prop :=
  entersB Try.prog 34 = true ∧
  CallH Try.prog 34 { toList := [Value.pointer none, Value.int IntKind.i64 q1] } h fun (v1 : Value) (h1 : Heap) =>
    ∃ (p1 : Option Addr),
      ∃ (i1 : Int),
        v1 = Value.tuple { toList := [Value.pointer p1, Value.int IntKind.i64 i1] } ∧
          ((i1 != 0) = true → R (Value.int IntKind.i64 i1) h1) ∧
            ((i1 != 0) = false →
              match p1 with
              | some a1 => ∃ (i2 : Int), cellAt h1 (Addr.add a1 2) = some (Value.int IntKind.i64 i2) ∧ (decide (i2 > 0) = true → R (Value.int IntKind.i64 7) h1) ∧ (decide (i2 > 0) = false → False)
              | none => False)

theorem cForgetN_call (q1 : Int) {h : Heap} {R : Value → Heap → Prop} (H : cForgetN_vc q1 h R) : CallH Try.prog 16 ⟨[.pointer none, .int .i64 q1]⟩ h R :=
  callH_of_dCode tabOK mixed [(.pointer none, false), (.int .i64 q1, false)] Try.func16 (c := bodyC Try.f16) (by kernel_rfl) (by kernel_rfl : Try.f16.ntmps = 28) rfl
    (Eq.mp (by kernel_rfl : cForgetN_vc q1 h R = dCode Try.prog T ⟨[], [], [], [], []⟩ (bodyC Try.f16) none (dEnd T (Try.f16.results.toList) R) (startE 28 [(.pointer none, false), (.int .i64 q1, false)]) h) H)

/-- (*incipit/cache.Cache).Unpin -/
def cUnpin_vc (q0 : Nat) (q1 : Int) (h : Heap) (R : Value → Heap → Prop) : Prop :=
  entersB Try.prog 34 = true ∧
  CallH Try.prog 34 { toList := [Value.pointer (some { block := q0, off := 0 }), Value.int IntKind.i64 q1] } h fun (v1 : Value) (h1 : Heap) =>
    ∃ (p1 : Option Addr),
      ∃ (i1 : Int),
        v1 = Value.tuple { toList := [Value.pointer p1, Value.int IntKind.i64 i1] } ∧
          ((i1 != 0) = true → R (Value.int IntKind.i64 i1) h1) ∧
            ((i1 != 0) = false →
              match p1 with
              | some a1 =>
                ∃ (i2 : Int),
                  cellAt h1 (Addr.add a1 2) = some (Value.int IntKind.i64 i2) ∧
                    ((i2 == 0) = true → R (Value.int IntKind.i64 4) h1) ∧
                      ((i2 == 0) = false →
                        match p1 with
                        | some a2 =>
                          ∃ (i3 : Int),
                            cellAt h1 (Addr.add a2 2) = some (Value.int IntKind.i64 i3) ∧
                              match p1 with
                              | some a3 =>
                                true = true ∧
                                  okAt h1 (Addr.add a3 2) ∧ ∀ (h2 : Heap), h2 = upd h1 (Addr.add a3 2) (Value.int IntKind.i64 (IntKind.wrap IntKind.i64 (i3 - 1))) → R (Value.int IntKind.i64 0) h2
                              | none => False
                        | none => False)
              | none => False)

theorem cUnpin_call (q0 : Nat) (q1 : Int) {h : Heap} {R : Value → Heap → Prop} (H : cUnpin_vc q0 q1 h R) : CallH Try.prog 18 ⟨[.pointer (some ⟨q0, 0, none⟩), .int .i64 q1]⟩ h R :=
  callH_of_dCode tabOK mixed [(.pointer (some ⟨q0, 0, none⟩), false), (.int .i64 q1, false)] Try.func18 (c := bodyC Try.f18) (by kernel_rfl) (by kernel_rfl : Try.f18.ntmps = 30) rfl
    (Eq.mp (by kernel_rfl : cUnpin_vc q0 q1 h R = dCode Try.prog T ⟨[], [], [], [], []⟩ (bodyC Try.f18) none (dEnd T (Try.f18.results.toList) R) (startE 30 [(.pointer (some ⟨q0, 0, none⟩), false), (.int .i64 q1, false)]) h) H)

/-- (*incipit/cache.Cache).Unpin -/
def cUnpinN_vc (q1 : Int) (h : Heap) (R : Value → Heap → Prop) : Prop :=
  entersB Try.prog 34 = true ∧
  CallH Try.prog 34 { toList := [Value.pointer none, Value.int IntKind.i64 q1] } h fun (v1 : Value) (h1 : Heap) =>
    ∃ (p1 : Option Addr),
      ∃ (i1 : Int),
        v1 = Value.tuple { toList := [Value.pointer p1, Value.int IntKind.i64 i1] } ∧
          ((i1 != 0) = true → R (Value.int IntKind.i64 i1) h1) ∧
            ((i1 != 0) = false →
              match p1 with
              | some a1 =>
                ∃ (i2 : Int),
                  cellAt h1 (Addr.add a1 2) = some (Value.int IntKind.i64 i2) ∧
                    ((i2 == 0) = true → R (Value.int IntKind.i64 4) h1) ∧
                      ((i2 == 0) = false →
                        match p1 with
                        | some a2 =>
                          ∃ (i3 : Int),
                            cellAt h1 (Addr.add a2 2) = some (Value.int IntKind.i64 i3) ∧
                              match p1 with
                              | some a3 =>
                                true = true ∧
                                  okAt h1 (Addr.add a3 2) ∧ ∀ (h2 : Heap), h2 = upd h1 (Addr.add a3 2) (Value.int IntKind.i64 (IntKind.wrap IntKind.i64 (i3 - 1))) → R (Value.int IntKind.i64 0) h2
                              | none => False
                        | none => False)
              | none => False)

theorem cUnpinN_call (q1 : Int) {h : Heap} {R : Value → Heap → Prop} (H : cUnpinN_vc q1 h R) : CallH Try.prog 18 ⟨[.pointer none, .int .i64 q1]⟩ h R :=
  callH_of_dCode tabOK mixed [(.pointer none, false), (.int .i64 q1, false)] Try.func18 (c := bodyC Try.f18) (by kernel_rfl) (by kernel_rfl : Try.f18.ntmps = 30) rfl
    (Eq.mp (by kernel_rfl : cUnpinN_vc q1 h R = dCode Try.prog T ⟨[], [], [], [], []⟩ (bodyC Try.f18) none (dEnd T (Try.f18.results.toList) R) (startE 30 [(.pointer none, false), (.int .i64 q1, false)]) h) H)

/-- (*incipit/cache.Cache).Flush -/
def cFlush_vc (q0 : Nat) (h : Heap) (R : Value → Heap → Prop) : Prop :=
  ∀ (n1 : Nat) (rec1 : Array Obj),
  n1 = Array.size h →
    rec1 = Array.push h (Obj.cells { toList := [Value.pointer (some { block := q0, off := 0 })] } 27 (0, 0)) →
      ∀ (n2 : Nat) (rec2 : Array Obj),
        n2 = Array.size rec1 →
          rec2 = Array.push rec1 (Obj.cells { toList := [Value.int IntKind.i64 (Int.ofNat 0)] } 24 (0, 0)) →
            ∃ (p1 : Option Addr),
              cellAt rec2 { block := n1, off := 0 } = some (Value.pointer p1) ∧
                entersB Try.prog 35 = true ∧
                  CallH Try.prog 35 { toList := [Value.pointer p1] } rec2 fun (v1 : Value) (h1 : Heap) =>
                    ∃ (t1 : Bool),
                      v1 = Value.bool t1 ∧
                        (t1 = true →
                            true = true ∧
                              okAt h1 { block := n2, off := 0 } ∧
                                ∀ (h2 : Heap),
                                  h2 = upd h1 { block := n2, off := 0 } (Value.int IntKind.i64 2) →
                                    TK.int IntKind.i64 ≠ TK.oth ∧ ∃ (i1 : Int), cellAt h2 { block := n2, off := 0 } = some (Value.int IntKind.i64 i1) ∧ R (Value.int IntKind.i64 i1) h2) ∧
                          (t1 = false →
                            ∃ (p2 : Option Addr),
                              cellAt h1 { block := n1, off := 0 } = some (Value.pointer p2) ∧
                                entersB Try.prog 26 = true ∧
                                  CallH Try.prog 26 { toList := [Value.pointer p2] } h1 fun (v2 : Value) (h3 : Heap) =>
                                    ∃ (v3 : Value),
                                      v2 = v3 ∧
                                        match v3 with
                                        | Value.func (Fn.func x1) x2 x3 =>
                                          entersB Try.prog x1 = true ∧
                                            ∀ (n3 n4 : Nat) (rec3 : LoopState → Option Code → Obj) (h4 : Heap),
                                              n4 = Array.size h3 →
                                                n3 = Array.size h3 + 1 →
                                                  (∀ (x4 : LoopState) (x5 : Option Code), notCells (rec3 x4 x5)) →
                                                    h4 = Array.push (Array.push h3 (Obj.deferred (some []))) (rec3 LoopState.ready none) →
                                                      (∀ (i2 : Int) (t2 : Bool) (h5 : Heap) (I1 : Value → Heap → Prop),
                                                          h5[n3]? = some (rec3 LoopState.ready none) →
                                                            (h5[n3]? = some (rec3 LoopState.ready none) ∧
                                                                ∀ (h6 : Heap),
                                                                  h6 = Array.setIfInBounds h5 n3 (rec3 LoopState.busy none) →
                                                                    ((!t2) = true →
                                                                        h6[n3]? = some (rec3 LoopState.busy none) ∧
                                                                          ∀ (h7 : Heap), h7 = Array.setIfInBounds h6 n3 (rec3 LoopState.ready none) → I1 (Value.bool true) h7) ∧
                                                                      ((!t2) = false →
                                                                        ∃ (p3 : Option Addr),
                                                                          cellAt h6 { block := n1, off := 0 } = some (Value.pointer p3) ∧
                                                                            match p3 with
                                                                            | some a1 =>
                                                                              ∃ (p5 : Option Addr),
                                                                                cellAt h6 a1 = some (Value.pointer p5) ∧
                                                                                  ∃ (p6 : Option Addr),
                                                                                    cellAt h6 { block := n1, off := 0 } = some (Value.pointer p6) ∧
                                                                                      match p6 with
                                                                                      | some a2 =>
                                                                                        ∃ (m1 : Option Nat),
                                                                                          cellAt h6 (Addr.add a2 2) = some (Value.map m1) ∧
                                                                                            ∃ (x6 : Array MapEntry),
                                                                                              mapIs h6 m1 x6 ∧
                                                                                                keysOK (Value.int IntKind.i64 i2) x6 ∧
                                                                                                  (∀ (v5 : Value),
                                                                                                      mget (Value.int IntKind.i64 i2) x6 = some v5 →
                                                                                                        ∃ (p7 : Option Addr),
                                                                                                          v5 = Value.pointer p7 ∧
                                                                                                            match p7 with
                                                                                                            | some a3 =>
                                                                                                              ∃ (p8 : Option Addr),
                                                                                                                ∃ (n6 : Nat),
                                                                                                                  ∃ (n7 : Nat),
                                                                                                                    cellAt h6 a3 = some (Value.slice p8 n6 n7) ∧
                                                                                                                      entersB Try.prog 40 = true ∧
                                                                                                                        CallH Try.prog 40
                                                                                                                          {
                                                                                                                            toList :=
                                                                                                                              [Value.pointer p5, Value.int IntKind.i64 i2, Value.slice p8 n6 n7] }
                                                                                                                          h6 fun (v6 : Value) (h8 : Heap) =>
                                                                                                                          ∃ (i3 : Int),
                                                                                                                            v6 = Value.int IntKind.i64 i3 ∧
                                                                                                                              ((i3 != 0) = true →
                                                                                                                                  true = true ∧
                                                                                                                                    okAt h8 { block := n2, off := 0 } ∧
                                                                                                                                      ∀ (h9 : Heap),
                                                                                                                                        h9 =
                                                                                                                                            upd h8 { block := n2, off := 0 }
                                                                                                                                              (Value.int IntKind.i64 i3) →
                                                                                                                                          h9[n3]? = some (rec3 LoopState.busy none) ∧
                                                                                                                                            ∀ (h10 : Heap),
                                                                                                                                              h10 =
                                                                                                                                                  Array.setIfInBounds h9 n3
                                                                                                                                                    (rec3 LoopState.done (some Code.ret)) →
                                                                                                                                                I1 (Value.bool false) h10) ∧
                                                                                                                                ((i3 != 0) = false →
                                                                                                                                  ∃ (p9 : Option Addr),
                                                                                                                                    cellAt h8 { block := n1, off := 0 } = some (Value.pointer p9) ∧
                                                                                                                                      match p9 with
                                                                                                                                      | some a4 =>
                                                                                                                                        ∃ (m2 : Option Nat),
                                                                                                                                          cellAt h8 (Addr.add a4 2) = some (Value.map m2) ∧
                                                                                                                                            ∃ (x7 : Array MapEntry),
                                                                                                                                              mapIs h8 m2 x7 ∧
                                                                                                                                                keysOK (Value.int IntKind.i64 i2) x7 ∧
                                                                                                                                                  (∀ (v7 : Value),
                                                                                                                                                      mget (Value.int IntKind.i64 i2) x7 = some v7 →
                                                                                                                                                        ∃ (p10 : Option Addr),
                                                                                                                                                          v7 = Value.pointer p10 ∧
                                                                                                                                                            match p10 with
                                                                                                                                                            | some a5 =>
                                                                                                                                                              true = true ∧
                                                                                                                                                                okAt h8 (Addr.add a5 1) ∧
                                                                                                                                                                  ∀ (h11 : Heap),
                                                                                                                                                                    h11 =
                                                                                                                                                                        upd h8 (Addr.add a5 1)
                                                                                                                                                                          (Value.bool false) →
                                                                                                                                                                      h11[n3]? =
                                                                                                                                                                          some
                                                                                                                                                                            (rec3 LoopState.busy none) ∧
                                                                                                                                                                        ∀ (h12 : Heap),
                                                                                                                                                                          h12 =
                                                                                                                                                                              Array.setIfInBounds h11 n3
                                                                                                                                                                                (rec3 LoopState.ready
                                                                                                                                                                                  none) →
                                                                                                                                                                            I1 (Value.bool true) h12
                                                                                                                                                            | none => False) ∧
                                                                                                                                                    (mget (Value.int IntKind.i64 i2) x7 = none → False)
                                                                                                                                      | none => False)
                                                                                                            | none => False) ∧
                                                                                                    (mget (Value.int IntKind.i64 i2) x6 = none → False)
                                                                                      | none => False
                                                                            | none => False)) →
                                                              CallV Try.prog (yieldV n3) { toList := [Value.int IntKind.i64 i2, Value.bool t2] } h5 I1) →
                                                        CallH Try.prog x1 { toList := List.append x2.1 (yieldV n3 :: x3.1) } h4 fun (v8 : Value) (h13 : Heap) =>
                                                          (h13[n3]? = some (rec3 LoopState.done (some Code.ret)) ∧
                                                              ∀ (h14 : Heap),
                                                                h14 = Array.setIfInBounds h13 n3 (rec3 LoopState.exhausted (some Code.ret)) →
                                                                  h14[n4]? = some (Obj.deferred (some [])) ∧
                                                                    ∀ (h15 : Heap),
                                                                      h15 = Array.setIfInBounds h14 n4 (Obj.deferred none) →
                                                                        TK.int IntKind.i64 ≠ TK.oth ∧
                                                                          ∃ (i4 : Int), cellAt h15 { block := n2, off := 0 } = some (Value.int IntKind.i64 i4) ∧ R (Value.int IntKind.i64 i4) h15) ∨
                                                            h13[n3]? = some (rec3 LoopState.ready none) ∧
                                                              ∀ (h16 : Heap),
                                                                h16 = Array.setIfInBounds h13 n3 (rec3 LoopState.exhausted none) →
                                                                  true = true ∧
                                                                    okAt h16 { block := n2, off := 0 } ∧
                                                                      ∀ (h17 : Heap),
                                                                        h17 = upd h16 { block := n2, off := 0 } (Value.int IntKind.i64 0) →
                                                                          h17[n4]? = some (Obj.deferred (some [])) ∧
                                                                            ∀ (h18 : Heap),
                                                                              h18 = Array.setIfInBounds h17 n4 (Obj.deferred none) →
                                                                                TK.int IntKind.i64 ≠ TK.oth ∧
                                                                                  ∃ (i5 : Int),
                                                                                    cellAt h18 { block := n2, off := 0 } = some (Value.int IntKind.i64 i5) ∧ R (Value.int IntKind.i64 i5) h18
                                        | v9 => False)

theorem cFlush_call (q0 : Nat) {h : Heap} {R : Value → Heap → Prop} (H : cFlush_vc q0 h R) : CallH Try.prog 19 ⟨[.pointer (some ⟨q0, 0, none⟩)]⟩ h R :=
  callH_of_dCode tabOK mixed [(.pointer (some ⟨q0, 0, none⟩), false)] Try.func19 (c := bodyC Try.f19) (by kernel_rfl) (by kernel_rfl : Try.f19.ntmps = 40) rfl
    (Eq.mp (by kernel_rfl : cFlush_vc q0 h R = dCode Try.prog T ⟨[], [], [], [(6, [.int .i64, .bool]), (6, [.int .i64, .bool]), (6, [.int .i64, .bool]), (6, [.int .i64, .bool])], []⟩ (bodyC Try.f19) none (dEnd T (Try.f19.results.toList) R) (startE 40 [(.pointer (some ⟨q0, 0, none⟩), false)]) h) H)

/-- (*incipit/cache.Cache).Flush -/
def cFlushN_vc (h : Heap) (R : Value → Heap → Prop) : Prop :=
  ∀ (n1 : Nat) (rec1 : Array Obj),
  n1 = Array.size h →
    rec1 = Array.push h (Obj.cells { toList := [Value.pointer none] } 27 (0, 0)) →
      ∀ (n2 : Nat) (rec2 : Array Obj),
        n2 = Array.size rec1 →
          rec2 = Array.push rec1 (Obj.cells { toList := [Value.int IntKind.i64 (Int.ofNat 0)] } 24 (0, 0)) →
            ∃ (p1 : Option Addr),
              cellAt rec2 { block := n1, off := 0 } = some (Value.pointer p1) ∧
                entersB Try.prog 35 = true ∧
                  CallH Try.prog 35 { toList := [Value.pointer p1] } rec2 fun (v1 : Value) (h1 : Heap) =>
                    ∃ (t1 : Bool),
                      v1 = Value.bool t1 ∧
                        (t1 = true →
                            true = true ∧
                              okAt h1 { block := n2, off := 0 } ∧
                                ∀ (h2 : Heap),
                                  h2 = upd h1 { block := n2, off := 0 } (Value.int IntKind.i64 2) →
                                    TK.int IntKind.i64 ≠ TK.oth ∧ ∃ (i1 : Int), cellAt h2 { block := n2, off := 0 } = some (Value.int IntKind.i64 i1) ∧ R (Value.int IntKind.i64 i1) h2) ∧
                          (t1 = false →
                            ∃ (p2 : Option Addr),
                              cellAt h1 { block := n1, off := 0 } = some (Value.pointer p2) ∧
                                entersB Try.prog 26 = true ∧
                                  CallH Try.prog 26 { toList := [Value.pointer p2] } h1 fun (v2 : Value) (h3 : Heap) =>
                                    ∃ (v3 : Value),
                                      v2 = v3 ∧
                                        match v3 with
                                        | Value.func (Fn.func x1) x2 x3 =>
                                          entersB Try.prog x1 = true ∧
                                            ∀ (n3 n4 : Nat) (rec3 : LoopState → Option Code → Obj) (h4 : Heap),
                                              n4 = Array.size h3 →
                                                n3 = Array.size h3 + 1 →
                                                  (∀ (x4 : LoopState) (x5 : Option Code), notCells (rec3 x4 x5)) →
                                                    h4 = Array.push (Array.push h3 (Obj.deferred (some []))) (rec3 LoopState.ready none) →
                                                      (∀ (i2 : Int) (t2 : Bool) (h5 : Heap) (I1 : Value → Heap → Prop),
                                                          h5[n3]? = some (rec3 LoopState.ready none) →
                                                            (h5[n3]? = some (rec3 LoopState.ready none) ∧
                                                                ∀ (h6 : Heap),
                                                                  h6 = Array.setIfInBounds h5 n3 (rec3 LoopState.busy none) →
                                                                    ((!t2) = true →
                                                                        h6[n3]? = some (rec3 LoopState.busy none) ∧
                                                                          ∀ (h7 : Heap), h7 = Array.setIfInBounds h6 n3 (rec3 LoopState.ready none) → I1 (Value.bool true) h7) ∧
                                                                      ((!t2) = false →
                                                                        ∃ (p3 : Option Addr),
                                                                          cellAt h6 { block := n1, off := 0 } = some (Value.pointer p3) ∧
                                                                            match p3 with
                                                                            | some a1 =>
                                                                              ∃ (p5 : Option Addr),
                                                                                cellAt h6 a1 = some (Value.pointer p5) ∧
                                                                                  ∃ (p6 : Option Addr),
                                                                                    cellAt h6 { block := n1, off := 0 } = some (Value.pointer p6) ∧
                                                                                      match p6 with
                                                                                      | some a2 =>
                                                                                        ∃ (m1 : Option Nat),
                                                                                          cellAt h6 (Addr.add a2 2) = some (Value.map m1) ∧
                                                                                            ∃ (x6 : Array MapEntry),
                                                                                              mapIs h6 m1 x6 ∧
                                                                                                keysOK (Value.int IntKind.i64 i2) x6 ∧
                                                                                                  (∀ (v5 : Value),
                                                                                                      mget (Value.int IntKind.i64 i2) x6 = some v5 →
                                                                                                        ∃ (p7 : Option Addr),
                                                                                                          v5 = Value.pointer p7 ∧
                                                                                                            match p7 with
                                                                                                            | some a3 =>
                                                                                                              ∃ (p8 : Option Addr),
                                                                                                                ∃ (n6 : Nat),
                                                                                                                  ∃ (n7 : Nat),
                                                                                                                    cellAt h6 a3 = some (Value.slice p8 n6 n7) ∧
                                                                                                                      entersB Try.prog 40 = true ∧
                                                                                                                        CallH Try.prog 40
                                                                                                                          {
                                                                                                                            toList :=
                                                                                                                              [Value.pointer p5, Value.int IntKind.i64 i2, Value.slice p8 n6 n7] }
                                                                                                                          h6 fun (v6 : Value) (h8 : Heap) =>
                                                                                                                          ∃ (i3 : Int),
                                                                                                                            v6 = Value.int IntKind.i64 i3 ∧
                                                                                                                              ((i3 != 0) = true →
                                                                                                                                  true = true ∧
                                                                                                                                    okAt h8 { block := n2, off := 0 } ∧
                                                                                                                                      ∀ (h9 : Heap),
                                                                                                                                        h9 =
                                                                                                                                            upd h8 { block := n2, off := 0 }
                                                                                                                                              (Value.int IntKind.i64 i3) →
                                                                                                                                          h9[n3]? = some (rec3 LoopState.busy none) ∧
                                                                                                                                            ∀ (h10 : Heap),
                                                                                                                                              h10 =
                                                                                                                                                  Array.setIfInBounds h9 n3
                                                                                                                                                    (rec3 LoopState.done (some Code.ret)) →
                                                                                                                                                I1 (Value.bool false) h10) ∧
                                                                                                                                ((i3 != 0) = false →
                                                                                                                                  ∃ (p9 : Option Addr),
                                                                                                                                    cellAt h8 { block := n1, off := 0 } = some (Value.pointer p9) ∧
                                                                                                                                      match p9 with
                                                                                                                                      | some a4 =>
                                                                                                                                        ∃ (m2 : Option Nat),
                                                                                                                                          cellAt h8 (Addr.add a4 2) = some (Value.map m2) ∧
                                                                                                                                            ∃ (x7 : Array MapEntry),
                                                                                                                                              mapIs h8 m2 x7 ∧
                                                                                                                                                keysOK (Value.int IntKind.i64 i2) x7 ∧
                                                                                                                                                  (∀ (v7 : Value),
                                                                                                                                                      mget (Value.int IntKind.i64 i2) x7 = some v7 →
                                                                                                                                                        ∃ (p10 : Option Addr),
                                                                                                                                                          v7 = Value.pointer p10 ∧
                                                                                                                                                            match p10 with
                                                                                                                                                            | some a5 =>
                                                                                                                                                              true = true ∧
                                                                                                                                                                okAt h8 (Addr.add a5 1) ∧
                                                                                                                                                                  ∀ (h11 : Heap),
                                                                                                                                                                    h11 =
                                                                                                                                                                        upd h8 (Addr.add a5 1)
                                                                                                                                                                          (Value.bool false) →
                                                                                                                                                                      h11[n3]? =
                                                                                                                                                                          some
                                                                                                                                                                            (rec3 LoopState.busy none) ∧
                                                                                                                                                                        ∀ (h12 : Heap),
                                                                                                                                                                          h12 =
                                                                                                                                                                              Array.setIfInBounds h11 n3
                                                                                                                                                                                (rec3 LoopState.ready
                                                                                                                                                                                  none) →
                                                                                                                                                                            I1 (Value.bool true) h12
                                                                                                                                                            | none => False) ∧
                                                                                                                                                    (mget (Value.int IntKind.i64 i2) x7 = none → False)
                                                                                                                                      | none => False)
                                                                                                            | none => False) ∧
                                                                                                    (mget (Value.int IntKind.i64 i2) x6 = none → False)
                                                                                      | none => False
                                                                            | none => False)) →
                                                              CallV Try.prog (yieldV n3) { toList := [Value.int IntKind.i64 i2, Value.bool t2] } h5 I1) →
                                                        CallH Try.prog x1 { toList := List.append x2.1 (yieldV n3 :: x3.1) } h4 fun (v8 : Value) (h13 : Heap) =>
                                                          (h13[n3]? = some (rec3 LoopState.done (some Code.ret)) ∧
                                                              ∀ (h14 : Heap),
                                                                h14 = Array.setIfInBounds h13 n3 (rec3 LoopState.exhausted (some Code.ret)) →
                                                                  h14[n4]? = some (Obj.deferred (some [])) ∧
                                                                    ∀ (h15 : Heap),
                                                                      h15 = Array.setIfInBounds h14 n4 (Obj.deferred none) →
                                                                        TK.int IntKind.i64 ≠ TK.oth ∧
                                                                          ∃ (i4 : Int), cellAt h15 { block := n2, off := 0 } = some (Value.int IntKind.i64 i4) ∧ R (Value.int IntKind.i64 i4) h15) ∨
                                                            h13[n3]? = some (rec3 LoopState.ready none) ∧
                                                              ∀ (h16 : Heap),
                                                                h16 = Array.setIfInBounds h13 n3 (rec3 LoopState.exhausted none) →
                                                                  true = true ∧
                                                                    okAt h16 { block := n2, off := 0 } ∧
                                                                      ∀ (h17 : Heap),
                                                                        h17 = upd h16 { block := n2, off := 0 } (Value.int IntKind.i64 0) →
                                                                          h17[n4]? = some (Obj.deferred (some [])) ∧
                                                                            ∀ (h18 : Heap),
                                                                              h18 = Array.setIfInBounds h17 n4 (Obj.deferred none) →
                                                                                TK.int IntKind.i64 ≠ TK.oth ∧
                                                                                  ∃ (i5 : Int),
                                                                                    cellAt h18 { block := n2, off := 0 } = some (Value.int IntKind.i64 i5) ∧ R (Value.int IntKind.i64 i5) h18
                                        | v9 => False)

theorem cFlushN_call  {h : Heap} {R : Value → Heap → Prop} (H : cFlushN_vc  h R) : CallH Try.prog 19 ⟨[.pointer none]⟩ h R :=
  callH_of_dCode tabOK mixed [(.pointer none, false)] Try.func19 (c := bodyC Try.f19) (by kernel_rfl) (by kernel_rfl : Try.f19.ntmps = 40) rfl
    (Eq.mp (by kernel_rfl : cFlushN_vc  h R = dCode Try.prog T ⟨[], [], [], [(6, [.int .i64, .bool]), (6, [.int .i64, .bool]), (6, [.int .i64, .bool]), (6, [.int .i64, .bool])], []⟩ (bodyC Try.f19) none (dEnd T (Try.f19.results.toList) R) (startE 40 [(.pointer none, false)]) h) H)

/-- (*incipit/cache.Cache).Changed -/
def cChanged_vc (q0 : Nat) (h : Heap) (R : Value → Heap → Prop) : Prop :=
  ∀ (n1 : Nat) (rec1 : Array Obj),
  n1 = Array.size h →
    rec1 = Array.push h (Obj.cells { toList := [Value.slice none 0 0] } 40 (0, 0)) →
      entersB Try.prog 26 = true ∧
        CallH Try.prog 26 { toList := [Value.pointer (some { block := q0, off := 0 })] } rec1 fun (v1 : Value) (h1 : Heap) =>
          ∃ (v2 : Value),
            v1 = v2 ∧
              match v2 with
              | Value.func (Fn.func x1) x2 x3 =>
                entersB Try.prog x1 = true ∧
                  ∀ (n2 n3 : Nat) (rec2 : LoopState → Option Code → Obj) (h2 : Heap),
                    n3 = Array.size h1 →
                      n2 = Array.size h1 + 1 →
                        (∀ (x4 : LoopState) (x5 : Option Code), notCells (rec2 x4 x5)) →
                          h2 = Array.push (Array.push h1 (Obj.deferred (some []))) (rec2 LoopState.ready none) →
                            (∀ (i1 : Int) (t1 : Bool) (h3 : Heap) (I1 : Value → Heap → Prop),
                                h3[n2]? = some (rec2 LoopState.ready none) →
                                  (h3[n2]? = some (rec2 LoopState.ready none) ∧
                                      ∀ (h4 : Heap),
                                        h4 = Array.setIfInBounds h3 n2 (rec2 LoopState.busy none) →
                                          (t1 = true →
                                              ∃ (p1 : Option Addr),
                                                ∃ (n5 : Nat),
                                                  ∃ (n6 : Nat),
                                                    cellAt h4 { block := n1, off := 0 } = some (Value.slice p1 n5 n6) ∧
                                                      (0 + 1 = 1 ∧ True) ∧
                                                        ∀ (n7 : Nat) (rec4 : Array Obj),
                                                          n7 = Array.size h4 →
                                                            rec4 = Array.push h4 (Obj.cells { toList := [Value.int IntKind.i64 i1] } 3) →
                                                              ∃ (l1 : List Value),
                                                                srcIs rec4 1 1 (Value.slice (some { block := n7, off := 0 }) 1 1) l1 ∧
                                                                  (∀ (v4 : Value), v4 ∈ l1 → isCell v4 = true) ∧
                                                                    List.length l1 = 1 ∧
                                                                      (n5 + 1 ≤ n6 →
                                                                          match p1 with
                                                                          | some a1 =>
                                                                            okRow rec4 (Addr.add a1 (n5 * 1)) (List.length l1) ∧
                                                                              ∀ (h5 : Heap),
                                                                                h5 = updRow rec4 (Addr.add a1 (n5 * 1)) 0 l1 →
                                                                                  true = true ∧
                                                                                    okAt h5 { block := n1, off := 0 } ∧
                                                                                      ∀ (h6 : Heap),
                                                                                        h6 = upd h5 { block := n1, off := 0 } (Value.slice p1 (n5 + 1) n6) →
                                                                                          h6[n2]? = some (rec2 LoopState.busy none) ∧
                                                                                            ∀ (h7 : Heap), h7 = Array.setIfInBounds h6 n2 (rec2 LoopState.ready none) → I1 (Value.bool true) h7
                                                                          | none =>
                                                                            true = true ∧
                                                                              okAt rec4 { block := n1, off := 0 } ∧
                                                                                ∀ (h8 : Heap),
                                                                                  h8 = upd rec4 { block := n1, off := 0 } (Value.slice p1 (n5 + 1) n6) →
                                                                                    h8[n2]? = some (rec2 LoopState.busy none) ∧
                                                                                      ∀ (h9 : Heap), h9 = Array.setIfInBounds h8 n2 (rec2 LoopState.ready none) → I1 (Value.bool true) h9) ∧
                                                                        (n6 < n5 + 1 →
                                                                          (n5 + 1) * 8 ≤ 70368744177664 ∧
                                                                            0 < 8 ∧
                                                                              ∃ (l2 : List Value),
                                                                                srcIs rec4 1 n5 (Value.slice p1 n5 n6) l2 ∧
                                                                                  ∀ (n8 : Nat),
                                                                                    n5 + 1 ≤ n8 →
                                                                                      ∀ (n9 : Nat) (rec5 : Array Obj),
                                                                                        n9 = Array.size rec4 →
                                                                                          rec5 =
                                                                                              Array.push rec4
                                                                                                (Obj.cells
                                                                                                  {
                                                                                                    toList :=
                                                                                                      List.append (List.append l2 l1) (zrow [Value.int IntKind.i64 (Int.ofNat 0)] (n8 - (n5 + 1))) }
                                                                                                  3) →
                                                                                            true = true ∧
                                                                                              okAt rec5 { block := n1, off := 0 } ∧
                                                                                                ∀ (h10 : Heap),
                                                                                                  h10 = upd rec5 { block := n1, off := 0 } (Value.slice (some { block := n9, off := 0 }) (n5 + 1) n8) →
                                                                                                    h10[n2]? = some (rec2 LoopState.busy none) ∧
                                                                                                      ∀ (h11 : Heap),
                                                                                                        h11 = Array.setIfInBounds h10 n2 (rec2 LoopState.ready none) → I1 (Value.bool true) h11)) ∧
                                            (t1 = false →
                                              h4[n2]? = some (rec2 LoopState.busy none) ∧ ∀ (h12 : Heap), h12 = Array.setIfInBounds h4 n2 (rec2 LoopState.ready none) → I1 (Value.bool true) h12)) →
                                    CallV Try.prog (yieldV n2) { toList := [Value.int IntKind.i64 i1, Value.bool t1] } h3 I1) →
                              CallH Try.prog x1 { toList := List.append x2.1 (yieldV n2 :: x3.1) } h2 fun (v5 : Value) (h13 : Heap) =>
                                h13[n2]? = some (rec2 LoopState.ready none) ∧
                                  ∀ (h14 : Heap),
                                    h14 = Array.setIfInBounds h13 n2 (rec2 LoopState.exhausted none) →
                                      ∃ (p3 : Option Addr),
                                        ∃ (n10 : Nat),
                                          ∃ (n11 : Nat),
                                            cellAt h14 { block := n1, off := 0 } = some (Value.slice p3 n10 n11) ∧
                                              h14[n3]? = some (Obj.deferred (some [])) ∧ ∀ (h15 : Heap), h15 = Array.setIfInBounds h14 n3 (Obj.deferred none) → R (Value.slice p3 n10 n11) h15
              | v6 => False

theorem cChanged_call (q0 : Nat) {h : Heap} {R : Value → Heap → Prop} (H : cChanged_vc q0 h R) : CallH Try.prog 20 ⟨[.pointer (some ⟨q0, 0, none⟩)]⟩ h R :=
  callH_of_dCode tabOK mixed [(.pointer (some ⟨q0, 0, none⟩), false)] Try.func20 (c := bodyC Try.f20) (by kernel_rfl) (by kernel_rfl : Try.f20.ntmps = 16) rfl
    (Eq.mp (by kernel_rfl : cChanged_vc q0 h R = dCode Try.prog T ⟨[], [], [], [(5, [.int .i64, .bool]), (5, [.int .i64, .bool]), (5, [.int .i64, .bool]), (5, [.int .i64, .bool])], []⟩ (bodyC Try.f20) none (dEnd T (Try.f20.results.toList) R) (startE 16 [(.pointer (some ⟨q0, 0, none⟩), false)]) h) H)

/-- (*incipit/cache.Cache).Changed -/
def cChangedN_vc (h : Heap) (R : Value → Heap → Prop) : Prop :=
  ∀ (n1 : Nat) (rec1 : Array Obj),
  n1 = Array.size h →
    rec1 = Array.push h (Obj.cells { toList := [Value.slice none 0 0] } 40 (0, 0)) →
      entersB Try.prog 26 = true ∧
        CallH Try.prog 26 { toList := [Value.pointer none] } rec1 fun (v1 : Value) (h1 : Heap) =>
          ∃ (v2 : Value),
            v1 = v2 ∧
              match v2 with
              | Value.func (Fn.func x1) x2 x3 =>
                entersB Try.prog x1 = true ∧
                  ∀ (n2 n3 : Nat) (rec2 : LoopState → Option Code → Obj) (h2 : Heap),
                    n3 = Array.size h1 →
                      n2 = Array.size h1 + 1 →
                        (∀ (x4 : LoopState) (x5 : Option Code), notCells (rec2 x4 x5)) →
                          h2 = Array.push (Array.push h1 (Obj.deferred (some []))) (rec2 LoopState.ready none) →
                            (∀ (i1 : Int) (t1 : Bool) (h3 : Heap) (I1 : Value → Heap → Prop),
                                h3[n2]? = some (rec2 LoopState.ready none) →
                                  (h3[n2]? = some (rec2 LoopState.ready none) ∧
                                      ∀ (h4 : Heap),
                                        h4 = Array.setIfInBounds h3 n2 (rec2 LoopState.busy none) →
                                          (t1 = true →
                                              ∃ (p1 : Option Addr),
                                                ∃ (n5 : Nat),
                                                  ∃ (n6 : Nat),
                                                    cellAt h4 { block := n1, off := 0 } = some (Value.slice p1 n5 n6) ∧
                                                      (0 + 1 = 1 ∧ True) ∧
                                                        ∀ (n7 : Nat) (rec4 : Array Obj),
                                                          n7 = Array.size h4 →
                                                            rec4 = Array.push h4 (Obj.cells { toList := [Value.int IntKind.i64 i1] } 3) →
                                                              ∃ (l1 : List Value),
                                                                srcIs rec4 1 1 (Value.slice (some { block := n7, off := 0 }) 1 1) l1 ∧
                                                                  (∀ (v4 : Value), v4 ∈ l1 → isCell v4 = true) ∧
                                                                    List.length l1 = 1 ∧
                                                                      (n5 + 1 ≤ n6 →
                                                                          match p1 with
                                                                          | some a1 =>
                                                                            okRow rec4 (Addr.add a1 (n5 * 1)) (List.length l1) ∧
                                                                              ∀ (h5 : Heap),
                                                                                h5 = updRow rec4 (Addr.add a1 (n5 * 1)) 0 l1 →
                                                                                  true = true ∧
                                                                                    okAt h5 { block := n1, off := 0 } ∧
                                                                                      ∀ (h6 : Heap),
                                                                                        h6 = upd h5 { block := n1, off := 0 } (Value.slice p1 (n5 + 1) n6) →
                                                                                          h6[n2]? = some (rec2 LoopState.busy none) ∧
                                                                                            ∀ (h7 : Heap), h7 = Array.setIfInBounds h6 n2 (rec2 LoopState.ready none) → I1 (Value.bool true) h7
                                                                          | none =>
                                                                            true = true ∧
                                                                              okAt rec4 { block := n1, off := 0 } ∧
                                                                                ∀ (h8 : Heap),
                                                                                  h8 = upd rec4 { block := n1, off := 0 } (Value.slice p1 (n5 + 1) n6) →
                                                                                    h8[n2]? = some (rec2 LoopState.busy none) ∧
                                                                                      ∀ (h9 : Heap), h9 = Array.setIfInBounds h8 n2 (rec2 LoopState.ready none) → I1 (Value.bool true) h9) ∧
                                                                        (n6 < n5 + 1 →
                                                                          (n5 + 1) * 8 ≤ 70368744177664 ∧
                                                                            0 < 8 ∧
                                                                              ∃ (l2 : List Value),
                                                                                srcIs rec4 1 n5 (Value.slice p1 n5 n6) l2 ∧
                                                                                  ∀ (n8 : Nat),
                                                                                    n5 + 1 ≤ n8 →
                                                                                      ∀ (n9 : Nat) (rec5 : Array Obj),
                                                                                        n9 = Array.size rec4 →
                                                                                          rec5 =
                                                                                              Array.push rec4
                                                                                                (Obj.cells
                                                                                                  {
                                                                                                    toList :=
                                                                                                      List.append (List.append l2 l1) (zrow [Value.int IntKind.i64 (Int.ofNat 0)] (n8 - (n5 + 1))) }
                                                                                                  3) →
                                                                                            true = true ∧
                                                                                              okAt rec5 { block := n1, off := 0 } ∧
                                                                                                ∀ (h10 : Heap),
                                                                                                  h10 = upd rec5 { block := n1, off := 0 } (Value.slice (some { block := n9, off := 0 }) (n5 + 1) n8) →
                                                                                                    h10[n2]? = some (rec2 LoopState.busy none) ∧
                                                                                                      ∀ (h11 : Heap),
                                                                                                        h11 = Array.setIfInBounds h10 n2 (rec2 LoopState.ready none) → I1 (Value.bool true) h11)) ∧
                                            (t1 = false →
                                              h4[n2]? = some (rec2 LoopState.busy none) ∧ ∀ (h12 : Heap), h12 = Array.setIfInBounds h4 n2 (rec2 LoopState.ready none) → I1 (Value.bool true) h12)) →
                                    CallV Try.prog (yieldV n2) { toList := [Value.int IntKind.i64 i1, Value.bool t1] } h3 I1) →
                              CallH Try.prog x1 { toList := List.append x2.1 (yieldV n2 :: x3.1) } h2 fun (v5 : Value) (h13 : Heap) =>
                                h13[n2]? = some (rec2 LoopState.ready none) ∧
                                  ∀ (h14 : Heap),
                                    h14 = Array.setIfInBounds h13 n2 (rec2 LoopState.exhausted none) →
                                      ∃ (p3 : Option Addr),
                                        ∃ (n10 : Nat),
                                          ∃ (n11 : Nat),
                                            cellAt h14 { block := n1, off := 0 } = some (Value.slice p3 n10 n11) ∧
                                              h14[n3]? = some (Obj.deferred (some [])) ∧ ∀ (h15 : Heap), h15 = Array.setIfInBounds h14 n3 (Obj.deferred none) → R (Value.slice p3 n10 n11) h15
              | v6 => False

theorem cChangedN_call  {h : Heap} {R : Value → Heap → Prop} (H : cChangedN_vc  h R) : CallH Try.prog 20 ⟨[.pointer none]⟩ h R :=
  callH_of_dCode tabOK mixed [(.pointer none, false)] Try.func20 (c := bodyC Try.f20) (by kernel_rfl) (by kernel_rfl : Try.f20.ntmps = 16) rfl
    (Eq.mp (by kernel_rfl : cChangedN_vc  h R = dCode Try.prog T ⟨[], [], [], [(5, [.int .i64, .bool]), (5, [.int .i64, .bool]), (5, [.int .i64, .bool]), (5, [.int .i64, .bool])], []⟩ (bodyC Try.f20) none (dEnd T (Try.f20.results.toList) R) (startE 16 [(.pointer none, false)]) h) H)

/-- (*incipit/cache.Cache).Drop -/
def cDrop_vc (q0 : Nat) (h : Heap) (R : Value → Heap → Prop) : Prop :=
  entersB Try.prog 35 = true ∧
  CallH Try.prog 35 { toList := [Value.pointer (some { block := q0, off := 0 })] } h fun (v1 : Value) (h1 : Heap) =>
    ∃ (t1 : Bool),
      v1 = Value.bool t1 ∧
        ((!t1) = true →
            ∃ (m1 : Option Nat),
              cellAt h1 { block := q0, off := 2 } = some (Value.map m1) ∧
                match m1 with
                | some n1 =>
                  ∃ (x1 : Array MapEntry),
                    ∃ (n2 : Nat), h1[n1]? = some (Obj.map x1 n2) ∧ ∀ (h2 : Heap), h2 = Array.setIfInBounds h1 n1 (Obj.map { toList := [] } n2) → R (Value.tuple { toList := [] }) h2
                | none => R (Value.tuple { toList := [] }) h1) ∧
          ((!t1) = false → R (Value.tuple { toList := [] }) h1)

theorem cDrop_call (q0 : Nat) {h : Heap} {R : Value → Heap → Prop} (H : cDrop_vc q0 h R) : CallH Try.prog 23 ⟨[.pointer (some ⟨q0, 0, none⟩)]⟩ h R :=
  callH_of_dCode tabOK mixed [(.pointer (some ⟨q0, 0, none⟩), false)] Try.func23 (c := bodyC Try.f23) (by kernel_rfl) (by kernel_rfl : Try.f23.ntmps = 9) rfl
    (Eq.mp (by kernel_rfl : cDrop_vc q0 h R = dCode Try.prog T ⟨[], [], [], [], []⟩ (bodyC Try.f23) none (dEnd T (Try.f23.results.toList) R) (startE 9 [(.pointer (some ⟨q0, 0, none⟩), false)]) h) H)

/-- (*incipit/cache.Cache).Drop -/
def cDropN_vc (h : Heap) (R : Value → Heap → Prop) : Prop :=
  entersB Try.prog 35 = true ∧
  CallH Try.prog 35 { toList := [Value.pointer none] } h fun (v1 : Value) (h1 : Heap) =>
    ∃ (t1 : Bool), v1 = Value.bool t1 ∧ ((!t1) = true → False) ∧ ((!t1) = false → R (Value.tuple { toList := [] }) h1)

theorem cDropN_call  {h : Heap} {R : Value → Heap → Prop} (H : cDropN_vc  h R) : CallH Try.prog 23 ⟨[.pointer none]⟩ h R :=
  callH_of_dCode tabOK mixed [(.pointer none, false)] Try.func23 (c := bodyC Try.f23) (by kernel_rfl) (by kernel_rfl : Try.f23.ntmps = 9) rfl
    (Eq.mp (by kernel_rfl : cDropN_vc  h R = dCode Try.prog T ⟨[], [], [], [], []⟩ (bodyC Try.f23) none (dEnd T (Try.f23.results.toList) R) (startE 9 [(.pointer none, false)]) h) H)

/-- (*incipit/cache.Cache).Counts -/
def cCounts_vc (q0 : Nat) (h : Heap) (R : Value → Heap → Prop) : Prop :=
  entersB Try.prog 35 = true ∧
  CallH Try.prog 35 { toList := [Value.pointer (some { block := q0, off := 0 })] } h fun (v1 : Value) (h1 : Heap) =>
    ∃ (t1 : Bool),
      v1 = Value.bool t1 ∧
        (t1 = true → R (Value.tuple { toList := [Value.int IntKind.i64 0, Value.int IntKind.i64 0] }) h1) ∧
          (t1 = false →
            ∃ (i1 : Int),
              cellAt h1 { block := q0, off := 4 } = some (Value.int IntKind.i64 i1) ∧
                ∃ (i2 : Int), cellAt h1 { block := q0, off := 5 } = some (Value.int IntKind.i64 i2) ∧ R (Value.tuple { toList := [Value.int IntKind.i64 i1, Value.int IntKind.i64 i2] }) h1)

theorem cCounts_call (q0 : Nat) {h : Heap} {R : Value → Heap → Prop} (H : cCounts_vc q0 h R) : CallH Try.prog 24 ⟨[.pointer (some ⟨q0, 0, none⟩)]⟩ h R :=
  callH_of_dCode tabOK mixed [(.pointer (some ⟨q0, 0, none⟩), false)] Try.func24 (c := bodyC Try.f24) (by kernel_rfl) (by kernel_rfl : Try.f24.ntmps = 14) rfl
    (Eq.mp (by kernel_rfl : cCounts_vc q0 h R = dCode Try.prog T ⟨[], [], [], [], []⟩ (bodyC Try.f24) none (dEnd T (Try.f24.results.toList) R) (startE 14 [(.pointer (some ⟨q0, 0, none⟩), false)]) h) H)

/-- (*incipit/cache.Cache).Counts -/
def cCountsN_vc (h : Heap) (R : Value → Heap → Prop) : Prop :=
  entersB Try.prog 35 = true ∧
  CallH Try.prog 35 { toList := [Value.pointer none] } h fun (v1 : Value) (h1 : Heap) =>
    ∃ (t1 : Bool), v1 = Value.bool t1 ∧ (t1 = true → R (Value.tuple { toList := [Value.int IntKind.i64 0, Value.int IntKind.i64 0] }) h1) ∧ (t1 = false → False)

theorem cCountsN_call  {h : Heap} {R : Value → Heap → Prop} (H : cCountsN_vc  h R) : CallH Try.prog 24 ⟨[.pointer none]⟩ h R :=
  callH_of_dCode tabOK mixed [(.pointer none, false)] Try.func24 (c := bodyC Try.f24) (by kernel_rfl) (by kernel_rfl : Try.f24.ntmps = 14) rfl
    (Eq.mp (by kernel_rfl : cCountsN_vc  h R = dCode Try.prog T ⟨[], [], [], [], []⟩ (bodyC Try.f24) none (dEnd T (Try.f24.results.toList) R) (startE 14 [(.pointer none, false)]) h) H)

/-- (*incipit/cache.Cache).All -/
def cAll_vc (q0 : Nat) (h : Heap) (R : Value → Heap → Prop) : Prop :=
  ∀ (n1 : Nat) (rec1 : Array Obj),
  n1 = Array.size h →
    rec1 = Array.push h (Obj.cells { toList := [Value.pointer (some { block := q0, off := 0 })] } 27 (0, 0)) →
      R (Value.func (Fn.func 46) { toList := [] } { toList := [Value.pointer (some { block := n1, off := 0 })] }) rec1

theorem cAll_call (q0 : Nat) {h : Heap} {R : Value → Heap → Prop} (H : cAll_vc q0 h R) : CallH Try.prog 26 ⟨[.pointer (some ⟨q0, 0, none⟩)]⟩ h R :=
  callH_of_dCode tabOK mixed [(.pointer (some ⟨q0, 0, none⟩), false)] Try.func26 (c := bodyC Try.f26) (by kernel_rfl) (by kernel_rfl : Try.f26.ntmps = 4) rfl
    (Eq.mp (by kernel_rfl : cAll_vc q0 h R = dCode Try.prog T ⟨[], [], [], [], []⟩ (bodyC Try.f26) none (dEnd T (Try.f26.results.toList) R) (startE 4 [(.pointer (some ⟨q0, 0, none⟩), false)]) h) H)

/-- (*incipit/cache.Cache).All -/
def cAllN_vc (h : Heap) (R : Value → Heap → Prop) : Prop :=
  ∀ (n1 : Nat) (rec1 : Array Obj),
  n1 = Array.size h →
    rec1 = Array.push h (Obj.cells { toList := [Value.pointer none] } 27 (0, 0)) → R (Value.func (Fn.func 46) { toList := [] } { toList := [Value.pointer (some { block := n1, off := 0 })] }) rec1

theorem cAllN_call  {h : Heap} {R : Value → Heap → Prop} (H : cAllN_vc  h R) : CallH Try.prog 26 ⟨[.pointer none]⟩ h R :=
  callH_of_dCode tabOK mixed [(.pointer none, false)] Try.func26 (c := bodyC Try.f26) (by kernel_rfl) (by kernel_rfl : Try.f26.ntmps = 4) rfl
    (Eq.mp (by kernel_rfl : cAllN_vc  h R = dCode Try.prog T ⟨[], [], [], [], []⟩ (bodyC Try.f26) none (dEnd T (Try.f26.results.toList) R) (startE 4 [(.pointer none, false)]) h) H)

/-- (*incipit/cache.Cache).may -/
def cMay_vc (q0 : Nat) (q1 : Int) (q2 : Int) (h : Heap) (R : Value → Heap → Prop) : Prop :=
  entersB Try.prog 35 = true ∧
  CallH Try.prog 35 { toList := [Value.pointer (some { block := q0, off := 0 })] } h fun (v1 : Value) (h1 : Heap) =>
    ∃ (t1 : Bool),
      v1 = Value.bool t1 ∧
        (t1 = true → R (Value.int IntKind.i64 2) h1) ∧
          (t1 = false →
            (decide (q1 < 0) = true → R (Value.int IntKind.i64 1) h1) ∧
              (decide (q1 < 0) = false →
                ∃ (p1 : Option Addr),
                  cellAt h1 { block := q0, off := 0 } = some (Value.pointer p1) ∧
                    entersB Try.prog 27 = true ∧
                      CallH Try.prog 27 { toList := [Value.pointer p1] } h1 fun (v2 : Value) (h2 : Heap) =>
                        ∃ (i1 : Int),
                          v2 = Value.int IntKind.i64 i1 ∧
                            (decide (q1 ≥ i1) = true → R (Value.int IntKind.i64 1) h2) ∧
                              (decide (q1 ≥ i1) = false → ((q2 != 256) = true → R (Value.int IntKind.i64 1) h2) ∧ ((q2 != 256) = false → R (Value.int IntKind.i64 0) h2))))

theorem cMay_call (q0 : Nat) (q1 : Int) (q2 : Int) {h : Heap} {R : Value → Heap → Prop} (H : cMay_vc q0 q1 q2 h R) : CallH Try.prog 29 ⟨[.pointer (some ⟨q0, 0, none⟩), .int .i64 q1, .int .i64 q2]⟩ h R :=
  callH_of_dCode tabOK mixed [(.pointer (some ⟨q0, 0, none⟩), false), (.int .i64 q1, false), (.int .i64 q2, false)] Try.func29 (c := bodyC Try.f29) (by kernel_rfl) (by kernel_rfl : Try.f29.ntmps = 26) rfl
    (Eq.mp (by kernel_rfl : cMay_vc q0 q1 q2 h R = dCode Try.prog T ⟨[], [], [], [], []⟩ (bodyC Try.f29) none (dEnd T (Try.f29.results.toList) R) (startE 26 [(.pointer (some ⟨q0, 0, none⟩), false), (.int .i64 q1, false), (.int .i64 q2, false)]) h) H)

/-- (*incipit/cache.Cache).may -/
def cMayN_vc (q1 : Int) (q2 : Int) (h : Heap) (R : Value → Heap → Prop) : Prop :=
  entersB Try.prog 35 = true ∧
  CallH Try.prog 35 { toList := [Value.pointer none] } h fun (v1 : Value) (h1 : Heap) =>
    ∃ (t1 : Bool), v1 = Value.bool t1 ∧ (t1 = true → R (Value.int IntKind.i64 2) h1) ∧ (t1 = false → (decide (q1 < 0) = true → R (Value.int IntKind.i64 1) h1) ∧ (decide (q1 < 0) = false → False))

theorem cMayN_call (q1 : Int) (q2 : Int) {h : Heap} {R : Value → Heap → Prop} (H : cMayN_vc q1 q2 h R) : CallH Try.prog 29 ⟨[.pointer none, .int .i64 q1, .int .i64 q2]⟩ h R :=
  callH_of_dCode tabOK mixed [(.pointer none, false), (.int .i64 q1, false), (.int .i64 q2, false)] Try.func29 (c := bodyC Try.f29) (by kernel_rfl) (by kernel_rfl : Try.f29.ntmps = 26) rfl
    (Eq.mp (by kernel_rfl : cMayN_vc q1 q2 h R = dCode Try.prog T ⟨[], [], [], [], []⟩ (bodyC Try.f29) none (dEnd T (Try.f29.results.toList) R) (startE 26 [(.pointer none, false), (.int .i64 q1, false), (.int .i64 q2, false)]) h) H)

/-- (*incipit/cache.Cache).hit -/
def cHit_vc (q0 : Nat) (q1 : Int) (h : Heap) (R : Value → Heap → Prop) : Prop :=
  ∃ (m1 : Option Nat),
  cellAt h { block := q0, off := 2 } = some (Value.map m1) ∧
    ∃ (x1 : Array MapEntry),
      mapIs h m1 x1 ∧
        keysOK (Value.int IntKind.i64 q1) x1 ∧
          (∀ (v1 : Value),
              mget (Value.int IntKind.i64 q1) x1 = some v1 →
                ∃ (p1 : Option Addr),
                  v1 = Value.pointer p1 ∧
                    ∃ (i1 : Int),
                      cellAt h { block := q0, off := 4 } = some (Value.int IntKind.i64 i1) ∧
                        true = true ∧
                          okAt h { block := q0, off := 4 } ∧
                            ∀ (h1 : Heap),
                              h1 = upd h { block := q0, off := 4 } (Value.int IntKind.i64 (IntKind.wrap IntKind.i64 (i1 + 1))) →
                                entersB Try.prog 31 = true ∧
                                  CallH Try.prog 31 { toList := [Value.pointer (some { block := q0, off := 0 }), Value.pointer p1] } h1 fun (v2 : Value) (h2 : Heap) =>
                                    v2 = Value.tuple { toList := [] } ∧ R (Value.tuple { toList := [Value.pointer p1, Value.int IntKind.i64 0] }) h2) ∧
            (mget (Value.int IntKind.i64 q1) x1 = none →
              ∃ (i2 : Int),
                cellAt h { block := q0, off := 5 } = some (Value.int IntKind.i64 i2) ∧
                  true = true ∧
                    okAt h { block := q0, off := 5 } ∧
                      ∀ (h3 : Heap),
                        h3 = upd h { block := q0, off := 5 } (Value.int IntKind.i64 (IntKind.wrap IntKind.i64 (i2 + 1))) →
                          entersB Try.prog 49 = true ∧
                            CallH Try.prog 49 { toList := [Value.pointer (some { block := q0, off := 0 })] } h3 fun (v3 : Value) (h4 : Heap) =>
                              ∃ (i3 : Int), v3 = Value.int IntKind.i64 i3 ∧ R (Value.tuple { toList := [Value.pointer none, Value.int IntKind.i64 i3] }) h4)

theorem cHit_call (q0 : Nat) (q1 : Int) {h : Heap} {R : Value → Heap → Prop} (H : cHit_vc q0 q1 h R) : CallH Try.prog 30 ⟨[.pointer (some ⟨q0, 0, none⟩), .int .i64 q1]⟩ h R :=
  callH_of_dCode tabOK mixed [(.pointer (some ⟨q0, 0, none⟩), false), (.int .i64 q1, false)] Try.func30 (c := bodyC Try.f30) (by kernel_rfl) (by kernel_rfl : Try.f30.ntmps = 38) rfl
    (Eq.mp (by kernel_rfl : cHit_vc q0 q1 h R = dCode Try.prog T ⟨[], [], [], [], []⟩ (bodyC Try.f30) none (dEnd T (Try.f30.results.toList) R) (startE 38 [(.pointer (some ⟨q0, 0, none⟩), false), (.int .i64 q1, false)]) h) H)

/-- (*incipit/cache.Cache).uses -/
def cUses_vc (q0 : Nat) (q1 : Nat) (h : Heap) (R : Value → Heap → Prop) : Prop :=
  ∃ (i1 : Int),
  cellAt h { block := q0, off := 3 } = some (Value.int IntKind.i64 i1) ∧
    true = true ∧
      okAt h { block := q0, off := 3 } ∧
        ∀ (h1 : Heap),
          h1 = upd h { block := q0, off := 3 } (Value.int IntKind.i64 (IntKind.wrap IntKind.i64 (i1 + 1))) →
            ∃ (i2 : Int),
              cellAt h1 { block := q0, off := 3 } = some (Value.int IntKind.i64 i2) ∧
                true = true ∧ okAt h1 { block := q1, off := 3 } ∧ ∀ (h2 : Heap), h2 = upd h1 { block := q1, off := 3 } (Value.int IntKind.i64 i2) → R (Value.tuple { toList := [] }) h2

theorem cUses_call (q0 : Nat) (q1 : Nat) {h : Heap} {R : Value → Heap → Prop} (H : cUses_vc q0 q1 h R) : CallH Try.prog 31 ⟨[.pointer (some ⟨q0, 0, none⟩), .pointer (some ⟨q1, 0, none⟩)]⟩ h R :=
  callH_of_dCode tabOK mixed [(.pointer (some ⟨q0, 0, none⟩), false), (.pointer (some ⟨q1, 0, none⟩), false)] Try.func31 (c := bodyC Try.f31) (by kernel_rfl) (by kernel_rfl : Try.f31.ntmps = 18) rfl
    (Eq.mp (by kernel_rfl : cUses_vc q0 q1 h R = dCode Try.prog T ⟨[], [], [], [], []⟩ (bodyC Try.f31) none (dEnd T (Try.f31.results.toList) R) (startE 18 [(.pointer (some ⟨q0, 0, none⟩), false), (.pointer (some ⟨q1, 0, none⟩), false)]) h) H)

/-- (*incipit/cache.Cache).of -/
def cOf_vc (q0 : Nat) (q1 : Int) (h : Heap) (R : Value → Heap → Prop) : Prop :=
  entersB Try.prog 35 = true ∧
  CallH Try.prog 35 { toList := [Value.pointer (some { block := q0, off := 0 })] } h fun (v1 : Value) (h1 : Heap) =>
    ∃ (t1 : Bool),
      v1 = Value.bool t1 ∧
        (t1 = true → R (Value.tuple { toList := [Value.pointer none, Value.int IntKind.i64 2] }) h1) ∧
          (t1 = false →
            ∃ (m1 : Option Nat),
              cellAt h1 { block := q0, off := 2 } = some (Value.map m1) ∧
                ∃ (x1 : Array MapEntry),
                  mapIs h1 m1 x1 ∧
                    keysOK (Value.int IntKind.i64 q1) x1 ∧
                      (∀ (v2 : Value),
                          mget (Value.int IntKind.i64 q1) x1 = some v2 →
                            ∃ (p1 : Option Addr),
                              v2 = Value.pointer p1 ∧
                                ((!true) = true → R (Value.tuple { toList := [Value.pointer none, Value.int IntKind.i64 4] }) h1) ∧
                                  ((!true) = false → R (Value.tuple { toList := [Value.pointer p1, Value.int IntKind.i64 0] }) h1)) ∧
                        (mget (Value.int IntKind.i64 q1) x1 = none →
                          ((!false) = true → R (Value.tuple { toList := [Value.pointer none, Value.int IntKind.i64 4] }) h1) ∧
                            ((!false) = false → R (Value.tuple { toList := [zeroV T 66, Value.int IntKind.i64 0] }) h1)))

theorem cOf_call (q0 : Nat) (q1 : Int) {h : Heap} {R : Value → Heap → Prop} (H : cOf_vc q0 q1 h R) : CallH Try.prog 34 ⟨[.pointer (some ⟨q0, 0, none⟩), .int .i64 q1]⟩ h R :=
  callH_of_dCode tabOK mixed [(.pointer (some ⟨q0, 0, none⟩), false), (.int .i64 q1, false)] Try.func34 (c := bodyC Try.f34) (by kernel_rfl) (by kernel_rfl : Try.f34.ntmps = 22) rfl
    (Eq.mp (by kernel_rfl : cOf_vc q0 q1 h R = dCode Try.prog T ⟨[], [], [], [], []⟩ (bodyC Try.f34) none (dEnd T (Try.f34.results.toList) R) (startE 22 [(.pointer (some ⟨q0, 0, none⟩), false), (.int .i64 q1, false)]) h) H)

/-- (*incipit/cache.Cache).of -/
def cOfN_vc (q1 : Int) (h : Heap) (R : Value → Heap → Prop) : Prop :=
  entersB Try.prog 35 = true ∧
  CallH Try.prog 35 { toList := [Value.pointer none] } h fun (v1 : Value) (h1 : Heap) =>
    ∃ (t1 : Bool), v1 = Value.bool t1 ∧ (t1 = true → R (Value.tuple { toList := [Value.pointer none, Value.int IntKind.i64 2] }) h1) ∧ (t1 = false → False)

theorem cOfN_call (q1 : Int) {h : Heap} {R : Value → Heap → Prop} (H : cOfN_vc q1 h R) : CallH Try.prog 34 ⟨[.pointer none, .int .i64 q1]⟩ h R :=
  callH_of_dCode tabOK mixed [(.pointer none, false), (.int .i64 q1, false)] Try.func34 (c := bodyC Try.f34) (by kernel_rfl) (by kernel_rfl : Try.f34.ntmps = 22) rfl
    (Eq.mp (by kernel_rfl : cOfN_vc q1 h R = dCode Try.prog T ⟨[], [], [], [], []⟩ (bodyC Try.f34) none (dEnd T (Try.f34.results.toList) R) (startE 22 [(.pointer none, false), (.int .i64 q1, false)]) h) H)

/-- (*incipit/cache.Cache).none -/
def cNone_vc (q0 : Nat) (h : Heap) (R : Value → Heap → Prop) : Prop :=
  (false = true → R (Value.bool true) h) ∧ (false = false → ∃ (p1 : Option Addr), cellAt h { block := q0, off := 0 } = some (Value.pointer p1) ∧ R (Value.bool (Option.isNone p1)) h)

theorem cNone_call (q0 : Nat) {h : Heap} {R : Value → Heap → Prop} (H : cNone_vc q0 h R) : CallH Try.prog 35 ⟨[.pointer (some ⟨q0, 0, none⟩)]⟩ h R :=
  callH_of_dCode tabOK mixed [(.pointer (some ⟨q0, 0, none⟩), false)] Try.func35 (c := bodyC Try.f35) (by kernel_rfl) (by kernel_rfl : Try.f35.ntmps = 12) rfl
    (Eq.mp (by kernel_rfl : cNone_vc q0 h R = dCode Try.prog T ⟨[], [], [], [], []⟩ (bodyC Try.f35) none (dEnd T (Try.f35.results.toList) R) (startE 12 [(.pointer (some ⟨q0, 0, none⟩), false)]) h) H)

/-- (*incipit/cache.Cache).none -/
def cNoneN_vc (h : Heap) (R : Value → Heap → Prop) : Prop :=
  (true = true → R (Value.bool true) h) ∧ (true = false → False)

theorem cNoneN_call  {h : Heap} {R : Value → Heap → Prop} (H : cNoneN_vc  h R) : CallH Try.prog 35 ⟨[.pointer none]⟩ h R :=
  callH_of_dCode tabOK mixed [(.pointer none, false)] Try.func35 (c := bodyC Try.f35) (by kernel_rfl) (by kernel_rfl : Try.f35.ntmps = 12) rfl
    (Eq.mp (by kernel_rfl : cNoneN_vc  h R = dCode Try.prog T ⟨[], [], [], [], []⟩ (bodyC Try.f35) none (dEnd T (Try.f35.results.toList) R) (startE 12 [(.pointer none, false)]) h) H)

/-- (*incipit/cache.Cache).Held$1 -/
def cHeld1_vc (q0 : Int) (q1 : Int) (b2 : Nat) (h : Heap) (R : Value → Heap → Prop) : Prop :=
  ∃ (p1 : Option Addr),
  cellAt h { block := b2, off := 0 } = some (Value.pointer p1) ∧
    match p1 with
    | some a1 =>
      ∃ (m1 : Option Nat),
        cellAt h (Addr.add a1 2) = some (Value.map m1) ∧
          ∃ (x1 : Array MapEntry),
            mapIs h m1 x1 ∧
              keysOK (Value.int IntKind.i64 q1) x1 ∧
                (∀ (v1 : Value),
                    mget (Value.int IntKind.i64 q1) x1 = some v1 →
                      ∃ (p3 : Option Addr),
                        v1 = Value.pointer p3 ∧
                          match p3 with
                          | some a2 =>
                            ∃ (i1 : Int),
                              cellAt h (Addr.add a2 3) = some (Value.int IntKind.i64 i1) ∧
                                ∃ (p4 : Option Addr),
                                  cellAt h { block := b2, off := 0 } = some (Value.pointer p4) ∧
                                    match p4 with
                                    | some a3 =>
                                      ∃ (m2 : Option Nat),
                                        cellAt h (Addr.add a3 2) = some (Value.map m2) ∧
                                          ∃ (x2 : Array MapEntry),
                                            mapIs h m2 x2 ∧
                                              keysOK (Value.int IntKind.i64 q0) x2 ∧
                                                (∀ (v2 : Value),
                                                    mget (Value.int IntKind.i64 q0) x2 = some v2 →
                                                      ∃ (p5 : Option Addr),
                                                        v2 = Value.pointer p5 ∧
                                                          match p5 with
                                                          | some a4 =>
                                                            ∃ (i2 : Int), cellAt h (Addr.add a4 3) = some (Value.int IntKind.i64 i2) ∧ R (Value.int IntKind.i64 (IntKind.wrap IntKind.i64 (i1 - i2))) h
                                                          | none => False) ∧
                                                  (mget (Value.int IntKind.i64 q0) x2 = none → False)
                                    | none => False
                          | none => False) ∧
                  (mget (Value.int IntKind.i64 q1) x1 = none → False)
    | none => False

theorem cHeld1_call (q0 : Int) (q1 : Int) (b2 : Nat) {h : Heap} {R : Value → Heap → Prop} (H : cHeld1_vc q0 q1 b2 h R) : CallH Try.prog 38 ⟨[.int .i64 q0, .int .i64 q1, .pointer (some ⟨b2, 0, none⟩)]⟩ h R :=
  callH_of_dCode tabOK mixed [(.int .i64 q0, false), (.int .i64 q1, false), (.pointer (some ⟨b2, 0, none⟩), false)] Try.func38 (c := bodyC Try.f38) (by kernel_rfl) (by kernel_rfl : Try.f38.ntmps = 25) rfl
    (Eq.mp (by kernel_rfl : cHeld1_vc q0 q1 b2 h R = dCode Try.prog T ⟨[], [], [], [], []⟩ (bodyC Try.f38) none (dEnd T (Try.f38.results.toList) R) (startE 25 [(.int .i64 q0, false), (.int .i64 q1, false), (.pointer (some ⟨b2, 0, none⟩), false)]) h) H)

/-- (*incipit/cache.Cache).All$1 -/
def cAll1_vc (q0 : Value) (b1 : Nat) (h : Heap) (R : Value → Heap → Prop) : Prop :=
  ∃ (p1 : Option Addr),
  cellAt h { block := b1, off := 0 } = some (Value.pointer p1) ∧
    entersB Try.prog 35 = true ∧
      CallH Try.prog 35 { toList := [Value.pointer p1] } h fun (v1 : Value) (h1 : Heap) =>
        ∃ (t1 : Bool),
          v1 = Value.bool t1 ∧
            (t1 = true → R (Value.tuple { toList := [] }) h1) ∧
              (t1 = false →
                ∃ (p2 : Option Addr),
                  cellAt h1 { block := b1, off := 0 } = some (Value.pointer p2) ∧
                    match p2 with
                    | some a1 =>
                      ∃ (m1 : Option Nat),
                        cellAt h1 (Addr.add a1 2) = some (Value.map m1) ∧
                          entersB Try.prog 37 = true ∧
                            CallH Try.prog 37 { toList := [Value.map m1] } h1 fun (v2 : Value) (h2 : Heap) =>
                              ∃ (v3 : Value),
                                v2 = v3 ∧
                                  entersB Try.prog 47 = true ∧
                                    CallH Try.prog 47 { toList := [v3] } h2 fun (v4 : Value) (h3 : Heap) =>
                                      ∃ (p4 : Option Addr),
                                        ∃ (n1 : Nat),
                                          ∃ (n2 : Nat),
                                            v4 = Value.slice p4 n1 n2 ∧
                                              ∃ (I1 : Int → Heap → Prop),
                                                ∃ (M1 : Int → Heap → Nat),
                                                  I1 0 h3 ∧
                                                    ∀ (i1 : Int) (h4 : Heap),
                                                      I1 i1 h4 →
                                                        (decide (i1 < (↑n1 : Int)) = true →
                                                            match p4 with
                                                            | some a2 =>
                                                              (0 ≤ i1 ∧ i1 < (↑n1 : Int)) ∧
                                                                ∃ (i2 : Int),
                                                                  cellAt h4 (Addr.add a2 (Int.toNat i1 * 1)) = some (Value.int IntKind.i64 i2) ∧
                                                                    ∃ (p5 : Option Addr),
                                                                      cellAt h4 { block := b1, off := 0 } = some (Value.pointer p5) ∧
                                                                        match p5 with
                                                                        | some a3 =>
                                                                          ∃ (m2 : Option Nat),
                                                                            cellAt h4 (Addr.add a3 2) = some (Value.map m2) ∧
                                                                              ∃ (x1 : Array MapEntry),
                                                                                mapIs h4 m2 x1 ∧
                                                                                  keysOK (Value.int IntKind.i64 i2) x1 ∧
                                                                                    (∀ (v5 : Value),
                                                                                        mget (Value.int IntKind.i64 i2) x1 = some v5 →
                                                                                          ∃ (p6 : Option Addr),
                                                                                            v5 = Value.pointer p6 ∧
                                                                                              match p6 with
                                                                                              | some a4 =>
                                                                                                ∃ (t2 : Bool),
                                                                                                  cellAt h4 (Addr.add a4 1) = some (Value.bool t2) ∧
                                                                                                    match q0 with
                                                                                                    | Value.func (Fn.func x2) x3 x4 =>
                                                                                                      entersB Try.prog x2 = true ∧
                                                                                                        CallH Try.prog x2
                                                                                                          { toList := List.append (List.append x3.1 [Value.int IntKind.i64 i2, Value.bool t2]) x4.1 } h4
                                                                                                          fun (v7 : Value) (h5 : Heap) =>
                                                                                                          ∃ (t3 : Bool),
                                                                                                            v7 = Value.bool t3 ∧
                                                                                                              ((!t3) = true → R (Value.tuple { toList := [] }) h5) ∧
                                                                                                                ((!t3) = false →
                                                                                                                  I1 (IntKind.wrap IntKind.i64 (i1 + 1)) h5 ∧
                                                                                                                    M1 (IntKind.wrap IntKind.i64 (i1 + 1)) h5 < M1 i1 h4)
                                                                                                    | v8 =>
                                                                                                      CallV Try.prog v8 { toList := [Value.int IntKind.i64 i2, Value.bool t2] } h4
                                                                                                        fun (v9 : Value) (h6 : Heap) =>
                                                                                                        ∃ (t4 : Bool),
                                                                                                          v9 = Value.bool t4 ∧
                                                                                                            ((!t4) = true → R (Value.tuple { toList := [] }) h6) ∧
                                                                                                              ((!t4) = false →
                                                                                                                I1 (IntKind.wrap IntKind.i64 (i1 + 1)) h6 ∧
                                                                                                                  M1 (IntKind.wrap IntKind.i64 (i1 + 1)) h6 < M1 i1 h4)
                                                                                              | none => False) ∧
                                                                                      (mget (Value.int IntKind.i64 i2) x1 = none →
                                                                                        I1 (IntKind.wrap IntKind.i64 (i1 + 1)) h4 ∧ M1 (IntKind.wrap IntKind.i64 (i1 + 1)) h4 < M1 i1 h4)
                                                                        | none => False
                                                            | none => False) ∧
                                                          (decide (i1 < (↑n1 : Int)) = false → R (Value.tuple { toList := [] }) h4)
                    | none => False)

theorem cAll1_call (q0 : Value) (b1 : Nat) {h : Heap} {R : Value → Heap → Prop} (H : cAll1_vc q0 b1 h R) : CallH Try.prog 46 ⟨[q0, .pointer (some ⟨b1, 0, none⟩)]⟩ h R :=
  callH_of_dCode tabOK mixed [(q0, false), (.pointer (some ⟨b1, 0, none⟩), false)] Try.func46 (c := bodyC Try.f46) (by kernel_rfl) (by kernel_rfl : Try.f46.ntmps = 41) rfl
    (Eq.mp (by kernel_rfl : cAll1_vc q0 b1 h R = dCode Try.prog T ⟨[], [(2, [(16, .int .i64)]), (2, [(16, .int .i64)]), (2, [(16, .int .i64)]), (2, [(16, .int .i64)])], [], [], []⟩ (bodyC Try.f46) none (dEnd T (Try.f46.results.toList) R) (startE 41 [(q0, false), (.pointer (some ⟨b1, 0, none⟩), false)]) h) H)

/-- (*incipit/cache.Cache).room -/
def cRoom_vc (q0 : Nat) (h : Heap) (R : Value → Heap → Prop) : Prop :=
  ∃ (m1 : Option Nat),
  cellAt h { block := q0, off := 2 } = some (Value.map m1) ∧
    ∃ (x1 : Array MapEntry),
      mapIs h m1 x1 ∧
        ∃ (i1 : Int),
          cellAt h { block := q0, off := 1 } = some (Value.int IntKind.i64 i1) ∧
            (decide ((↑(Array.size x1) : Int) < i1) = true → R (Value.int IntKind.i64 0) h) ∧
              (decide ((↑(Array.size x1) : Int) < i1) = false →
                entersB Try.prog 55 = true ∧
                  CallH Try.prog 55 { toList := [Value.pointer (some { block := q0, off := 0 })] } h fun (v1 : Value) (h1 : Heap) =>
                    ∃ (i2 : Int),
                      v1 = Value.int IntKind.i64 i2 ∧
                        (decide (i2 < 0) = true → R (Value.int IntKind.i64 6) h1) ∧
                          (decide (i2 < 0) = false →
                            ∃ (m2 : Option Nat),
                              cellAt h1 { block := q0, off := 2 } = some (Value.map m2) ∧
                                ∃ (x2 : Array MapEntry),
                                  mapIs h1 m2 x2 ∧
                                    keysOK (Value.int IntKind.i64 i2) x2 ∧
                                      (∀ (v2 : Value),
                                          mget (Value.int IntKind.i64 i2) x2 = some v2 →
                                            ∃ (p1 : Option Addr),
                                              v2 = Value.pointer p1 ∧
                                                match p1 with
                                                | some a1 =>
                                                  ∃ (t1 : Bool),
                                                    cellAt h1 (Addr.add a1 1) = some (Value.bool t1) ∧
                                                      (t1 = true →
                                                          ∃ (p3 : Option Addr),
                                                            cellAt h1 { block := q0, off := 0 } = some (Value.pointer p3) ∧
                                                              match p1 with
                                                              | some a2 =>
                                                                ∃ (p4 : Option Addr),
                                                                  ∃ (n1 : Nat),
                                                                    ∃ (n2 : Nat),
                                                                      cellAt h1 a2 = some (Value.slice p4 n1 n2) ∧
                                                                        entersB Try.prog 40 = true ∧
                                                                          CallH Try.prog 40 { toList := [Value.pointer p3, Value.int IntKind.i64 i2, Value.slice p4 n1 n2] } h1
                                                                            fun (v3 : Value) (h2 : Heap) =>
                                                                            ∃ (i3 : Int),
                                                                              v3 = Value.int IntKind.i64 i3 ∧
                                                                                ((i3 != 0) = true → R (Value.int IntKind.i64 i3) h2) ∧
                                                                                  ((i3 != 0) = false →
                                                                                    ∃ (m3 : Option Nat),
                                                                                      cellAt h2 { block := q0, off := 2 } = some (Value.map m3) ∧
                                                                                        match m3 with
                                                                                        | some n3 =>
                                                                                          ∃ (x3 : Array MapEntry),
                                                                                            ∃ (n4 : Nat),
                                                                                              h2[n3]? = some (Obj.map x3 n4) ∧
                                                                                                keysOK (Value.int IntKind.i64 i2) x3 ∧
                                                                                                  ∀ (h3 : Heap),
                                                                                                    h3 =
                                                                                                        Array.setIfInBounds h2 n3
                                                                                                          (match mfind (Value.int IntKind.i64 i2) x3 with
                                                                                                          | some (n6, v4) => Obj.map (Array.eraseIdxIfInBounds x3 n6) n4
                                                                                                          | none => Obj.map x3 n4) →
                                                                                                      R (Value.int IntKind.i64 0) h3
                                                                                        | none => False)
                                                              | none => False) ∧
                                                        (t1 = false →
                                                          ∃ (m5 : Option Nat),
                                                            cellAt h1 { block := q0, off := 2 } = some (Value.map m5) ∧
                                                              match m5 with
                                                              | some n7 =>
                                                                ∃ (x7 : Array MapEntry),
                                                                  ∃ (n8 : Nat),
                                                                    h1[n7]? = some (Obj.map x7 n8) ∧
                                                                      keysOK (Value.int IntKind.i64 i2) x7 ∧
                                                                        ∀ (h4 : Heap),
                                                                          h4 =
                                                                              Array.setIfInBounds h1 n7
                                                                                (match mfind (Value.int IntKind.i64 i2) x7 with
                                                                                | some (n9, v5) => Obj.map (Array.eraseIdxIfInBounds x7 n9) n8
                                                                                | none => Obj.map x7 n8) →
                                                                            R (Value.int IntKind.i64 0) h4
                                                              | none => False)
                                                | none => False) ∧
                                        (mget (Value.int IntKind.i64 i2) x2 = none → False)))

theorem cRoom_call (q0 : Nat) {h : Heap} {R : Value → Heap → Prop} (H : cRoom_vc q0 h R) : CallH Try.prog 49 ⟨[.pointer (some ⟨q0, 0, none⟩)]⟩ h R :=
  callH_of_dCode tabOK mixed [(.pointer (some ⟨q0, 0, none⟩), false)] Try.func49 (c := bodyC Try.f49) (by kernel_rfl) (by kernel_rfl : Try.f49.ntmps = 48) rfl
    (Eq.mp (by kernel_rfl : cRoom_vc q0 h R = dCode Try.prog T ⟨[], [], [], [], []⟩ (bodyC Try.f49) none (dEnd T (Try.f49.results.toList) R) (startE 48 [(.pointer (some ⟨q0, 0, none⟩), false)]) h) H)

/-- (*incipit/cache.Cache).oldest -/
def cOldest_vc (q0 : Nat) (h : Heap) (R : Value → Heap → Prop) : Prop :=
  ∃ (m1 : Option Nat),
  cellAt h { block := q0, off := 2 } = some (Value.map m1) ∧
    match m1 with
    | some n1 =>
      ∃ (x1 : Array MapEntry),
        ∃ (n2 : Nat),
          h[n1]? = some (Obj.map x1 n2) ∧
            ∀ (n4 : Nat) (rec2 : Array Obj),
              n4 = Array.size h →
                rec2 = Array.push h (Obj.mapIter (some n1) n2 { toList := [] } n2) →
                  ∃ (I1 : Int → Heap → Prop),
                    ∃ (M1 : Int → Heap → Nat),
                      I1 (-1) rec2 ∧
                        ∀ (i1 : Int) (h1 : Heap),
                          I1 i1 h1 →
                            0 = 0 ∧
                              (h1[n4]? = some (Obj.mapIter none 0 { toList := [] } 0) ∧ R (Value.int IntKind.i64 i1) h1 ∨
                                ∃ (n5 : Nat),
                                  ∃ (n6 : Nat),
                                    ∃ (M2 : Array Nat),
                                      ∃ (n7 : Nat),
                                        ∃ (x2 : Array MapEntry),
                                          ∃ (n8 : Nat),
                                            h1[n4]? = some (Obj.mapIter (some n5) n6 M2 n7) ∧
                                              h1[n5]? = some (Obj.map x2 n8) ∧
                                                (Array.isEmpty M2 = true ∨ Array.isEmpty x2 = true ∨ ∃ (x3 : MapEntry), x3 ∈ x2.1 ∧ MapEntry.born x3 < n7) ∧
                                                  (∀ (x4 : MapEntry),
                                                      x4 ∈ x2.1 ∧ Array.contains M2 (MapEntry.born x4) = false →
                                                        ∀ (h2 : Heap),
                                                          h2 = Array.setIfInBounds h1 n4 (Obj.mapIter (some n5) n6 (Array.push M2 (MapEntry.born x4)) n8) →
                                                            0 = 0 ∧
                                                              ∃ (n9 : Nat),
                                                                ∃ (n10 : Nat),
                                                                  ∃ (M3 : Array Nat),
                                                                    ∃ (n11 : Nat),
                                                                      ∃ (x5 : Array MapEntry),
                                                                        ∃ (n12 : Nat),
                                                                          ∃ (x6 : MapEntry),
                                                                            h2[n4]? = some (Obj.mapIter (some n9) n10 M3 n11) ∧
                                                                              Array.back? M3 = some n12 ∧
                                                                                h2[n9]? = some (Obj.map x5 n11) ∧
                                                                                  Array.find? (fun (x7 : MapEntry) => MapEntry.born x7 == n12) x5 = some x6 ∧
                                                                                    match MapEntry.val x6 with
                                                                                    | Value.pointer p1 =>
                                                                                      match p1 with
                                                                                      | some a1 =>
                                                                                        ∃ (i2 : Int),
                                                                                          cellAt h2 (Addr.add a1 2) = some (Value.int IntKind.i64 i2) ∧
                                                                                            (decide (i2 > 0) = true → I1 i1 h2 ∧ M1 i1 h2 < M1 i1 h1) ∧
                                                                                              (decide (i2 > 0) = false →
                                                                                                (decide (i1 ≥ 0) = true →
                                                                                                    ∃ (m3 : Option Nat),
                                                                                                      cellAt h2 { block := q0, off := 2 } = some (Value.map m3) ∧
                                                                                                        ∃ (x8 : Array MapEntry),
                                                                                                          mapIs h2 m3 x8 ∧
                                                                                                            keysOK (Value.int IntKind.i64 i1) x8 ∧
                                                                                                              (∀ (v2 : Value),
                                                                                                                  mget (Value.int IntKind.i64 i1) x8 = some v2 →
                                                                                                                    ∃ (p3 : Option Addr),
                                                                                                                      v2 = Value.pointer p3 ∧
                                                                                                                        match p3 with
                                                                                                                        | some a2 =>
                                                                                                                          ∃ (i3 : Int),
                                                                                                                            cellAt h2 (Addr.add a2 3) = some (Value.int IntKind.i64 i3) ∧
                                                                                                                              match MapEntry.val x6 with
                                                                                                                              | Value.pointer p4 =>
                                                                                                                                match p4 with
                                                                                                                                | some a3 =>
                                                                                                                                  ∃ (i4 : Int),
                                                                                                                                    cellAt h2 (Addr.add a3 3) = some (Value.int IntKind.i64 i4) ∧
                                                                                                                                      (decide (i3 < i4) = true → I1 i1 h2 ∧ M1 i1 h2 < M1 i1 h1) ∧
                                                                                                                                        (decide (i3 < i4) = false →
                                                                                                                                          (match MapEntry.key x6 with
                                                                                                                                            | Value.int x9 i5 =>
                                                                                                                                              match
                                                                                                                                                match IntKind.i64, x9 with
                                                                                                                                                | IntKind.i8, IntKind.i8 => true
                                                                                                                                                | IntKind.i16, IntKind.i16 => true
                                                                                                                                                | IntKind.i32, IntKind.i32 => true
                                                                                                                                                | IntKind.i64, IntKind.i64 => true
                                                                                                                                                | IntKind.u8, IntKind.u8 => true
                                                                                                                                                | IntKind.u16, IntKind.u16 => true
                                                                                                                                                | IntKind.u32, IntKind.u32 => true
                                                                                                                                                | IntKind.u64, IntKind.u64 => true
                                                                                                                                                | x13, x14 => false with
                                                                                                                                              | true => I1 i5 h2
                                                                                                                                              | false => False
                                                                                                                                            | v3 => False) ∧
                                                                                                                                            match MapEntry.key x6 with
                                                                                                                                            | Value.int x17 i6 =>
                                                                                                                                              match
                                                                                                                                                match IntKind.i64, x17 with
                                                                                                                                                | IntKind.i8, IntKind.i8 => true
                                                                                                                                                | IntKind.i16, IntKind.i16 => true
                                                                                                                                                | IntKind.i32, IntKind.i32 => true
                                                                                                                                                | IntKind.i64, IntKind.i64 => true
                                                                                                                                                | IntKind.u8, IntKind.u8 => true
                                                                                                                                                | IntKind.u16, IntKind.u16 => true
                                                                                                                                                | IntKind.u32, IntKind.u32 => true
                                                                                                                                                | IntKind.u64, IntKind.u64 => true
                                                                                                                                                | x, x_1 => false with
                                                                                                                                              | true => M1 i6 h2 < M1 i1 h1
                                                                                                                                              | false => False
                                                                                                                                            | x => False)
                                                                                                                                | none => False
                                                                                                                              | Value.func (Fn.func x19) x20 x21 => False
                                                                                                                              | x => False
                                                                                                                        | none => False) ∧
                                                                                                                (mget (Value.int IntKind.i64 i1) x8 = none → False)) ∧
                                                                                                  (decide (i1 ≥ 0) = false →
                                                                                                    (match MapEntry.key x6 with
                                                                                                      | Value.int x22 i7 =>
                                                                                                        match
                                                                                                          match IntKind.i64, x22 with
                                                                                                          | IntKind.i8, IntKind.i8 => true
                                                                                                          | IntKind.i16, IntKind.i16 => true
                                                                                                          | IntKind.i32, IntKind.i32 => true
                                                                                                          | IntKind.i64, IntKind.i64 => true
                                                                                                          | IntKind.u8, IntKind.u8 => true
                                                                                                          | IntKind.u16, IntKind.u16 => true
                                                                                                          | IntKind.u32, IntKind.u32 => true
                                                                                                          | IntKind.u64, IntKind.u64 => true
                                                                                                          | x, x_1 => false with
                                                                                                        | true => I1 i7 h2
                                                                                                        | false => False
                                                                                                      | x => False) ∧
                                                                                                      match MapEntry.key x6 with
                                                                                                      | Value.int x24 i8 =>
                                                                                                        match
                                                                                                          match IntKind.i64, x24 with
                                                                                                          | IntKind.i8, IntKind.i8 => true
                                                                                                          | IntKind.i16, IntKind.i16 => true
                                                                                                          | IntKind.i32, IntKind.i32 => true
                                                                                                          | IntKind.i64, IntKind.i64 => true
                                                                                                          | IntKind.u8, IntKind.u8 => true
                                                                                                          | IntKind.u16, IntKind.u16 => true
                                                                                                          | IntKind.u32, IntKind.u32 => true
                                                                                                          | IntKind.u64, IntKind.u64 => true
                                                                                                          | x, x_1 => false with
                                                                                                        | true => M1 i8 h2 < M1 i1 h1
                                                                                                        | false => False
                                                                                                      | x => False))
                                                                                      | none => False
                                                                                    | Value.func (Fn.func x26) x27 x28 => False
                                                                                    | x => False) ∧
                                                    ((∀ (x29 : MapEntry), x29 ∈ x2.1 → Array.contains M2 (MapEntry.born x29) = false → n6 ≤ MapEntry.born x29) → R (Value.int IntKind.i64 i1) h1))
    | none =>
      ∀ (n13 : Nat) (rec3 : Array Obj),
        n13 = Array.size h →
          rec3 = Array.push h (Obj.mapIter none 0 { toList := [] } 0) →
            ∃ (I2 : Int → Heap → Prop),
              ∃ (M4 : Int → Heap → Nat),
                I2 (-1) rec3 ∧
                  ∀ (i9 : Int) (h3 : Heap),
                    I2 i9 h3 →
                      0 = 0 ∧
                        (h3[n13]? = some (Obj.mapIter none 0 { toList := [] } 0) ∧ R (Value.int IntKind.i64 i9) h3 ∨
                          ∃ (n14 : Nat),
                            ∃ (n15 : Nat),
                              ∃ (M5 : Array Nat),
                                ∃ (n16 : Nat),
                                  ∃ (x31 : Array MapEntry),
                                    ∃ (n17 : Nat),
                                      h3[n13]? = some (Obj.mapIter (some n14) n15 M5 n16) ∧
                                        h3[n14]? = some (Obj.map x31 n17) ∧
                                          (Array.isEmpty M5 = true ∨ Array.isEmpty x31 = true ∨ ∃ (x32 : MapEntry), x32 ∈ x31.1 ∧ MapEntry.born x32 < n16) ∧
                                            (∀ (x33 : MapEntry),
                                                x33 ∈ x31.1 ∧ Array.contains M5 (MapEntry.born x33) = false →
                                                  ∀ (h4 : Heap),
                                                    h4 = Array.setIfInBounds h3 n13 (Obj.mapIter (some n14) n15 (Array.push M5 (MapEntry.born x33)) n17) →
                                                      0 = 0 ∧
                                                        ∃ (n18 : Nat),
                                                          ∃ (n19 : Nat),
                                                            ∃ (M6 : Array Nat),
                                                              ∃ (n20 : Nat),
                                                                ∃ (x34 : Array MapEntry),
                                                                  ∃ (n21 : Nat),
                                                                    ∃ (x35 : MapEntry),
                                                                      h4[n13]? = some (Obj.mapIter (some n18) n19 M6 n20) ∧
                                                                        Array.back? M6 = some n21 ∧
                                                                          h4[n18]? = some (Obj.map x34 n20) ∧
                                                                            Array.find? (fun (x36 : MapEntry) => MapEntry.born x36 == n21) x34 = some x35 ∧
                                                                              match MapEntry.val x35 with
                                                                              | Value.pointer p5 =>
                                                                                match p5 with
                                                                                | some a4 =>
                                                                                  ∃ (i10 : Int),
                                                                                    cellAt h4 (Addr.add a4 2) = some (Value.int IntKind.i64 i10) ∧
                                                                                      (decide (i10 > 0) = true → I2 i9 h4 ∧ M4 i9 h4 < M4 i9 h3) ∧
                                                                                        (decide (i10 > 0) = false →
                                                                                          (decide (i9 ≥ 0) = true →
                                                                                              ∃ (m4 : Option Nat),
                                                                                                cellAt h4 { block := q0, off := 2 } = some (Value.map m4) ∧
                                                                                                  ∃ (x37 : Array MapEntry),
                                                                                                    mapIs h4 m4 x37 ∧
                                                                                                      keysOK (Value.int IntKind.i64 i9) x37 ∧
                                                                                                        (∀ (v4 : Value),
                                                                                                            mget (Value.int IntKind.i64 i9) x37 = some v4 →
                                                                                                              ∃ (p6 : Option Addr),
                                                                                                                v4 = Value.pointer p6 ∧
                                                                                                                  match p6 with
                                                                                                                  | some a5 =>
                                                                                                                    ∃ (i11 : Int),
                                                                                                                      cellAt h4 (Addr.add a5 3) = some (Value.int IntKind.i64 i11) ∧
                                                                                                                        match MapEntry.val x35 with
                                                                                                                        | Value.pointer p7 =>
                                                                                                                          match p7 with
                                                                                                                          | some a6 =>
                                                                                                                            ∃ (i12 : Int),
                                                                                                                              cellAt h4 (Addr.add a6 3) = some (Value.int IntKind.i64 i12) ∧
                                                                                                                                (decide (i11 < i12) = true → I2 i9 h4 ∧ M4 i9 h4 < M4 i9 h3) ∧
                                                                                                                                  (decide (i11 < i12) = false →
                                                                                                                                    (match MapEntry.key x35 with
                                                                                                                                      | Value.int x38 i13 =>
                                                                                                                                        match
                                                                                                                                          match IntKind.i64, x38 with
                                                                                                                                          | IntKind.i8, IntKind.i8 => true
                                                                                                                                          | IntKind.i16, IntKind.i16 => true
                                                                                                                                          | IntKind.i32, IntKind.i32 => true
                                                                                                                                          | IntKind.i64, IntKind.i64 => true
                                                                                                                                          | IntKind.u8, IntKind.u8 => true
                                                                                                                                          | IntKind.u16, IntKind.u16 => true
                                                                                                                                          | IntKind.u32, IntKind.u32 => true
                                                                                                                                          | IntKind.u64, IntKind.u64 => true
                                                                                                                                          | x, x_1 => false with
                                                                                                                                        | true => I2 i13 h4
                                                                                                                                        | false => False
                                                                                                                                      | x => False) ∧
                                                                                                                                      match MapEntry.key x35 with
                                                                                                                                      | Value.int x40 i14 =>
                                                                                                                                        match
                                                                                                                                          match IntKind.i64, x40 with
                                                                                                                                          | IntKind.i8, IntKind.i8 => true
                                                                                                                                          | IntKind.i16, IntKind.i16 => true
                                                                                                                                          | IntKind.i32, IntKind.i32 => true
                                                                                                                                          | IntKind.i64, IntKind.i64 => true
                                                                                                                                          | IntKind.u8, IntKind.u8 => true
                                                                                                                                          | IntKind.u16, IntKind.u16 => true
                                                                                                                                          | IntKind.u32, IntKind.u32 => true
                                                                                                                                          | IntKind.u64, IntKind.u64 => true
                                                                                                                                          | x, x_1 => false with
                                                                                                                                        | true => M4 i14 h4 < M4 i9 h3
                                                                                                                                        | false => False
                                                                                                                                      | x => False)
                                                                                                                          | none => False
                                                                                                                        | Value.func (Fn.func x42) x43 x44 => False
                                                                                                                        | x => False
                                                                                                                  | none => False) ∧
                                                                                                          (mget (Value.int IntKind.i64 i9) x37 = none → False)) ∧
                                                                                            (decide (i9 ≥ 0) = false →
                                                                                              (match MapEntry.key x35 with
                                                                                                | Value.int x45 i15 =>
                                                                                                  match
                                                                                                    match IntKind.i64, x45 with
                                                                                                    | IntKind.i8, IntKind.i8 => true
                                                                                                    | IntKind.i16, IntKind.i16 => true
                                                                                                    | IntKind.i32, IntKind.i32 => true
                                                                                                    | IntKind.i64, IntKind.i64 => true
                                                                                                    | IntKind.u8, IntKind.u8 => true
                                                                                                    | IntKind.u16, IntKind.u16 => true
                                                                                                    | IntKind.u32, IntKind.u32 => true
                                                                                                    | IntKind.u64, IntKind.u64 => true
                                                                                                    | x, x_1 => false with
                                                                                                  | true => I2 i15 h4
                                                                                                  | false => False
                                                                                                | x => False) ∧
                                                                                                match MapEntry.key x35 with
                                                                                                | Value.int x47 i16 =>
                                                                                                  match
                                                                                                    match IntKind.i64, x47 with
                                                                                                    | IntKind.i8, IntKind.i8 => true
                                                                                                    | IntKind.i16, IntKind.i16 => true
                                                                                                    | IntKind.i32, IntKind.i32 => true
                                                                                                    | IntKind.i64, IntKind.i64 => true
                                                                                                    | IntKind.u8, IntKind.u8 => true
                                                                                                    | IntKind.u16, IntKind.u16 => true
                                                                                                    | IntKind.u32, IntKind.u32 => true
                                                                                                    | IntKind.u64, IntKind.u64 => true
                                                                                                    | x, x_1 => false with
                                                                                                  | true => M4 i16 h4 < M4 i9 h3
                                                                                                  | false => False
                                                                                                | x => False))
                                                                                | none => False
                                                                              | Value.func (Fn.func x49) x50 x51 => False
                                                                              | x => False) ∧
                                              ((∀ (x52 : MapEntry), x52 ∈ x31.1 → Array.contains M5 (MapEntry.born x52) = false → n15 ≤ MapEntry.born x52) → R (Value.int IntKind.i64 i9) h3))

theorem cOldest_call (q0 : Nat) {h : Heap} {R : Value → Heap → Prop} (H : cOldest_vc q0 h R) : CallH Try.prog 55 ⟨[.pointer (some ⟨q0, 0, none⟩)]⟩ h R :=
  callH_of_dCode tabOK mixed [(.pointer (some ⟨q0, 0, none⟩), false)] Try.func55 (c := bodyC Try.f55) (by kernel_rfl) (by kernel_rfl : Try.f55.ntmps = 43) rfl
    (Eq.mp (by kernel_rfl : cOldest_vc q0 h R = dCode Try.prog T ⟨[], [(3, [(3, .int .i64)]), (3, [(3, .int .i64)]), (3, [(3, .int .i64)]), (3, [(3, .int .i64)]), (3, [(3, .int .i64)]), (3, [(3, .int .i64)])], [], [], []⟩ (bodyC Try.f55) none (dEnd T (Try.f55.results.toList) R) (startE 43 [(.pointer (some ⟨q0, 0, none⟩), false)]) h) H)

end Go.Proofs.Ytfapgccnhonoiaa

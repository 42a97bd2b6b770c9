/- The table of the program's types; the conditions of the disk's functions as text; what each of the disk's functions does. -/
import Derived.Test.YtfapgccnhonoiaaGreatMb
import Derived.Test.YtfapgccnhonoiaaGreatProg

/- The types that the program names: a table of them, and that it tells the truth. Printed by wip/py/gentab.py. -/
namespace Go.Proofs.YtfapgccnhonoiaaGreat

def T : List TI := [
  ⟨.tup [], 1, 0, [.tuple #[]]⟩,
  ⟨.fn, 1, 8, [Value.nilFunc]⟩,
  ⟨.int .i64, 1, 8, [.int .i64 0]⟩,
  ⟨.int .i64, 1, 8, [.int .i64 0]⟩,
  ⟨.bool, 1, 1, [.bool false]⟩,
  ⟨.int .u8, 1, 1, [.int .u8 0]⟩,
  ⟨.int .u8, 1, 1, [.int .u8 0]⟩,
  ⟨.st [(0, 2), (1, 3), (2, 4), (3, 6)], 4, 24, [.int .i64 0, .int .i64 0, .bool false, .int .u8 0]⟩,
  ⟨.st [(0, 2), (1, 3), (2, 4), (3, 6)], 4, 24, [.int .i64 0, .int .i64 0, .bool false, .int .u8 0]⟩,
  ⟨.str, 1, 16, [.string ⟨#[]⟩]⟩,
  ⟨.str, 1, 16, [.string ⟨#[]⟩]⟩,
  ⟨.str, 1, 16, [.string ⟨#[]⟩]⟩,
  ⟨.int .u64, 1, 8, [.int .u64 0]⟩,
  ⟨.oth, 0, 0, []⟩,
  ⟨.oth, 0, 0, []⟩,
  ⟨.ptr 150, 1, 8, [.pointer none]⟩,
  ⟨.ptr 153, 1, 8, [.pointer none]⟩,
  ⟨.ptr 161, 1, 8, [.pointer none]⟩,
  ⟨.oth, 0, 0, []⟩,
  ⟨.oth, 0, 0, []⟩,
  ⟨.oth, 0, 0, []⟩,
  ⟨.int .i32, 1, 4, [.int .i32 0]⟩,
  ⟨.sl 38, 1, 24, [.slice none 0 0]⟩,
  ⟨.ptr 55, 1, 8, [.pointer none]⟩,
  ⟨.int .i64, 1, 8, [.int .i64 0]⟩,
  ⟨.tup [23, 24], 1, 0, [.tuple #[.pointer none, .int .i64 0]]⟩,
  ⟨.fn, 1, 8, [Value.nilFunc]⟩,
  ⟨.fn, 1, 8, [Value.nilFunc]⟩,
  ⟨.ptr 45, 1, 8, [.pointer none]⟩,
  ⟨.tup [28, 24], 1, 0, [.tuple #[.pointer none, .int .i64 0]]⟩,
  ⟨.fn, 1, 8, [Value.nilFunc]⟩,
  ⟨.ptr 63, 1, 8, [.pointer none]⟩,
  ⟨.tup [31, 24], 1, 0, [.tuple #[.pointer none, .int .i64 0]]⟩,
  ⟨.fn, 1, 8, [Value.nilFunc]⟩,
  ⟨.ptr 66, 1, 8, [.pointer none]⟩,
  ⟨.tup [34, 24], 1, 0, [.tuple #[.pointer none, .int .i64 0]]⟩,
  ⟨.fn, 1, 8, [Value.nilFunc]⟩,
  ⟨.st [(0, 3), (1, 3), (2, 5), (3, 3)], 4, 32, [.int .i64 0, .int .i64 0, .int .u8 0, .int .i64 0]⟩,
  ⟨.st [(0, 3), (1, 3), (2, 5), (3, 3)], 4, 32, [.int .i64 0, .int .i64 0, .int .u8 0, .int .i64 0]⟩,
  ⟨.fn, 1, 8, [Value.nilFunc]⟩,
  ⟨.fn, 1, 8, [Value.nilFunc]⟩,
  ⟨.fn, 1, 8, [Value.nilFunc]⟩,
  ⟨.sl 46, 1, 24, [.slice none 0 0]⟩,
  ⟨.sl 108, 1, 24, [.slice none 0 0]⟩,
  ⟨.st [(0, 42), (1, 43), (2, 3), (3, 4), (4, 3)], 5, 72, [.slice none 0 0, .slice none 0 0, .int .i64 0, .bool false, .int .i64 0]⟩,
  ⟨.st [(0, 42), (1, 43), (2, 3), (3, 4), (4, 3)], 5, 72, [.slice none 0 0, .slice none 0 0, .int .i64 0, .bool false, .int .i64 0]⟩,
  ⟨.sl 5, 1, 24, [.slice none 0 0]⟩,
  ⟨.tup [46, 24], 1, 0, [.tuple #[.slice none 0 0, .int .i64 0]]⟩,
  ⟨.fn, 1, 8, [Value.nilFunc]⟩,
  ⟨.fn, 1, 8, [Value.nilFunc]⟩,
  ⟨.fn, 1, 8, [Value.nilFunc]⟩,
  ⟨.sl 86, 1, 24, [.slice none 0 0]⟩,
  ⟨.map 3 3, 1, 8, [.map none]⟩,
  ⟨.sl 106, 1, 24, [.slice none 0 0]⟩,
  ⟨.st [(0, 51), (1, 53), (2, 52), (3, 4), (4, 4), (5, 3), (6, 3)], 7, 80, [.slice none 0 0, .slice none 0 0, .map none, .bool false, .bool false, .int .i64 0, .int .i64 0]⟩,
  ⟨.st [(0, 51), (1, 53), (2, 52), (3, 4), (4, 4), (5, 3), (6, 3)], 7, 80, [.slice none 0 0, .slice none 0 0, .map none, .bool false, .bool false, .int .i64 0, .int .i64 0]⟩,
  ⟨.fn, 1, 8, [Value.nilFunc]⟩,
  ⟨.fn, 1, 8, [Value.nilFunc]⟩,
  ⟨.fn, 1, 8, [Value.nilFunc]⟩,
  ⟨.sl 3, 1, 24, [.slice none 0 0]⟩,
  ⟨.fn, 1, 8, [Value.nilFunc]⟩,
  ⟨.map 3 91, 1, 8, [.map none]⟩,
  ⟨.st [(0, 23), (1, 3), (2, 61), (3, 3), (4, 3), (5, 3)], 6, 48, [.pointer none, .int .i64 0, .map none, .int .i64 0, .int .i64 0, .int .i64 0]⟩,
  ⟨.st [(0, 23), (1, 3), (2, 61), (3, 3), (4, 3), (5, 3)], 6, 48, [.pointer none, .int .i64 0, .map none, .int .i64 0, .int .i64 0, .int .i64 0]⟩,
  ⟨.sl 76, 1, 24, [.slice none 0 0]⟩,
  ⟨.st [(0, 28), (1, 3), (2, 64), (3, 3), (4, 3)], 5, 56, [.pointer none, .int .i64 0, .slice none 0 0, .int .i64 0, .int .i64 0]⟩,
  ⟨.st [(0, 28), (1, 3), (2, 64), (3, 3), (4, 3)], 5, 56, [.pointer none, .int .i64 0, .slice none 0 0, .int .i64 0, .int .i64 0]⟩,
  ⟨.fn, 1, 8, [Value.nilFunc]⟩,
  ⟨.fn, 1, 8, [Value.nilFunc]⟩,
  ⟨.fn, 1, 8, [Value.nilFunc]⟩,
  ⟨.fn, 1, 8, [Value.nilFunc]⟩,
  ⟨.tup [3, 3], 1, 0, [.tuple #[.int .i64 0, .int .i64 0]]⟩,
  ⟨.fn, 1, 8, [Value.nilFunc]⟩,
  ⟨.sl 78, 1, 24, [.slice none 0 0]⟩,
  ⟨.fn, 1, 8, [Value.nilFunc]⟩,
  ⟨.st [(0, 3), (1, 46), (2, 4), (3, 3)], 4, 48, [.int .i64 0, .slice none 0 0, .bool false, .int .i64 0]⟩,
  ⟨.st [(0, 3), (1, 46), (2, 4), (3, 3)], 4, 48, [.int .i64 0, .slice none 0 0, .bool false, .int .i64 0]⟩,
  ⟨.st [(0, 3), (1, 4)], 2, 16, [.int .i64 0, .bool false]⟩,
  ⟨.st [(0, 3), (1, 4)], 2, 16, [.int .i64 0, .bool false]⟩,
  ⟨.fn, 1, 8, [Value.nilFunc]⟩,
  ⟨.fn, 1, 8, [Value.nilFunc]⟩,
  ⟨.fn, 1, 8, [Value.nilFunc]⟩,
  ⟨.fn, 1, 8, [Value.nilFunc]⟩,
  ⟨.fn, 1, 8, [Value.nilFunc]⟩,
  ⟨.fn, 1, 8, [Value.nilFunc]⟩,
  ⟨.arr 256 5, 256, 256, List.replicate 256 (.int .u8 0)⟩,
  ⟨.arr 256 5, 256, 256, List.replicate 256 (.int .u8 0)⟩,
  ⟨.fn, 1, 8, [Value.nilFunc]⟩,
  ⟨.fn, 1, 8, [Value.nilFunc]⟩,
  ⟨.fn, 1, 8, [Value.nilFunc]⟩,
  ⟨.fn, 1, 8, [Value.nilFunc]⟩,
  ⟨.ptr 95, 1, 8, [.pointer none]⟩,
  ⟨.tup [91, 24], 1, 0, [.tuple #[.pointer none, .int .i64 0]]⟩,
  ⟨.fn, 1, 8, [Value.nilFunc]⟩,
  ⟨.st [(0, 46), (1, 4), (2, 3), (3, 3)], 4, 48, [.slice none 0 0, .bool false, .int .i64 0, .int .i64 0]⟩,
  ⟨.st [(0, 46), (1, 4), (2, 3), (3, 3)], 4, 48, [.slice none 0 0, .bool false, .int .i64 0, .int .i64 0]⟩,
  ⟨.fn, 1, 8, [Value.nilFunc]⟩,
  ⟨.fn, 1, 8, [Value.nilFunc]⟩,
  ⟨.fn, 1, 8, [Value.nilFunc]⟩,
  ⟨.fn, 1, 8, [Value.nilFunc]⟩,
  ⟨.fn, 1, 8, [Value.nilFunc]⟩,
  ⟨.fn, 1, 8, [Value.nilFunc]⟩,
  ⟨.fn, 1, 8, [Value.nilFunc]⟩,
  ⟨.fn, 1, 8, [Value.nilFunc]⟩,
  ⟨.fn, 1, 8, [Value.nilFunc]⟩,
  ⟨.st [(0, 3), (1, 86)], 257, 264, [.int .i64 0] ++ List.replicate 256 (.int .u8 0)⟩,
  ⟨.st [(0, 3), (1, 86)], 257, 264, [.int .i64 0] ++ List.replicate 256 (.int .u8 0)⟩,
  ⟨.st [(0, 3), (1, 46)], 2, 32, [.int .i64 0, .slice none 0 0]⟩,
  ⟨.st [(0, 3), (1, 46)], 2, 32, [.int .i64 0, .slice none 0 0]⟩,
  ⟨.fn, 1, 8, [Value.nilFunc]⟩,
  ⟨.fn, 1, 8, [Value.nilFunc]⟩,
  ⟨.tup [91, 4], 1, 0, [.tuple #[.pointer none, .bool false]]⟩,
  ⟨.tup [3, 4], 1, 0, [.tuple #[.int .i64 0, .bool false]]⟩,
  ⟨.fn, 1, 8, [Value.nilFunc]⟩,
  ⟨.fn, 1, 8, [Value.nilFunc]⟩,
  ⟨.fn, 1, 8, [Value.nilFunc]⟩,
  ⟨.fn, 1, 8, [Value.nilFunc]⟩,
  ⟨.fn, 1, 8, [Value.nilFunc]⟩,
  ⟨.int .u64, 1, 8, [.int .u64 0]⟩,
  ⟨.fn, 1, 8, [Value.nilFunc]⟩,
  ⟨.fn, 1, 8, [Value.nilFunc]⟩,
  ⟨.int .i64, 1, 8, [.int .i64 0]⟩,
  ⟨.tup [3, 121], 1, 0, [.tuple #[.int .i64 0, .int .i64 0]]⟩,
  ⟨.fn, 1, 8, [Value.nilFunc]⟩,
  ⟨.fn, 1, 8, [Value.nilFunc]⟩,
  ⟨.fn, 1, 8, [Value.nilFunc]⟩,
  ⟨.fn, 1, 8, [Value.nilFunc]⟩,
  ⟨.fn, 1, 8, [Value.nilFunc]⟩,
  ⟨.int .u32, 1, 4, [.int .u32 0]⟩,
  ⟨.fn, 1, 8, [Value.nilFunc]⟩,
  ⟨.int .u64, 1, 8, [.int .u64 0]⟩,
  ⟨.fn, 1, 8, [Value.nilFunc]⟩,
  ⟨.fn, 1, 8, [Value.nilFunc]⟩,
  ⟨.fn, 1, 8, [Value.nilFunc]⟩,
  ⟨.fn, 1, 8, [Value.nilFunc]⟩,
  ⟨.fn, 1, 8, [Value.nilFunc]⟩,
  ⟨.fn, 1, 8, [Value.nilFunc]⟩,
  ⟨.int .u64, 1, 8, [.int .u64 0]⟩,
  ⟨.fn, 1, 8, [Value.nilFunc]⟩,
  ⟨.fn, 1, 8, [Value.nilFunc]⟩,
  ⟨.fn, 1, 8, [Value.nilFunc]⟩,
  ⟨.ptr 3, 1, 8, [.pointer none]⟩,
  ⟨.fn, 1, 8, [Value.nilFunc]⟩,
  ⟨.fn, 1, 8, [Value.nilFunc]⟩,
  ⟨.fn, 1, 8, [Value.nilFunc]⟩,
  ⟨.ptr 137, 1, 8, [.pointer none]⟩,
  ⟨.fn, 1, 8, [Value.nilFunc]⟩,
  ⟨.fn, 1, 8, [Value.nilFunc]⟩,
  ⟨.fn, 1, 8, [Value.nilFunc]⟩,
  ⟨.oth, 0, 0, []⟩,
  ⟨.oth, 0, 0, []⟩,
  ⟨.arr 0 16, 0, 0, []⟩,
  ⟨.oth, 0, 0, []⟩,
  ⟨.oth, 0, 0, []⟩,
  ⟨.int .u8, 1, 1, [.int .u8 0]⟩,
  ⟨.int .u8, 1, 1, [.int .u8 0]⟩,
  ⟨.fn, 1, 8, [Value.nilFunc]⟩,
  ⟨.ptr 5, 1, 8, [.pointer none]⟩,
  ⟨.int .i32, 1, 4, [.int .i32 0]⟩,
  ⟨.int .i32, 1, 4, [.int .i32 0]⟩,
  ⟨.oth, 0, 0, []⟩,
  ⟨.oth, 0, 0, []⟩,
  ⟨.oth, 0, 0, []⟩]

theorem stood7 : Tryz.prog.stoodInHeld 7 = false := Tryz.stoodInHeld7
theorem guard7 : Tryz.prog.eqGuardType Tryz.prog.depth 7 = false := Tryz.eqGuardType7
theorem stood8 : Tryz.prog.stoodInHeld 8 = false := Tryz.stoodInHeld8
theorem guard8 : Tryz.prog.eqGuardType Tryz.prog.depth 8 = false := Tryz.eqGuardType8
theorem stood37 : Tryz.prog.stoodInHeld 37 = false := Tryz.stoodInHeld37
theorem guard37 : Tryz.prog.eqGuardType Tryz.prog.depth 37 = false := Tryz.eqGuardType37
theorem stood38 : Tryz.prog.stoodInHeld 38 = false := Tryz.stoodInHeld38
theorem guard38 : Tryz.prog.eqGuardType Tryz.prog.depth 38 = false := Tryz.eqGuardType38
theorem stood44 : Tryz.prog.stoodInHeld 44 = false := Tryz.stoodInHeld44
theorem guard44 : Tryz.prog.eqGuardType Tryz.prog.depth 44 = false := Tryz.eqGuardType44
theorem stood45 : Tryz.prog.stoodInHeld 45 = false := Tryz.stoodInHeld45
theorem guard45 : Tryz.prog.eqGuardType Tryz.prog.depth 45 = false := Tryz.eqGuardType45
theorem stood54 : Tryz.prog.stoodInHeld 54 = false := Tryz.stoodInHeld54
theorem guard54 : Tryz.prog.eqGuardType Tryz.prog.depth 54 = false := Tryz.eqGuardType54
theorem stood55 : Tryz.prog.stoodInHeld 55 = false := Tryz.stoodInHeld55
theorem guard55 : Tryz.prog.eqGuardType Tryz.prog.depth 55 = false := Tryz.eqGuardType55
theorem stood62 : Tryz.prog.stoodInHeld 62 = false := Tryz.stoodInHeld62
theorem guard62 : Tryz.prog.eqGuardType Tryz.prog.depth 62 = false := Tryz.eqGuardType62
theorem stood63 : Tryz.prog.stoodInHeld 63 = false := Tryz.stoodInHeld63
theorem guard63 : Tryz.prog.eqGuardType Tryz.prog.depth 63 = false := Tryz.eqGuardType63
theorem stood65 : Tryz.prog.stoodInHeld 65 = false := Tryz.stoodInHeld65
theorem guard65 : Tryz.prog.eqGuardType Tryz.prog.depth 65 = false := Tryz.eqGuardType65
theorem stood66 : Tryz.prog.stoodInHeld 66 = false := Tryz.stoodInHeld66
theorem guard66 : Tryz.prog.eqGuardType Tryz.prog.depth 66 = false := Tryz.eqGuardType66
theorem stood75 : Tryz.prog.stoodInHeld 75 = false := Tryz.stoodInHeld75
theorem guard75 : Tryz.prog.eqGuardType Tryz.prog.depth 75 = false := Tryz.eqGuardType75
theorem stood76 : Tryz.prog.stoodInHeld 76 = false := Tryz.stoodInHeld76
theorem guard76 : Tryz.prog.eqGuardType Tryz.prog.depth 76 = false := Tryz.eqGuardType76
theorem stood77 : Tryz.prog.stoodInHeld 77 = false := Tryz.stoodInHeld77
theorem guard77 : Tryz.prog.eqGuardType Tryz.prog.depth 77 = false := Tryz.eqGuardType77
theorem stood78 : Tryz.prog.stoodInHeld 78 = false := Tryz.stoodInHeld78
theorem guard78 : Tryz.prog.eqGuardType Tryz.prog.depth 78 = false := Tryz.eqGuardType78
theorem stood94 : Tryz.prog.stoodInHeld 94 = false := Tryz.stoodInHeld94
theorem guard94 : Tryz.prog.eqGuardType Tryz.prog.depth 94 = false := Tryz.eqGuardType94
theorem stood95 : Tryz.prog.stoodInHeld 95 = false := Tryz.stoodInHeld95
theorem guard95 : Tryz.prog.eqGuardType Tryz.prog.depth 95 = false := Tryz.eqGuardType95
theorem stood105 : Tryz.prog.stoodInHeld 105 = false := Tryz.stoodInHeld105
theorem guard105 : Tryz.prog.eqGuardType Tryz.prog.depth 105 = false := Tryz.eqGuardType105
theorem stood106 : Tryz.prog.stoodInHeld 106 = false := Tryz.stoodInHeld106
theorem guard106 : Tryz.prog.eqGuardType Tryz.prog.depth 106 = false := Tryz.eqGuardType106
theorem stood107 : Tryz.prog.stoodInHeld 107 = false := Tryz.stoodInHeld107
theorem guard107 : Tryz.prog.eqGuardType Tryz.prog.depth 107 = false := Tryz.eqGuardType107
theorem stood108 : Tryz.prog.stoodInHeld 108 = false := Tryz.stoodInHeld108
theorem guard108 : Tryz.prog.eqGuardType Tryz.prog.depth 108 = false := Tryz.eqGuardType108
theorem row0 : RowOK Tryz.prog T 0 := row_of ⟨.tup [], 1, 0, [.tuple #[]]⟩ Tryz.t0 (by kernel_rfl) ⟨_, Tryz.underlying0, rfl⟩ (by kernel_rfl) (by kernel_rfl) (by kernel_rfl) (by kernel_rfl) (by kernel_rfl) (by kernel_rfl) (by kernel_rfl) (fun _ h => nomatch h)
theorem row1 : RowOK Tryz.prog T 1 := row_of ⟨.fn, 1, 8, [Value.nilFunc]⟩ Tryz.t1 (by kernel_rfl) ⟨_, _, _, Tryz.underlying1⟩ (by kernel_rfl) (by kernel_rfl) (by kernel_rfl) (by kernel_rfl) (by kernel_rfl) (by kernel_rfl) (by kernel_rfl) (fun _ h => nomatch h)
theorem row2 : RowOK Tryz.prog T 2 := row_of ⟨.int .i64, 1, 8, [.int .i64 0]⟩ Tryz.t2 (by kernel_rfl) Tryz.underlying2 (by kernel_rfl) (by kernel_rfl) (by kernel_rfl) (by kernel_rfl) (by kernel_rfl) (by kernel_rfl) (by kernel_rfl) (fun _ h => nomatch h)
theorem row3 : RowOK Tryz.prog T 3 := row_of ⟨.int .i64, 1, 8, [.int .i64 0]⟩ Tryz.t3 (by kernel_rfl) Tryz.underlying3 (by kernel_rfl) (by kernel_rfl) (by kernel_rfl) (by kernel_rfl) (by kernel_rfl) (by kernel_rfl) (by kernel_rfl) (fun _ h => nomatch h)
theorem row4 : RowOK Tryz.prog T 4 := row_of ⟨.bool, 1, 1, [.bool false]⟩ Tryz.t4 (by kernel_rfl) Tryz.underlying4 (by kernel_rfl) (by kernel_rfl) (by kernel_rfl) (by kernel_rfl) (by kernel_rfl) (by kernel_rfl) (by kernel_rfl) (fun _ h => nomatch h)
theorem row5 : RowOK Tryz.prog T 5 := row_of ⟨.int .u8, 1, 1, [.int .u8 0]⟩ Tryz.t5 (by kernel_rfl) Tryz.underlying5 (by kernel_rfl) (by kernel_rfl) (by kernel_rfl) (by kernel_rfl) (by kernel_rfl) (by kernel_rfl) (by kernel_rfl) (fun _ h => nomatch h)
theorem row6 : RowOK Tryz.prog T 6 := row_of ⟨.int .u8, 1, 1, [.int .u8 0]⟩ Tryz.t6 (by kernel_rfl) Tryz.underlying6 (by kernel_rfl) (by kernel_rfl) (by kernel_rfl) (by kernel_rfl) (by kernel_rfl) (by kernel_rfl) (by kernel_rfl) (fun _ h => nomatch h)
theorem row7 : RowOK Tryz.prog T 7 := row_of ⟨.st [(0, 2), (1, 3), (2, 4), (3, 6)], 4, 24, [.int .i64 0, .int .i64 0, .bool false, .int .u8 0]⟩ Tryz.t7 (by kernel_rfl) ⟨_, Tryz.underlying7, rfl⟩ (by kernel_rfl) (by kernel_rfl) (by kernel_rfl) (by kernel_rfl) (by kernel_rfl) (by kernel_rfl) (by kernel_rfl) (fun fs h => ⟨stood7, guard7, fun F hF f hf => by rw [Tryz.underlying7] at hF; cases hF; revert f; decide⟩)
theorem row8 : RowOK Tryz.prog T 8 := row_of ⟨.st [(0, 2), (1, 3), (2, 4), (3, 6)], 4, 24, [.int .i64 0, .int .i64 0, .bool false, .int .u8 0]⟩ Tryz.t8 (by kernel_rfl) ⟨_, Tryz.underlying8, rfl⟩ (by kernel_rfl) (by kernel_rfl) (by kernel_rfl) (by kernel_rfl) (by kernel_rfl) (by kernel_rfl) (by kernel_rfl) (fun fs h => ⟨stood8, guard8, fun F hF f hf => by rw [Tryz.underlying8] at hF; cases hF; revert f; decide⟩)
theorem row9 : RowOK Tryz.prog T 9 := row_of ⟨.str, 1, 16, [.string ⟨#[]⟩]⟩ Tryz.t9 (by kernel_rfl) Tryz.underlying9 (by kernel_rfl) (by kernel_rfl) (by kernel_rfl) (by kernel_rfl) (by kernel_rfl) (by kernel_rfl) (by kernel_rfl) (fun _ h => nomatch h)
theorem row10 : RowOK Tryz.prog T 10 := row_of ⟨.str, 1, 16, [.string ⟨#[]⟩]⟩ Tryz.t10 (by kernel_rfl) Tryz.underlying10 (by kernel_rfl) (by kernel_rfl) (by kernel_rfl) (by kernel_rfl) (by kernel_rfl) (by kernel_rfl) (by kernel_rfl) (fun _ h => nomatch h)
theorem row11 : RowOK Tryz.prog T 11 := row_of ⟨.str, 1, 16, [.string ⟨#[]⟩]⟩ Tryz.t11 (by kernel_rfl) Tryz.underlying11 (by kernel_rfl) (by kernel_rfl) (by kernel_rfl) (by kernel_rfl) (by kernel_rfl) (by kernel_rfl) (by kernel_rfl) (fun _ h => nomatch h)
theorem row12 : RowOK Tryz.prog T 12 := row_of ⟨.int .u64, 1, 8, [.int .u64 0]⟩ Tryz.t12 (by kernel_rfl) Tryz.underlying12 (by kernel_rfl) (by kernel_rfl) (by kernel_rfl) (by kernel_rfl) (by kernel_rfl) (by kernel_rfl) (by kernel_rfl) (fun _ h => nomatch h)
theorem row15 : RowOK Tryz.prog T 15 := row_of ⟨.ptr 150, 1, 8, [.pointer none]⟩ Tryz.t15 (by kernel_rfl) Tryz.underlying15 (by kernel_rfl) (by kernel_rfl) (by kernel_rfl) (by kernel_rfl) (by kernel_rfl) (by kernel_rfl) (by kernel_rfl) (fun _ h => nomatch h)
theorem row16 : RowOK Tryz.prog T 16 := row_of ⟨.ptr 153, 1, 8, [.pointer none]⟩ Tryz.t16 (by kernel_rfl) Tryz.underlying16 (by kernel_rfl) (by kernel_rfl) (by kernel_rfl) (by kernel_rfl) (by kernel_rfl) (by kernel_rfl) (by kernel_rfl) (fun _ h => nomatch h)
theorem row17 : RowOK Tryz.prog T 17 := row_of ⟨.ptr 161, 1, 8, [.pointer none]⟩ Tryz.t17 (by kernel_rfl) Tryz.underlying17 (by kernel_rfl) (by kernel_rfl) (by kernel_rfl) (by kernel_rfl) (by kernel_rfl) (by kernel_rfl) (by kernel_rfl) (fun _ h => nomatch h)
theorem row21 : RowOK Tryz.prog T 21 := row_of ⟨.int .i32, 1, 4, [.int .i32 0]⟩ Tryz.t21 (by kernel_rfl) Tryz.underlying21 (by kernel_rfl) (by kernel_rfl) (by kernel_rfl) (by kernel_rfl) (by kernel_rfl) (by kernel_rfl) (by kernel_rfl) (fun _ h => nomatch h)
theorem row22 : RowOK Tryz.prog T 22 := row_of ⟨.sl 38, 1, 24, [.slice none 0 0]⟩ Tryz.t22 (by kernel_rfl) Tryz.underlying22 (by kernel_rfl) (by kernel_rfl) (by kernel_rfl) (by kernel_rfl) (by kernel_rfl) (by kernel_rfl) (by kernel_rfl) (fun _ h => nomatch h)
theorem row23 : RowOK Tryz.prog T 23 := row_of ⟨.ptr 55, 1, 8, [.pointer none]⟩ Tryz.t23 (by kernel_rfl) Tryz.underlying23 (by kernel_rfl) (by kernel_rfl) (by kernel_rfl) (by kernel_rfl) (by kernel_rfl) (by kernel_rfl) (by kernel_rfl) (fun _ h => nomatch h)
theorem row24 : RowOK Tryz.prog T 24 := row_of ⟨.int .i64, 1, 8, [.int .i64 0]⟩ Tryz.t24 (by kernel_rfl) Tryz.underlying24 (by kernel_rfl) (by kernel_rfl) (by kernel_rfl) (by kernel_rfl) (by kernel_rfl) (by kernel_rfl) (by kernel_rfl) (fun _ h => nomatch h)
theorem row25 : RowOK Tryz.prog T 25 := row_of ⟨.tup [23, 24], 1, 0, [.tuple #[.pointer none, .int .i64 0]]⟩ Tryz.t25 (by kernel_rfl) ⟨_, Tryz.underlying25, rfl⟩ (by kernel_rfl) (by kernel_rfl) (by kernel_rfl) (by kernel_rfl) (by kernel_rfl) (by kernel_rfl) (by kernel_rfl) (fun _ h => nomatch h)
theorem row26 : RowOK Tryz.prog T 26 := row_of ⟨.fn, 1, 8, [Value.nilFunc]⟩ Tryz.t26 (by kernel_rfl) ⟨_, _, _, Tryz.underlying26⟩ (by kernel_rfl) (by kernel_rfl) (by kernel_rfl) (by kernel_rfl) (by kernel_rfl) (by kernel_rfl) (by kernel_rfl) (fun _ h => nomatch h)
theorem row27 : RowOK Tryz.prog T 27 := row_of ⟨.fn, 1, 8, [Value.nilFunc]⟩ Tryz.t27 (by kernel_rfl) ⟨_, _, _, Tryz.underlying27⟩ (by kernel_rfl) (by kernel_rfl) (by kernel_rfl) (by kernel_rfl) (by kernel_rfl) (by kernel_rfl) (by kernel_rfl) (fun _ h => nomatch h)
theorem row28 : RowOK Tryz.prog T 28 := row_of ⟨.ptr 45, 1, 8, [.pointer none]⟩ Tryz.t28 (by kernel_rfl) Tryz.underlying28 (by kernel_rfl) (by kernel_rfl) (by kernel_rfl) (by kernel_rfl) (by kernel_rfl) (by kernel_rfl) (by kernel_rfl) (fun _ h => nomatch h)
theorem row29 : RowOK Tryz.prog T 29 := row_of ⟨.tup [28, 24], 1, 0, [.tuple #[.pointer none, .int .i64 0]]⟩ Tryz.t29 (by kernel_rfl) ⟨_, Tryz.underlying29, rfl⟩ (by kernel_rfl) (by kernel_rfl) (by kernel_rfl) (by kernel_rfl) (by kernel_rfl) (by kernel_rfl) (by kernel_rfl) (fun _ h => nomatch h)
theorem row30 : RowOK Tryz.prog T 30 := row_of ⟨.fn, 1, 8, [Value.nilFunc]⟩ Tryz.t30 (by kernel_rfl) ⟨_, _, _, Tryz.underlying30⟩ (by kernel_rfl) (by kernel_rfl) (by kernel_rfl) (by kernel_rfl) (by kernel_rfl) (by kernel_rfl) (by kernel_rfl) (fun _ h => nomatch h)
theorem row31 : RowOK Tryz.prog T 31 := row_of ⟨.ptr 63, 1, 8, [.pointer none]⟩ Tryz.t31 (by kernel_rfl) Tryz.underlying31 (by kernel_rfl) (by kernel_rfl) (by kernel_rfl) (by kernel_rfl) (by kernel_rfl) (by kernel_rfl) (by kernel_rfl) (fun _ h => nomatch h)
theorem row32 : RowOK Tryz.prog T 32 := row_of ⟨.tup [31, 24], 1, 0, [.tuple #[.pointer none, .int .i64 0]]⟩ Tryz.t32 (by kernel_rfl) ⟨_, Tryz.underlying32, rfl⟩ (by kernel_rfl) (by kernel_rfl) (by kernel_rfl) (by kernel_rfl) (by kernel_rfl) (by kernel_rfl) (by kernel_rfl) (fun _ h => nomatch h)
theorem row33 : RowOK Tryz.prog T 33 := row_of ⟨.fn, 1, 8, [Value.nilFunc]⟩ Tryz.t33 (by kernel_rfl) ⟨_, _, _, Tryz.underlying33⟩ (by kernel_rfl) (by kernel_rfl) (by kernel_rfl) (by kernel_rfl) (by kernel_rfl) (by kernel_rfl) (by kernel_rfl) (fun _ h => nomatch h)
theorem row34 : RowOK Tryz.prog T 34 := row_of ⟨.ptr 66, 1, 8, [.pointer none]⟩ Tryz.t34 (by kernel_rfl) Tryz.underlying34 (by kernel_rfl) (by kernel_rfl) (by kernel_rfl) (by kernel_rfl) (by kernel_rfl) (by kernel_rfl) (by kernel_rfl) (fun _ h => nomatch h)
theorem row35 : RowOK Tryz.prog T 35 := row_of ⟨.tup [34, 24], 1, 0, [.tuple #[.pointer none, .int .i64 0]]⟩ Tryz.t35 (by kernel_rfl) ⟨_, Tryz.underlying35, rfl⟩ (by kernel_rfl) (by kernel_rfl) (by kernel_rfl) (by kernel_rfl) (by kernel_rfl) (by kernel_rfl) (by kernel_rfl) (fun _ h => nomatch h)
theorem row36 : RowOK Tryz.prog T 36 := row_of ⟨.fn, 1, 8, [Value.nilFunc]⟩ Tryz.t36 (by kernel_rfl) ⟨_, _, _, Tryz.underlying36⟩ (by kernel_rfl) (by kernel_rfl) (by kernel_rfl) (by kernel_rfl) (by kernel_rfl) (by kernel_rfl) (by kernel_rfl) (fun _ h => nomatch h)
theorem row37 : RowOK Tryz.prog T 37 := row_of ⟨.st [(0, 3), (1, 3), (2, 5), (3, 3)], 4, 32, [.int .i64 0, .int .i64 0, .int .u8 0, .int .i64 0]⟩ Tryz.t37 (by kernel_rfl) ⟨_, Tryz.underlying37, rfl⟩ (by kernel_rfl) (by kernel_rfl) (by kernel_rfl) (by kernel_rfl) (by kernel_rfl) (by kernel_rfl) (by kernel_rfl) (fun fs h => ⟨stood37, guard37, fun F hF f hf => by rw [Tryz.underlying37] at hF; cases hF; revert f; decide⟩)
theorem row38 : RowOK Tryz.prog T 38 := row_of ⟨.st [(0, 3), (1, 3), (2, 5), (3, 3)], 4, 32, [.int .i64 0, .int .i64 0, .int .u8 0, .int .i64 0]⟩ Tryz.t38 (by kernel_rfl) ⟨_, Tryz.underlying38, rfl⟩ (by kernel_rfl) (by kernel_rfl) (by kernel_rfl) (by kernel_rfl) (by kernel_rfl) (by kernel_rfl) (by kernel_rfl) (fun fs h => ⟨stood38, guard38, fun F hF f hf => by rw [Tryz.underlying38] at hF; cases hF; revert f; decide⟩)
theorem row39 : RowOK Tryz.prog T 39 := row_of ⟨.fn, 1, 8, [Value.nilFunc]⟩ Tryz.t39 (by kernel_rfl) ⟨_, _, _, Tryz.underlying39⟩ (by kernel_rfl) (by kernel_rfl) (by kernel_rfl) (by kernel_rfl) (by kernel_rfl) (by kernel_rfl) (by kernel_rfl) (fun _ h => nomatch h)
theorem row40 : RowOK Tryz.prog T 40 := row_of ⟨.fn, 1, 8, [Value.nilFunc]⟩ Tryz.t40 (by kernel_rfl) ⟨_, _, _, Tryz.underlying40⟩ (by kernel_rfl) (by kernel_rfl) (by kernel_rfl) (by kernel_rfl) (by kernel_rfl) (by kernel_rfl) (by kernel_rfl) (fun _ h => nomatch h)
theorem row41 : RowOK Tryz.prog T 41 := row_of ⟨.fn, 1, 8, [Value.nilFunc]⟩ Tryz.t41 (by kernel_rfl) ⟨_, _, _, Tryz.underlying41⟩ (by kernel_rfl) (by kernel_rfl) (by kernel_rfl) (by kernel_rfl) (by kernel_rfl) (by kernel_rfl) (by kernel_rfl) (fun _ h => nomatch h)
theorem row42 : RowOK Tryz.prog T 42 := row_of ⟨.sl 46, 1, 24, [.slice none 0 0]⟩ Tryz.t42 (by kernel_rfl) Tryz.underlying42 (by kernel_rfl) (by kernel_rfl) (by kernel_rfl) (by kernel_rfl) (by kernel_rfl) (by kernel_rfl) (by kernel_rfl) (fun _ h => nomatch h)
theorem row43 : RowOK Tryz.prog T 43 := row_of ⟨.sl 108, 1, 24, [.slice none 0 0]⟩ Tryz.t43 (by kernel_rfl) Tryz.underlying43 (by kernel_rfl) (by kernel_rfl) (by kernel_rfl) (by kernel_rfl) (by kernel_rfl) (by kernel_rfl) (by kernel_rfl) (fun _ h => nomatch h)
theorem row44 : RowOK Tryz.prog T 44 := row_of ⟨.st [(0, 42), (1, 43), (2, 3), (3, 4), (4, 3)], 5, 72, [.slice none 0 0, .slice none 0 0, .int .i64 0, .bool false, .int .i64 0]⟩ Tryz.t44 (by kernel_rfl) ⟨_, Tryz.underlying44, rfl⟩ (by kernel_rfl) (by kernel_rfl) (by kernel_rfl) (by kernel_rfl) (by kernel_rfl) (by kernel_rfl) (by kernel_rfl) (fun fs h => ⟨stood44, guard44, fun F hF f hf => by rw [Tryz.underlying44] at hF; cases hF; revert f; decide⟩)
theorem row45 : RowOK Tryz.prog T 45 := row_of ⟨.st [(0, 42), (1, 43), (2, 3), (3, 4), (4, 3)], 5, 72, [.slice none 0 0, .slice none 0 0, .int .i64 0, .bool false, .int .i64 0]⟩ Tryz.t45 (by kernel_rfl) ⟨_, Tryz.underlying45, rfl⟩ (by kernel_rfl) (by kernel_rfl) (by kernel_rfl) (by kernel_rfl) (by kernel_rfl) (by kernel_rfl) (by kernel_rfl) (fun fs h => ⟨stood45, guard45, fun F hF f hf => by rw [Tryz.underlying45] at hF; cases hF; revert f; decide⟩)
theorem row46 : RowOK Tryz.prog T 46 := row_of ⟨.sl 5, 1, 24, [.slice none 0 0]⟩ Tryz.t46 (by kernel_rfl) Tryz.underlying46 (by kernel_rfl) (by kernel_rfl) (by kernel_rfl) (by kernel_rfl) (by kernel_rfl) (by kernel_rfl) (by kernel_rfl) (fun _ h => nomatch h)
theorem row47 : RowOK Tryz.prog T 47 := row_of ⟨.tup [46, 24], 1, 0, [.tuple #[.slice none 0 0, .int .i64 0]]⟩ Tryz.t47 (by kernel_rfl) ⟨_, Tryz.underlying47, rfl⟩ (by kernel_rfl) (by kernel_rfl) (by kernel_rfl) (by kernel_rfl) (by kernel_rfl) (by kernel_rfl) (by kernel_rfl) (fun _ h => nomatch h)
theorem row48 : RowOK Tryz.prog T 48 := row_of ⟨.fn, 1, 8, [Value.nilFunc]⟩ Tryz.t48 (by kernel_rfl) ⟨_, _, _, Tryz.underlying48⟩ (by kernel_rfl) (by kernel_rfl) (by kernel_rfl) (by kernel_rfl) (by kernel_rfl) (by kernel_rfl) (by kernel_rfl) (fun _ h => nomatch h)
theorem row49 : RowOK Tryz.prog T 49 := row_of ⟨.fn, 1, 8, [Value.nilFunc]⟩ Tryz.t49 (by kernel_rfl) ⟨_, _, _, Tryz.underlying49⟩ (by kernel_rfl) (by kernel_rfl) (by kernel_rfl) (by kernel_rfl) (by kernel_rfl) (by kernel_rfl) (by kernel_rfl) (fun _ h => nomatch h)
theorem row50 : RowOK Tryz.prog T 50 := row_of ⟨.fn, 1, 8, [Value.nilFunc]⟩ Tryz.t50 (by kernel_rfl) ⟨_, _, _, Tryz.underlying50⟩ (by kernel_rfl) (by kernel_rfl) (by kernel_rfl) (by kernel_rfl) (by kernel_rfl) (by kernel_rfl) (by kernel_rfl) (fun _ h => nomatch h)
theorem row51 : RowOK Tryz.prog T 51 := row_of ⟨.sl 86, 1, 24, [.slice none 0 0]⟩ Tryz.t51 (by kernel_rfl) Tryz.underlying51 (by kernel_rfl) (by kernel_rfl) (by kernel_rfl) (by kernel_rfl) (by kernel_rfl) (by kernel_rfl) (by kernel_rfl) (fun _ h => nomatch h)
theorem row52 : RowOK Tryz.prog T 52 := row_of ⟨.map 3 3, 1, 8, [.map none]⟩ Tryz.t52 (by kernel_rfl) Tryz.underlying52 (by kernel_rfl) (by kernel_rfl) (by kernel_rfl) (by kernel_rfl) (by kernel_rfl) (by kernel_rfl) (by kernel_rfl) (fun _ h => nomatch h)
theorem row53 : RowOK Tryz.prog T 53 := row_of ⟨.sl 106, 1, 24, [.slice none 0 0]⟩ Tryz.t53 (by kernel_rfl) Tryz.underlying53 (by kernel_rfl) (by kernel_rfl) (by kernel_rfl) (by kernel_rfl) (by kernel_rfl) (by kernel_rfl) (by kernel_rfl) (fun _ h => nomatch h)
theorem row54 : RowOK Tryz.prog T 54 := row_of ⟨.st [(0, 51), (1, 53), (2, 52), (3, 4), (4, 4), (5, 3), (6, 3)], 7, 80, [.slice none 0 0, .slice none 0 0, .map none, .bool false, .bool false, .int .i64 0, .int .i64 0]⟩ Tryz.t54 (by kernel_rfl) ⟨_, Tryz.underlying54, rfl⟩ (by kernel_rfl) (by kernel_rfl) (by kernel_rfl) (by kernel_rfl) (by kernel_rfl) (by kernel_rfl) (by kernel_rfl) (fun fs h => ⟨stood54, guard54, fun F hF f hf => by rw [Tryz.underlying54] at hF; cases hF; revert f; decide⟩)
theorem row55 : RowOK Tryz.prog T 55 := row_of ⟨.st [(0, 51), (1, 53), (2, 52), (3, 4), (4, 4), (5, 3), (6, 3)], 7, 80, [.slice none 0 0, .slice none 0 0, .map none, .bool false, .bool false, .int .i64 0, .int .i64 0]⟩ Tryz.t55 (by kernel_rfl) ⟨_, Tryz.underlying55, rfl⟩ (by kernel_rfl) (by kernel_rfl) (by kernel_rfl) (by kernel_rfl) (by kernel_rfl) (by kernel_rfl) (by kernel_rfl) (fun fs h => ⟨stood55, guard55, fun F hF f hf => by rw [Tryz.underlying55] at hF; cases hF; revert f; decide⟩)
theorem row56 : RowOK Tryz.prog T 56 := row_of ⟨.fn, 1, 8, [Value.nilFunc]⟩ Tryz.t56 (by kernel_rfl) ⟨_, _, _, Tryz.underlying56⟩ (by kernel_rfl) (by kernel_rfl) (by kernel_rfl) (by kernel_rfl) (by kernel_rfl) (by kernel_rfl) (by kernel_rfl) (fun _ h => nomatch h)
theorem row57 : RowOK Tryz.prog T 57 := row_of ⟨.fn, 1, 8, [Value.nilFunc]⟩ Tryz.t57 (by kernel_rfl) ⟨_, _, _, Tryz.underlying57⟩ (by kernel_rfl) (by kernel_rfl) (by kernel_rfl) (by kernel_rfl) (by kernel_rfl) (by kernel_rfl) (by kernel_rfl) (fun _ h => nomatch h)
theorem row58 : RowOK Tryz.prog T 58 := row_of ⟨.fn, 1, 8, [Value.nilFunc]⟩ Tryz.t58 (by kernel_rfl) ⟨_, _, _, Tryz.underlying58⟩ (by kernel_rfl) (by kernel_rfl) (by kernel_rfl) (by kernel_rfl) (by kernel_rfl) (by kernel_rfl) (by kernel_rfl) (fun _ h => nomatch h)
theorem row59 : RowOK Tryz.prog T 59 := row_of ⟨.sl 3, 1, 24, [.slice none 0 0]⟩ Tryz.t59 (by kernel_rfl) Tryz.underlying59 (by kernel_rfl) (by kernel_rfl) (by kernel_rfl) (by kernel_rfl) (by kernel_rfl) (by kernel_rfl) (by kernel_rfl) (fun _ h => nomatch h)
theorem row60 : RowOK Tryz.prog T 60 := row_of ⟨.fn, 1, 8, [Value.nilFunc]⟩ Tryz.t60 (by kernel_rfl) ⟨_, _, _, Tryz.underlying60⟩ (by kernel_rfl) (by kernel_rfl) (by kernel_rfl) (by kernel_rfl) (by kernel_rfl) (by kernel_rfl) (by kernel_rfl) (fun _ h => nomatch h)
theorem row61 : RowOK Tryz.prog T 61 := row_of ⟨.map 3 91, 1, 8, [.map none]⟩ Tryz.t61 (by kernel_rfl) Tryz.underlying61 (by kernel_rfl) (by kernel_rfl) (by kernel_rfl) (by kernel_rfl) (by kernel_rfl) (by kernel_rfl) (by kernel_rfl) (fun _ h => nomatch h)
theorem row62 : RowOK Tryz.prog T 62 := row_of ⟨.st [(0, 23), (1, 3), (2, 61), (3, 3), (4, 3), (5, 3)], 6, 48, [.pointer none, .int .i64 0, .map none, .int .i64 0, .int .i64 0, .int .i64 0]⟩ Tryz.t62 (by kernel_rfl) ⟨_, Tryz.underlying62, rfl⟩ (by kernel_rfl) (by kernel_rfl) (by kernel_rfl) (by kernel_rfl) (by kernel_rfl) (by kernel_rfl) (by kernel_rfl) (fun fs h => ⟨stood62, guard62, fun F hF f hf => by rw [Tryz.underlying62] at hF; cases hF; revert f; decide⟩)
theorem row63 : RowOK Tryz.prog T 63 := row_of ⟨.st [(0, 23), (1, 3), (2, 61), (3, 3), (4, 3), (5, 3)], 6, 48, [.pointer none, .int .i64 0, .map none, .int .i64 0, .int .i64 0, .int .i64 0]⟩ Tryz.t63 (by kernel_rfl) ⟨_, Tryz.underlying63, rfl⟩ (by kernel_rfl) (by kernel_rfl) (by kernel_rfl) (by kernel_rfl) (by kernel_rfl) (by kernel_rfl) (by kernel_rfl) (fun fs h => ⟨stood63, guard63, fun F hF f hf => by rw [Tryz.underlying63] at hF; cases hF; revert f; decide⟩)
theorem row64 : RowOK Tryz.prog T 64 := row_of ⟨.sl 76, 1, 24, [.slice none 0 0]⟩ Tryz.t64 (by kernel_rfl) Tryz.underlying64 (by kernel_rfl) (by kernel_rfl) (by kernel_rfl) (by kernel_rfl) (by kernel_rfl) (by kernel_rfl) (by kernel_rfl) (fun _ h => nomatch h)
theorem row65 : RowOK Tryz.prog T 65 := row_of ⟨.st [(0, 28), (1, 3), (2, 64), (3, 3), (4, 3)], 5, 56, [.pointer none, .int .i64 0, .slice none 0 0, .int .i64 0, .int .i64 0]⟩ Tryz.t65 (by kernel_rfl) ⟨_, Tryz.underlying65, rfl⟩ (by kernel_rfl) (by kernel_rfl) (by kernel_rfl) (by kernel_rfl) (by kernel_rfl) (by kernel_rfl) (by kernel_rfl) (fun fs h => ⟨stood65, guard65, fun F hF f hf => by rw [Tryz.underlying65] at hF; cases hF; revert f; decide⟩)
theorem row66 : RowOK Tryz.prog T 66 := row_of ⟨.st [(0, 28), (1, 3), (2, 64), (3, 3), (4, 3)], 5, 56, [.pointer none, .int .i64 0, .slice none 0 0, .int .i64 0, .int .i64 0]⟩ Tryz.t66 (by kernel_rfl) ⟨_, Tryz.underlying66, rfl⟩ (by kernel_rfl) (by kernel_rfl) (by kernel_rfl) (by kernel_rfl) (by kernel_rfl) (by kernel_rfl) (by kernel_rfl) (fun fs h => ⟨stood66, guard66, fun F hF f hf => by rw [Tryz.underlying66] at hF; cases hF; revert f; decide⟩)
theorem row67 : RowOK Tryz.prog T 67 := row_of ⟨.fn, 1, 8, [Value.nilFunc]⟩ Tryz.t67 (by kernel_rfl) ⟨_, _, _, Tryz.underlying67⟩ (by kernel_rfl) (by kernel_rfl) (by kernel_rfl) (by kernel_rfl) (by kernel_rfl) (by kernel_rfl) (by kernel_rfl) (fun _ h => nomatch h)
theorem row68 : RowOK Tryz.prog T 68 := row_of ⟨.fn, 1, 8, [Value.nilFunc]⟩ Tryz.t68 (by kernel_rfl) ⟨_, _, _, Tryz.underlying68⟩ (by kernel_rfl) (by kernel_rfl) (by kernel_rfl) (by kernel_rfl) (by kernel_rfl) (by kernel_rfl) (by kernel_rfl) (fun _ h => nomatch h)
theorem row69 : RowOK Tryz.prog T 69 := row_of ⟨.fn, 1, 8, [Value.nilFunc]⟩ Tryz.t69 (by kernel_rfl) ⟨_, _, _, Tryz.underlying69⟩ (by kernel_rfl) (by kernel_rfl) (by kernel_rfl) (by kernel_rfl) (by kernel_rfl) (by kernel_rfl) (by kernel_rfl) (fun _ h => nomatch h)
theorem row70 : RowOK Tryz.prog T 70 := row_of ⟨.fn, 1, 8, [Value.nilFunc]⟩ Tryz.t70 (by kernel_rfl) ⟨_, _, _, Tryz.underlying70⟩ (by kernel_rfl) (by kernel_rfl) (by kernel_rfl) (by kernel_rfl) (by kernel_rfl) (by kernel_rfl) (by kernel_rfl) (fun _ h => nomatch h)
theorem row71 : RowOK Tryz.prog T 71 := row_of ⟨.tup [3, 3], 1, 0, [.tuple #[.int .i64 0, .int .i64 0]]⟩ Tryz.t71 (by kernel_rfl) ⟨_, Tryz.underlying71, rfl⟩ (by kernel_rfl) (by kernel_rfl) (by kernel_rfl) (by kernel_rfl) (by kernel_rfl) (by kernel_rfl) (by kernel_rfl) (fun _ h => nomatch h)
theorem row72 : RowOK Tryz.prog T 72 := row_of ⟨.fn, 1, 8, [Value.nilFunc]⟩ Tryz.t72 (by kernel_rfl) ⟨_, _, _, Tryz.underlying72⟩ (by kernel_rfl) (by kernel_rfl) (by kernel_rfl) (by kernel_rfl) (by kernel_rfl) (by kernel_rfl) (by kernel_rfl) (fun _ h => nomatch h)
theorem row73 : RowOK Tryz.prog T 73 := row_of ⟨.sl 78, 1, 24, [.slice none 0 0]⟩ Tryz.t73 (by kernel_rfl) Tryz.underlying73 (by kernel_rfl) (by kernel_rfl) (by kernel_rfl) (by kernel_rfl) (by kernel_rfl) (by kernel_rfl) (by kernel_rfl) (fun _ h => nomatch h)
theorem row74 : RowOK Tryz.prog T 74 := row_of ⟨.fn, 1, 8, [Value.nilFunc]⟩ Tryz.t74 (by kernel_rfl) ⟨_, _, _, Tryz.underlying74⟩ (by kernel_rfl) (by kernel_rfl) (by kernel_rfl) (by kernel_rfl) (by kernel_rfl) (by kernel_rfl) (by kernel_rfl) (fun _ h => nomatch h)
theorem row75 : RowOK Tryz.prog T 75 := row_of ⟨.st [(0, 3), (1, 46), (2, 4), (3, 3)], 4, 48, [.int .i64 0, .slice none 0 0, .bool false, .int .i64 0]⟩ Tryz.t75 (by kernel_rfl) ⟨_, Tryz.underlying75, rfl⟩ (by kernel_rfl) (by kernel_rfl) (by kernel_rfl) (by kernel_rfl) (by kernel_rfl) (by kernel_rfl) (by kernel_rfl) (fun fs h => ⟨stood75, guard75, fun F hF f hf => by rw [Tryz.underlying75] at hF; cases hF; revert f; decide⟩)
theorem row76 : RowOK Tryz.prog T 76 := row_of ⟨.st [(0, 3), (1, 46), (2, 4), (3, 3)], 4, 48, [.int .i64 0, .slice none 0 0, .bool false, .int .i64 0]⟩ Tryz.t76 (by kernel_rfl) ⟨_, Tryz.underlying76, rfl⟩ (by kernel_rfl) (by kernel_rfl) (by kernel_rfl) (by kernel_rfl) (by kernel_rfl) (by kernel_rfl) (by kernel_rfl) (fun fs h => ⟨stood76, guard76, fun F hF f hf => by rw [Tryz.underlying76] at hF; cases hF; revert f; decide⟩)
theorem row77 : RowOK Tryz.prog T 77 := row_of ⟨.st [(0, 3), (1, 4)], 2, 16, [.int .i64 0, .bool false]⟩ Tryz.t77 (by kernel_rfl) ⟨_, Tryz.underlying77, rfl⟩ (by kernel_rfl) (by kernel_rfl) (by kernel_rfl) (by kernel_rfl) (by kernel_rfl) (by kernel_rfl) (by kernel_rfl) (fun fs h => ⟨stood77, guard77, fun F hF f hf => by rw [Tryz.underlying77] at hF; cases hF; revert f; decide⟩)
theorem row78 : RowOK Tryz.prog T 78 := row_of ⟨.st [(0, 3), (1, 4)], 2, 16, [.int .i64 0, .bool false]⟩ Tryz.t78 (by kernel_rfl) ⟨_, Tryz.underlying78, rfl⟩ (by kernel_rfl) (by kernel_rfl) (by kernel_rfl) (by kernel_rfl) (by kernel_rfl) (by kernel_rfl) (by kernel_rfl) (fun fs h => ⟨stood78, guard78, fun F hF f hf => by rw [Tryz.underlying78] at hF; cases hF; revert f; decide⟩)
theorem row79 : RowOK Tryz.prog T 79 := row_of ⟨.fn, 1, 8, [Value.nilFunc]⟩ Tryz.t79 (by kernel_rfl) ⟨_, _, _, Tryz.underlying79⟩ (by kernel_rfl) (by kernel_rfl) (by kernel_rfl) (by kernel_rfl) (by kernel_rfl) (by kernel_rfl) (by kernel_rfl) (fun _ h => nomatch h)
theorem row80 : RowOK Tryz.prog T 80 := row_of ⟨.fn, 1, 8, [Value.nilFunc]⟩ Tryz.t80 (by kernel_rfl) ⟨_, _, _, Tryz.underlying80⟩ (by kernel_rfl) (by kernel_rfl) (by kernel_rfl) (by kernel_rfl) (by kernel_rfl) (by kernel_rfl) (by kernel_rfl) (fun _ h => nomatch h)
theorem row81 : RowOK Tryz.prog T 81 := row_of ⟨.fn, 1, 8, [Value.nilFunc]⟩ Tryz.t81 (by kernel_rfl) ⟨_, _, _, Tryz.underlying81⟩ (by kernel_rfl) (by kernel_rfl) (by kernel_rfl) (by kernel_rfl) (by kernel_rfl) (by kernel_rfl) (by kernel_rfl) (fun _ h => nomatch h)
theorem row82 : RowOK Tryz.prog T 82 := row_of ⟨.fn, 1, 8, [Value.nilFunc]⟩ Tryz.t82 (by kernel_rfl) ⟨_, _, _, Tryz.underlying82⟩ (by kernel_rfl) (by kernel_rfl) (by kernel_rfl) (by kernel_rfl) (by kernel_rfl) (by kernel_rfl) (by kernel_rfl) (fun _ h => nomatch h)
theorem row83 : RowOK Tryz.prog T 83 := row_of ⟨.fn, 1, 8, [Value.nilFunc]⟩ Tryz.t83 (by kernel_rfl) ⟨_, _, _, Tryz.underlying83⟩ (by kernel_rfl) (by kernel_rfl) (by kernel_rfl) (by kernel_rfl) (by kernel_rfl) (by kernel_rfl) (by kernel_rfl) (fun _ h => nomatch h)
theorem row84 : RowOK Tryz.prog T 84 := row_of ⟨.fn, 1, 8, [Value.nilFunc]⟩ Tryz.t84 (by kernel_rfl) ⟨_, _, _, Tryz.underlying84⟩ (by kernel_rfl) (by kernel_rfl) (by kernel_rfl) (by kernel_rfl) (by kernel_rfl) (by kernel_rfl) (by kernel_rfl) (fun _ h => nomatch h)
theorem row85 : RowOK Tryz.prog T 85 := row_of ⟨.arr 256 5, 256, 256, List.replicate 256 (.int .u8 0)⟩ Tryz.t85 (by kernel_rfl) Tryz.underlying85 (by kernel_rfl) (by kernel_rfl) (by kernel_rfl) (by kernel_rfl) (by kernel_rfl) (by kernel_rfl) (by kernel_rfl) (fun _ h => nomatch h)
theorem row86 : RowOK Tryz.prog T 86 := row_of ⟨.arr 256 5, 256, 256, List.replicate 256 (.int .u8 0)⟩ Tryz.t86 (by kernel_rfl) Tryz.underlying86 (by kernel_rfl) (by kernel_rfl) (by kernel_rfl) (by kernel_rfl) (by kernel_rfl) (by kernel_rfl) (by kernel_rfl) (fun _ h => nomatch h)
theorem row87 : RowOK Tryz.prog T 87 := row_of ⟨.fn, 1, 8, [Value.nilFunc]⟩ Tryz.t87 (by kernel_rfl) ⟨_, _, _, Tryz.underlying87⟩ (by kernel_rfl) (by kernel_rfl) (by kernel_rfl) (by kernel_rfl) (by kernel_rfl) (by kernel_rfl) (by kernel_rfl) (fun _ h => nomatch h)
theorem row88 : RowOK Tryz.prog T 88 := row_of ⟨.fn, 1, 8, [Value.nilFunc]⟩ Tryz.t88 (by kernel_rfl) ⟨_, _, _, Tryz.underlying88⟩ (by kernel_rfl) (by kernel_rfl) (by kernel_rfl) (by kernel_rfl) (by kernel_rfl) (by kernel_rfl) (by kernel_rfl) (fun _ h => nomatch h)
theorem row89 : RowOK Tryz.prog T 89 := row_of ⟨.fn, 1, 8, [Value.nilFunc]⟩ Tryz.t89 (by kernel_rfl) ⟨_, _, _, Tryz.underlying89⟩ (by kernel_rfl) (by kernel_rfl) (by kernel_rfl) (by kernel_rfl) (by kernel_rfl) (by kernel_rfl) (by kernel_rfl) (fun _ h => nomatch h)
theorem row90 : RowOK Tryz.prog T 90 := row_of ⟨.fn, 1, 8, [Value.nilFunc]⟩ Tryz.t90 (by kernel_rfl) ⟨_, _, _, Tryz.underlying90⟩ (by kernel_rfl) (by kernel_rfl) (by kernel_rfl) (by kernel_rfl) (by kernel_rfl) (by kernel_rfl) (by kernel_rfl) (fun _ h => nomatch h)
theorem row91 : RowOK Tryz.prog T 91 := row_of ⟨.ptr 95, 1, 8, [.pointer none]⟩ Tryz.t91 (by kernel_rfl) Tryz.underlying91 (by kernel_rfl) (by kernel_rfl) (by kernel_rfl) (by kernel_rfl) (by kernel_rfl) (by kernel_rfl) (by kernel_rfl) (fun _ h => nomatch h)
theorem row92 : RowOK Tryz.prog T 92 := row_of ⟨.tup [91, 24], 1, 0, [.tuple #[.pointer none, .int .i64 0]]⟩ Tryz.t92 (by kernel_rfl) ⟨_, Tryz.underlying92, rfl⟩ (by kernel_rfl) (by kernel_rfl) (by kernel_rfl) (by kernel_rfl) (by kernel_rfl) (by kernel_rfl) (by kernel_rfl) (fun _ h => nomatch h)
theorem row93 : RowOK Tryz.prog T 93 := row_of ⟨.fn, 1, 8, [Value.nilFunc]⟩ Tryz.t93 (by kernel_rfl) ⟨_, _, _, Tryz.underlying93⟩ (by kernel_rfl) (by kernel_rfl) (by kernel_rfl) (by kernel_rfl) (by kernel_rfl) (by kernel_rfl) (by kernel_rfl) (fun _ h => nomatch h)
theorem row94 : RowOK Tryz.prog T 94 := row_of ⟨.st [(0, 46), (1, 4), (2, 3), (3, 3)], 4, 48, [.slice none 0 0, .bool false, .int .i64 0, .int .i64 0]⟩ Tryz.t94 (by kernel_rfl) ⟨_, Tryz.underlying94, rfl⟩ (by kernel_rfl) (by kernel_rfl) (by kernel_rfl) (by kernel_rfl) (by kernel_rfl) (by kernel_rfl) (by kernel_rfl) (fun fs h => ⟨stood94, guard94, fun F hF f hf => by rw [Tryz.underlying94] at hF; cases hF; revert f; decide⟩)
theorem row95 : RowOK Tryz.prog T 95 := row_of ⟨.st [(0, 46), (1, 4), (2, 3), (3, 3)], 4, 48, [.slice none 0 0, .bool false, .int .i64 0, .int .i64 0]⟩ Tryz.t95 (by kernel_rfl) ⟨_, Tryz.underlying95, rfl⟩ (by kernel_rfl) (by kernel_rfl) (by kernel_rfl) (by kernel_rfl) (by kernel_rfl) (by kernel_rfl) (by kernel_rfl) (fun fs h => ⟨stood95, guard95, fun F hF f hf => by rw [Tryz.underlying95] at hF; cases hF; revert f; decide⟩)
theorem row96 : RowOK Tryz.prog T 96 := row_of ⟨.fn, 1, 8, [Value.nilFunc]⟩ Tryz.t96 (by kernel_rfl) ⟨_, _, _, Tryz.underlying96⟩ (by kernel_rfl) (by kernel_rfl) (by kernel_rfl) (by kernel_rfl) (by kernel_rfl) (by kernel_rfl) (by kernel_rfl) (fun _ h => nomatch h)
theorem row97 : RowOK Tryz.prog T 97 := row_of ⟨.fn, 1, 8, [Value.nilFunc]⟩ Tryz.t97 (by kernel_rfl) ⟨_, _, _, Tryz.underlying97⟩ (by kernel_rfl) (by kernel_rfl) (by kernel_rfl) (by kernel_rfl) (by kernel_rfl) (by kernel_rfl) (by kernel_rfl) (fun _ h => nomatch h)
theorem row98 : RowOK Tryz.prog T 98 := row_of ⟨.fn, 1, 8, [Value.nilFunc]⟩ Tryz.t98 (by kernel_rfl) ⟨_, _, _, Tryz.underlying98⟩ (by kernel_rfl) (by kernel_rfl) (by kernel_rfl) (by kernel_rfl) (by kernel_rfl) (by kernel_rfl) (by kernel_rfl) (fun _ h => nomatch h)
theorem row99 : RowOK Tryz.prog T 99 := row_of ⟨.fn, 1, 8, [Value.nilFunc]⟩ Tryz.t99 (by kernel_rfl) ⟨_, _, _, Tryz.underlying99⟩ (by kernel_rfl) (by kernel_rfl) (by kernel_rfl) (by kernel_rfl) (by kernel_rfl) (by kernel_rfl) (by kernel_rfl) (fun _ h => nomatch h)
theorem row100 : RowOK Tryz.prog T 100 := row_of ⟨.fn, 1, 8, [Value.nilFunc]⟩ Tryz.t100 (by kernel_rfl) ⟨_, _, _, Tryz.underlying100⟩ (by kernel_rfl) (by kernel_rfl) (by kernel_rfl) (by kernel_rfl) (by kernel_rfl) (by kernel_rfl) (by kernel_rfl) (fun _ h => nomatch h)
theorem row101 : RowOK Tryz.prog T 101 := row_of ⟨.fn, 1, 8, [Value.nilFunc]⟩ Tryz.t101 (by kernel_rfl) ⟨_, _, _, Tryz.underlying101⟩ (by kernel_rfl) (by kernel_rfl) (by kernel_rfl) (by kernel_rfl) (by kernel_rfl) (by kernel_rfl) (by kernel_rfl) (fun _ h => nomatch h)
theorem row102 : RowOK Tryz.prog T 102 := row_of ⟨.fn, 1, 8, [Value.nilFunc]⟩ Tryz.t102 (by kernel_rfl) ⟨_, _, _, Tryz.underlying102⟩ (by kernel_rfl) (by kernel_rfl) (by kernel_rfl) (by kernel_rfl) (by kernel_rfl) (by kernel_rfl) (by kernel_rfl) (fun _ h => nomatch h)
theorem row103 : RowOK Tryz.prog T 103 := row_of ⟨.fn, 1, 8, [Value.nilFunc]⟩ Tryz.t103 (by kernel_rfl) ⟨_, _, _, Tryz.underlying103⟩ (by kernel_rfl) (by kernel_rfl) (by kernel_rfl) (by kernel_rfl) (by kernel_rfl) (by kernel_rfl) (by kernel_rfl) (fun _ h => nomatch h)
theorem row104 : RowOK Tryz.prog T 104 := row_of ⟨.fn, 1, 8, [Value.nilFunc]⟩ Tryz.t104 (by kernel_rfl) ⟨_, _, _, Tryz.underlying104⟩ (by kernel_rfl) (by kernel_rfl) (by kernel_rfl) (by kernel_rfl) (by kernel_rfl) (by kernel_rfl) (by kernel_rfl) (fun _ h => nomatch h)
theorem row105 : RowOK Tryz.prog T 105 := row_of ⟨.st [(0, 3), (1, 86)], 257, 264, [.int .i64 0] ++ List.replicate 256 (.int .u8 0)⟩ Tryz.t105 (by kernel_rfl) ⟨_, Tryz.underlying105, rfl⟩ (by kernel_rfl) (by kernel_rfl) (by kernel_rfl) (by kernel_rfl) (by kernel_rfl) (by kernel_rfl) (by kernel_rfl) (fun fs h => ⟨stood105, guard105, fun F hF f hf => by rw [Tryz.underlying105] at hF; cases hF; revert f; decide⟩)
theorem row106 : RowOK Tryz.prog T 106 := row_of ⟨.st [(0, 3), (1, 86)], 257, 264, [.int .i64 0] ++ List.replicate 256 (.int .u8 0)⟩ Tryz.t106 (by kernel_rfl) ⟨_, Tryz.underlying106, rfl⟩ (by kernel_rfl) (by kernel_rfl) (by kernel_rfl) (by kernel_rfl) (by kernel_rfl) (by kernel_rfl) (by kernel_rfl) (fun fs h => ⟨stood106, guard106, fun F hF f hf => by rw [Tryz.underlying106] at hF; cases hF; revert f; decide⟩)
theorem row107 : RowOK Tryz.prog T 107 := row_of ⟨.st [(0, 3), (1, 46)], 2, 32, [.int .i64 0, .slice none 0 0]⟩ Tryz.t107 (by kernel_rfl) ⟨_, Tryz.underlying107, rfl⟩ (by kernel_rfl) (by kernel_rfl) (by kernel_rfl) (by kernel_rfl) (by kernel_rfl) (by kernel_rfl) (by kernel_rfl) (fun fs h => ⟨stood107, guard107, fun F hF f hf => by rw [Tryz.underlying107] at hF; cases hF; revert f; decide⟩)
theorem row108 : RowOK Tryz.prog T 108 := row_of ⟨.st [(0, 3), (1, 46)], 2, 32, [.int .i64 0, .slice none 0 0]⟩ Tryz.t108 (by kernel_rfl) ⟨_, Tryz.underlying108, rfl⟩ (by kernel_rfl) (by kernel_rfl) (by kernel_rfl) (by kernel_rfl) (by kernel_rfl) (by kernel_rfl) (by kernel_rfl) (fun fs h => ⟨stood108, guard108, fun F hF f hf => by rw [Tryz.underlying108] at hF; cases hF; revert f; decide⟩)
theorem row109 : RowOK Tryz.prog T 109 := row_of ⟨.fn, 1, 8, [Value.nilFunc]⟩ Tryz.t109 (by kernel_rfl) ⟨_, _, _, Tryz.underlying109⟩ (by kernel_rfl) (by kernel_rfl) (by kernel_rfl) (by kernel_rfl) (by kernel_rfl) (by kernel_rfl) (by kernel_rfl) (fun _ h => nomatch h)
theorem row110 : RowOK Tryz.prog T 110 := row_of ⟨.fn, 1, 8, [Value.nilFunc]⟩ Tryz.t110 (by kernel_rfl) ⟨_, _, _, Tryz.underlying110⟩ (by kernel_rfl) (by kernel_rfl) (by kernel_rfl) (by kernel_rfl) (by kernel_rfl) (by kernel_rfl) (by kernel_rfl) (fun _ h => nomatch h)
theorem row111 : RowOK Tryz.prog T 111 := row_of ⟨.tup [91, 4], 1, 0, [.tuple #[.pointer none, .bool false]]⟩ Tryz.t111 (by kernel_rfl) ⟨_, Tryz.underlying111, rfl⟩ (by kernel_rfl) (by kernel_rfl) (by kernel_rfl) (by kernel_rfl) (by kernel_rfl) (by kernel_rfl) (by kernel_rfl) (fun _ h => nomatch h)
theorem row112 : RowOK Tryz.prog T 112 := row_of ⟨.tup [3, 4], 1, 0, [.tuple #[.int .i64 0, .bool false]]⟩ Tryz.t112 (by kernel_rfl) ⟨_, Tryz.underlying112, rfl⟩ (by kernel_rfl) (by kernel_rfl) (by kernel_rfl) (by kernel_rfl) (by kernel_rfl) (by kernel_rfl) (by kernel_rfl) (fun _ h => nomatch h)
theorem row113 : RowOK Tryz.prog T 113 := row_of ⟨.fn, 1, 8, [Value.nilFunc]⟩ Tryz.t113 (by kernel_rfl) ⟨_, _, _, Tryz.underlying113⟩ (by kernel_rfl) (by kernel_rfl) (by kernel_rfl) (by kernel_rfl) (by kernel_rfl) (by kernel_rfl) (by kernel_rfl) (fun _ h => nomatch h)
theorem row114 : RowOK Tryz.prog T 114 := row_of ⟨.fn, 1, 8, [Value.nilFunc]⟩ Tryz.t114 (by kernel_rfl) ⟨_, _, _, Tryz.underlying114⟩ (by kernel_rfl) (by kernel_rfl) (by kernel_rfl) (by kernel_rfl) (by kernel_rfl) (by kernel_rfl) (by kernel_rfl) (fun _ h => nomatch h)
theorem row115 : RowOK Tryz.prog T 115 := row_of ⟨.fn, 1, 8, [Value.nilFunc]⟩ Tryz.t115 (by kernel_rfl) ⟨_, _, _, Tryz.underlying115⟩ (by kernel_rfl) (by kernel_rfl) (by kernel_rfl) (by kernel_rfl) (by kernel_rfl) (by kernel_rfl) (by kernel_rfl) (fun _ h => nomatch h)
theorem row116 : RowOK Tryz.prog T 116 := row_of ⟨.fn, 1, 8, [Value.nilFunc]⟩ Tryz.t116 (by kernel_rfl) ⟨_, _, _, Tryz.underlying116⟩ (by kernel_rfl) (by kernel_rfl) (by kernel_rfl) (by kernel_rfl) (by kernel_rfl) (by kernel_rfl) (by kernel_rfl) (fun _ h => nomatch h)
theorem row117 : RowOK Tryz.prog T 117 := row_of ⟨.fn, 1, 8, [Value.nilFunc]⟩ Tryz.t117 (by kernel_rfl) ⟨_, _, _, Tryz.underlying117⟩ (by kernel_rfl) (by kernel_rfl) (by kernel_rfl) (by kernel_rfl) (by kernel_rfl) (by kernel_rfl) (by kernel_rfl) (fun _ h => nomatch h)
theorem row118 : RowOK Tryz.prog T 118 := row_of ⟨.int .u64, 1, 8, [.int .u64 0]⟩ Tryz.t118 (by kernel_rfl) Tryz.underlying118 (by kernel_rfl) (by kernel_rfl) (by kernel_rfl) (by kernel_rfl) (by kernel_rfl) (by kernel_rfl) (by kernel_rfl) (fun _ h => nomatch h)
theorem row119 : RowOK Tryz.prog T 119 := row_of ⟨.fn, 1, 8, [Value.nilFunc]⟩ Tryz.t119 (by kernel_rfl) ⟨_, _, _, Tryz.underlying119⟩ (by kernel_rfl) (by kernel_rfl) (by kernel_rfl) (by kernel_rfl) (by kernel_rfl) (by kernel_rfl) (by kernel_rfl) (fun _ h => nomatch h)
theorem row120 : RowOK Tryz.prog T 120 := row_of ⟨.fn, 1, 8, [Value.nilFunc]⟩ Tryz.t120 (by kernel_rfl) ⟨_, _, _, Tryz.underlying120⟩ (by kernel_rfl) (by kernel_rfl) (by kernel_rfl) (by kernel_rfl) (by kernel_rfl) (by kernel_rfl) (by kernel_rfl) (fun _ h => nomatch h)
theorem row121 : RowOK Tryz.prog T 121 := row_of ⟨.int .i64, 1, 8, [.int .i64 0]⟩ Tryz.t121 (by kernel_rfl) Tryz.underlying121 (by kernel_rfl) (by kernel_rfl) (by kernel_rfl) (by kernel_rfl) (by kernel_rfl) (by kernel_rfl) (by kernel_rfl) (fun _ h => nomatch h)
theorem row122 : RowOK Tryz.prog T 122 := row_of ⟨.tup [3, 121], 1, 0, [.tuple #[.int .i64 0, .int .i64 0]]⟩ Tryz.t122 (by kernel_rfl) ⟨_, Tryz.underlying122, rfl⟩ (by kernel_rfl) (by kernel_rfl) (by kernel_rfl) (by kernel_rfl) (by kernel_rfl) (by kernel_rfl) (by kernel_rfl) (fun _ h => nomatch h)
theorem row123 : RowOK Tryz.prog T 123 := row_of ⟨.fn, 1, 8, [Value.nilFunc]⟩ Tryz.t123 (by kernel_rfl) ⟨_, _, _, Tryz.underlying123⟩ (by kernel_rfl) (by kernel_rfl) (by kernel_rfl) (by kernel_rfl) (by kernel_rfl) (by kernel_rfl) (by kernel_rfl) (fun _ h => nomatch h)
theorem row124 : RowOK Tryz.prog T 124 := row_of ⟨.fn, 1, 8, [Value.nilFunc]⟩ Tryz.t124 (by kernel_rfl) ⟨_, _, _, Tryz.underlying124⟩ (by kernel_rfl) (by kernel_rfl) (by kernel_rfl) (by kernel_rfl) (by kernel_rfl) (by kernel_rfl) (by kernel_rfl) (fun _ h => nomatch h)
theorem row125 : RowOK Tryz.prog T 125 := row_of ⟨.fn, 1, 8, [Value.nilFunc]⟩ Tryz.t125 (by kernel_rfl) ⟨_, _, _, Tryz.underlying125⟩ (by kernel_rfl) (by kernel_rfl) (by kernel_rfl) (by kernel_rfl) (by kernel_rfl) (by kernel_rfl) (by kernel_rfl) (fun _ h => nomatch h)
theorem row126 : RowOK Tryz.prog T 126 := row_of ⟨.fn, 1, 8, [Value.nilFunc]⟩ Tryz.t126 (by kernel_rfl) ⟨_, _, _, Tryz.underlying126⟩ (by kernel_rfl) (by kernel_rfl) (by kernel_rfl) (by kernel_rfl) (by kernel_rfl) (by kernel_rfl) (by kernel_rfl) (fun _ h => nomatch h)
theorem row127 : RowOK Tryz.prog T 127 := row_of ⟨.fn, 1, 8, [Value.nilFunc]⟩ Tryz.t127 (by kernel_rfl) ⟨_, _, _, Tryz.underlying127⟩ (by kernel_rfl) (by kernel_rfl) (by kernel_rfl) (by kernel_rfl) (by kernel_rfl) (by kernel_rfl) (by kernel_rfl) (fun _ h => nomatch h)
theorem row128 : RowOK Tryz.prog T 128 := row_of ⟨.int .u32, 1, 4, [.int .u32 0]⟩ Tryz.t128 (by kernel_rfl) Tryz.underlying128 (by kernel_rfl) (by kernel_rfl) (by kernel_rfl) (by kernel_rfl) (by kernel_rfl) (by kernel_rfl) (by kernel_rfl) (fun _ h => nomatch h)
theorem row129 : RowOK Tryz.prog T 129 := row_of ⟨.fn, 1, 8, [Value.nilFunc]⟩ Tryz.t129 (by kernel_rfl) ⟨_, _, _, Tryz.underlying129⟩ (by kernel_rfl) (by kernel_rfl) (by kernel_rfl) (by kernel_rfl) (by kernel_rfl) (by kernel_rfl) (by kernel_rfl) (fun _ h => nomatch h)
theorem row130 : RowOK Tryz.prog T 130 := row_of ⟨.int .u64, 1, 8, [.int .u64 0]⟩ Tryz.t130 (by kernel_rfl) Tryz.underlying130 (by kernel_rfl) (by kernel_rfl) (by kernel_rfl) (by kernel_rfl) (by kernel_rfl) (by kernel_rfl) (by kernel_rfl) (fun _ h => nomatch h)
theorem row131 : RowOK Tryz.prog T 131 := row_of ⟨.fn, 1, 8, [Value.nilFunc]⟩ Tryz.t131 (by kernel_rfl) ⟨_, _, _, Tryz.underlying131⟩ (by kernel_rfl) (by kernel_rfl) (by kernel_rfl) (by kernel_rfl) (by kernel_rfl) (by kernel_rfl) (by kernel_rfl) (fun _ h => nomatch h)
theorem row132 : RowOK Tryz.prog T 132 := row_of ⟨.fn, 1, 8, [Value.nilFunc]⟩ Tryz.t132 (by kernel_rfl) ⟨_, _, _, Tryz.underlying132⟩ (by kernel_rfl) (by kernel_rfl) (by kernel_rfl) (by kernel_rfl) (by kernel_rfl) (by kernel_rfl) (by kernel_rfl) (fun _ h => nomatch h)
theorem row133 : RowOK Tryz.prog T 133 := row_of ⟨.fn, 1, 8, [Value.nilFunc]⟩ Tryz.t133 (by kernel_rfl) ⟨_, _, _, Tryz.underlying133⟩ (by kernel_rfl) (by kernel_rfl) (by kernel_rfl) (by kernel_rfl) (by kernel_rfl) (by kernel_rfl) (by kernel_rfl) (fun _ h => nomatch h)
theorem row134 : RowOK Tryz.prog T 134 := row_of ⟨.fn, 1, 8, [Value.nilFunc]⟩ Tryz.t134 (by kernel_rfl) ⟨_, _, _, Tryz.underlying134⟩ (by kernel_rfl) (by kernel_rfl) (by kernel_rfl) (by kernel_rfl) (by kernel_rfl) (by kernel_rfl) (by kernel_rfl) (fun _ h => nomatch h)
theorem row135 : RowOK Tryz.prog T 135 := row_of ⟨.fn, 1, 8, [Value.nilFunc]⟩ Tryz.t135 (by kernel_rfl) ⟨_, _, _, Tryz.underlying135⟩ (by kernel_rfl) (by kernel_rfl) (by kernel_rfl) (by kernel_rfl) (by kernel_rfl) (by kernel_rfl) (by kernel_rfl) (fun _ h => nomatch h)
theorem row136 : RowOK Tryz.prog T 136 := row_of ⟨.fn, 1, 8, [Value.nilFunc]⟩ Tryz.t136 (by kernel_rfl) ⟨_, _, _, Tryz.underlying136⟩ (by kernel_rfl) (by kernel_rfl) (by kernel_rfl) (by kernel_rfl) (by kernel_rfl) (by kernel_rfl) (by kernel_rfl) (fun _ h => nomatch h)
theorem row137 : RowOK Tryz.prog T 137 := row_of ⟨.int .u64, 1, 8, [.int .u64 0]⟩ Tryz.t137 (by kernel_rfl) Tryz.underlying137 (by kernel_rfl) (by kernel_rfl) (by kernel_rfl) (by kernel_rfl) (by kernel_rfl) (by kernel_rfl) (by kernel_rfl) (fun _ h => nomatch h)
theorem row138 : RowOK Tryz.prog T 138 := row_of ⟨.fn, 1, 8, [Value.nilFunc]⟩ Tryz.t138 (by kernel_rfl) ⟨_, _, _, Tryz.underlying138⟩ (by kernel_rfl) (by kernel_rfl) (by kernel_rfl) (by kernel_rfl) (by kernel_rfl) (by kernel_rfl) (by kernel_rfl) (fun _ h => nomatch h)
theorem row139 : RowOK Tryz.prog T 139 := row_of ⟨.fn, 1, 8, [Value.nilFunc]⟩ Tryz.t139 (by kernel_rfl) ⟨_, _, _, Tryz.underlying139⟩ (by kernel_rfl) (by kernel_rfl) (by kernel_rfl) (by kernel_rfl) (by kernel_rfl) (by kernel_rfl) (by kernel_rfl) (fun _ h => nomatch h)
theorem row140 : RowOK Tryz.prog T 140 := row_of ⟨.fn, 1, 8, [Value.nilFunc]⟩ Tryz.t140 (by kernel_rfl) ⟨_, _, _, Tryz.underlying140⟩ (by kernel_rfl) (by kernel_rfl) (by kernel_rfl) (by kernel_rfl) (by kernel_rfl) (by kernel_rfl) (by kernel_rfl) (fun _ h => nomatch h)
theorem row141 : RowOK Tryz.prog T 141 := row_of ⟨.ptr 3, 1, 8, [.pointer none]⟩ Tryz.t141 (by kernel_rfl) Tryz.underlying141 (by kernel_rfl) (by kernel_rfl) (by kernel_rfl) (by kernel_rfl) (by kernel_rfl) (by kernel_rfl) (by kernel_rfl) (fun _ h => nomatch h)
theorem row142 : RowOK Tryz.prog T 142 := row_of ⟨.fn, 1, 8, [Value.nilFunc]⟩ Tryz.t142 (by kernel_rfl) ⟨_, _, _, Tryz.underlying142⟩ (by kernel_rfl) (by kernel_rfl) (by kernel_rfl) (by kernel_rfl) (by kernel_rfl) (by kernel_rfl) (by kernel_rfl) (fun _ h => nomatch h)
theorem row143 : RowOK Tryz.prog T 143 := row_of ⟨.fn, 1, 8, [Value.nilFunc]⟩ Tryz.t143 (by kernel_rfl) ⟨_, _, _, Tryz.underlying143⟩ (by kernel_rfl) (by kernel_rfl) (by kernel_rfl) (by kernel_rfl) (by kernel_rfl) (by kernel_rfl) (by kernel_rfl) (fun _ h => nomatch h)
theorem row144 : RowOK Tryz.prog T 144 := row_of ⟨.fn, 1, 8, [Value.nilFunc]⟩ Tryz.t144 (by kernel_rfl) ⟨_, _, _, Tryz.underlying144⟩ (by kernel_rfl) (by kernel_rfl) (by kernel_rfl) (by kernel_rfl) (by kernel_rfl) (by kernel_rfl) (by kernel_rfl) (fun _ h => nomatch h)
theorem row145 : RowOK Tryz.prog T 145 := row_of ⟨.ptr 137, 1, 8, [.pointer none]⟩ Tryz.t145 (by kernel_rfl) Tryz.underlying145 (by kernel_rfl) (by kernel_rfl) (by kernel_rfl) (by kernel_rfl) (by kernel_rfl) (by kernel_rfl) (by kernel_rfl) (fun _ h => nomatch h)
theorem row146 : RowOK Tryz.prog T 146 := row_of ⟨.fn, 1, 8, [Value.nilFunc]⟩ Tryz.t146 (by kernel_rfl) ⟨_, _, _, Tryz.underlying146⟩ (by kernel_rfl) (by kernel_rfl) (by kernel_rfl) (by kernel_rfl) (by kernel_rfl) (by kernel_rfl) (by kernel_rfl) (fun _ h => nomatch h)
theorem row147 : RowOK Tryz.prog T 147 := row_of ⟨.fn, 1, 8, [Value.nilFunc]⟩ Tryz.t147 (by kernel_rfl) ⟨_, _, _, Tryz.underlying147⟩ (by kernel_rfl) (by kernel_rfl) (by kernel_rfl) (by kernel_rfl) (by kernel_rfl) (by kernel_rfl) (by kernel_rfl) (fun _ h => nomatch h)
theorem row148 : RowOK Tryz.prog T 148 := row_of ⟨.fn, 1, 8, [Value.nilFunc]⟩ Tryz.t148 (by kernel_rfl) ⟨_, _, _, Tryz.underlying148⟩ (by kernel_rfl) (by kernel_rfl) (by kernel_rfl) (by kernel_rfl) (by kernel_rfl) (by kernel_rfl) (by kernel_rfl) (fun _ h => nomatch h)
theorem row151 : RowOK Tryz.prog T 151 := row_of ⟨.arr 0 16, 0, 0, []⟩ Tryz.t151 (by kernel_rfl) Tryz.underlying151 (by kernel_rfl) (by kernel_rfl) (by kernel_rfl) (by kernel_rfl) (by kernel_rfl) (by kernel_rfl) (by kernel_rfl) (fun _ h => nomatch h)
theorem row154 : RowOK Tryz.prog T 154 := row_of ⟨.int .u8, 1, 1, [.int .u8 0]⟩ Tryz.t154 (by kernel_rfl) Tryz.underlying154 (by kernel_rfl) (by kernel_rfl) (by kernel_rfl) (by kernel_rfl) (by kernel_rfl) (by kernel_rfl) (by kernel_rfl) (fun _ h => nomatch h)
theorem row155 : RowOK Tryz.prog T 155 := row_of ⟨.int .u8, 1, 1, [.int .u8 0]⟩ Tryz.t155 (by kernel_rfl) Tryz.underlying155 (by kernel_rfl) (by kernel_rfl) (by kernel_rfl) (by kernel_rfl) (by kernel_rfl) (by kernel_rfl) (by kernel_rfl) (fun _ h => nomatch h)
theorem row156 : RowOK Tryz.prog T 156 := row_of ⟨.fn, 1, 8, [Value.nilFunc]⟩ Tryz.t156 (by kernel_rfl) ⟨_, _, _, Tryz.underlying156⟩ (by kernel_rfl) (by kernel_rfl) (by kernel_rfl) (by kernel_rfl) (by kernel_rfl) (by kernel_rfl) (by kernel_rfl) (fun _ h => nomatch h)
theorem row157 : RowOK Tryz.prog T 157 := row_of ⟨.ptr 5, 1, 8, [.pointer none]⟩ Tryz.t157 (by kernel_rfl) Tryz.underlying157 (by kernel_rfl) (by kernel_rfl) (by kernel_rfl) (by kernel_rfl) (by kernel_rfl) (by kernel_rfl) (by kernel_rfl) (fun _ h => nomatch h)
theorem row158 : RowOK Tryz.prog T 158 := row_of ⟨.int .i32, 1, 4, [.int .i32 0]⟩ Tryz.t158 (by kernel_rfl) Tryz.underlying158 (by kernel_rfl) (by kernel_rfl) (by kernel_rfl) (by kernel_rfl) (by kernel_rfl) (by kernel_rfl) (by kernel_rfl) (fun _ h => nomatch h)
theorem row159 : RowOK Tryz.prog T 159 := row_of ⟨.int .i32, 1, 4, [.int .i32 0]⟩ Tryz.t159 (by kernel_rfl) Tryz.underlying159 (by kernel_rfl) (by kernel_rfl) (by kernel_rfl) (by kernel_rfl) (by kernel_rfl) (by kernel_rfl) (by kernel_rfl) (fun _ h => nomatch h)
set_option maxRecDepth 100000 in
theorem tabOK : TabOK Tryz.prog T := tabOK_of_rows ⟨row0, row1, row2, row3, row4, row5, row6, row7, row8, row9, row10, row11, row12, rowOth rfl, rowOth rfl, row15, row16, row17, rowOth rfl, rowOth rfl, rowOth rfl, row21, row22, row23, row24, row25, row26, row27, row28, row29, row30, row31, row32, row33, row34, row35, row36, row37, row38, row39, row40, row41, row42, row43, row44, row45, row46, row47, row48, row49, row50, row51, row52, row53, row54, row55, row56, row57, row58, row59, row60, row61, row62, row63, row64, row65, row66, row67, row68, row69, row70, row71, row72, row73, row74, row75, row76, row77, row78, row79, row80, row81, row82, row83, row84, row85, row86, row87, row88, row89, row90, row91, row92, row93, row94, row95, row96, row97, row98, row99, row100, row101, row102, row103, row104, row105, row106, row107, row108, row109, row110, row111, row112, row113, row114, row115, row116, row117, row118, row119, row120, row121, row122, row123, row124, row125, row126, row127, row128, row129, row130, row131, row132, row133, row134, row135, row136, row137, row138, row139, row140, row141, row142, row143, row144, row145, row146, row147, row148, rowOth rfl, rowOth rfl, row151, rowOth rfl, rowOth rfl, row154, row155, row156, row157, row158, row159, rowOth rfl, rowOth rfl, rowOth rfl, trivial⟩
theorem mixed : Tryz.prog.follows .mixedOrders = true := by kernel_rfl

end Go.Proofs.YtfapgccnhonoiaaGreat

/- The conditions of some functions of the program, as text (printed by a tool of this claim's author, wip/tool), and that they are enough for a call. -/
set_option linter.unusedVariables false
namespace Go.Proofs.YtfapgccnhonoiaaGreat

/-- incipit/disk.New -/
def dNew_vc (q0 : Int) (h : Heap) (R : Value → Heap → Prop) : Prop :=
  (decide (q0 < (8 : Int)) = true → R (Value.tuple { toList := [Value.pointer none, Value.int IntKind.i64 (1 : Int)] : Array Value }) h) ∧
 (decide (q0 < (8 : Int)) = false →
  (decide (q0 > (2048 : Int)) = true → R (Value.tuple { toList := [Value.pointer none, Value.int IntKind.i64 (1 : Int)] : Array Value }) h) ∧
   (decide (q0 > (2048 : Int)) = false →
    ((0 : Int) ≤ q0 ∧ q0 ≤ q0 ∧ (↑(256 : Nat) : Int) * q0 ≤ (281474976710656 : Int) ∧ q0 ≤ (281474976710656 : Int)) ∧
     ∀ (n1 : Nat) (rec1 : Array Obj),
      n1 = Array.size h →
       rec1 = Array.push h (Obj.cells { toList := zrow (TI.zero (lookT T (86 : TypeId))) (Int.toNat q0) : Array Value } (86 : TypeId)) →
        ∀ (n2 : Nat) (rec2 : Array Obj),
         n2 = Array.size rec1 →
          rec2 = Array.push rec1 (Obj.map { toList := [] : Array MapEntry } (0 : Nat)) →
           ∀ (n3 : Nat) (rec3 : Array Obj),
            n3 = Array.size rec2 →
             rec3 =
               Array.push rec2
                (Obj.cells
                 { toList := [Value.slice (some { block := n1, off := (0 : Nat) : Addr }) (Int.toNat q0) (Int.toNat q0), Value.slice none (0 : Nat) (0 : Nat), Value.map (some n2), Value.bool false, Value.bool false, Value.int IntKind.i64 (0 : Int), Value.int IntKind.i64 (0 : Int)] : Array Value }
                 (55 : Nat)) →
              R (Value.tuple { toList := [Value.pointer (some { block := n3, off := (0 : Nat) : Addr }), Value.int IntKind.i64 (0 : Int)] : Array Value }) rec3))

theorem dNew_call (q0 : Int) {h : Heap} {R : Value → Heap → Prop} (H : dNew_vc q0 h R) : CallH Tryz.prog 4 ⟨[.int .i64 q0]⟩ h R :=
  callH_of_dCode tabOK mixed [(.int .i64 q0, false)] Tryz.func4 (c := bodyC Tryz.f4) (by kernel_rfl) (by kernel_rfl : Tryz.f4.ntmps = 15) rfl
    (Eq.mp (by kernel_rfl : dNew_vc q0 h R = dCode Tryz.prog T ⟨[], [], [], [], []⟩ (bodyC Tryz.f4) none (dEnd T (Tryz.f4.results.toList) R) (startE 15 [(.int .i64 q0, false)]) h) H)

/-- (*incipit/disk.Disk).Pages -/
def dPages_vc (q0 : Nat) (h : Heap) (R : Value → Heap → Prop) : Prop :=
  entersB Tryz.prog (47 : Nat) = true ∧
 CallH Tryz.prog (47 : Nat) { toList := [Value.pointer (some { block := q0, off := (0 : Nat) : Addr })] : Array Value } h fun (v1 : Value) (h1 : Heap) =>
  ∃ (t1 : Bool), v1 = Value.bool t1 ∧ (t1 = true → R (Value.int IntKind.i64 (0 : Int)) h1) ∧ (t1 = false → ∃ (p1 : Option Addr), ∃ (n1 : Nat), ∃ (n2 : Nat), cellAt h1 { block := q0, off := (0 : Nat) : Addr } = some (Value.slice p1 n1 n2) ∧ R (Value.int IntKind.i64 (↑n1 : Int)) h1)

theorem dPages_call (q0 : Nat) {h : Heap} {R : Value → Heap → Prop} (H : dPages_vc q0 h R) : CallH Tryz.prog 21 ⟨[.pointer (some ⟨q0, 0, none⟩)]⟩ h R :=
  callH_of_dCode tabOK mixed [(.pointer (some ⟨q0, 0, none⟩), false)] Tryz.func21 (c := bodyC Tryz.f21) (by kernel_rfl) (by kernel_rfl : Tryz.f21.ntmps = 10) rfl
    (Eq.mp (by kernel_rfl : dPages_vc q0 h R = dCode Tryz.prog T ⟨[], [], [], [], []⟩ (bodyC Tryz.f21) none (dEnd T (Tryz.f21.results.toList) R) (startE 10 [(.pointer (some ⟨q0, 0, none⟩), false)]) h) H)

/-- (*incipit/disk.Disk).Pages -/
def dPagesN_vc (h : Heap) (R : Value → Heap → Prop) : Prop :=
  entersB Tryz.prog (47 : Nat) = true ∧ CallH Tryz.prog (47 : Nat) { toList := [Value.pointer none] : Array Value } h fun (v1 : Value) (h1 : Heap) => ∃ (t1 : Bool), v1 = Value.bool t1 ∧ (t1 = true → R (Value.int IntKind.i64 (0 : Int)) h1) ∧ (t1 = false → False)

theorem dPagesN_call  {h : Heap} {R : Value → Heap → Prop} (H : dPagesN_vc  h R) : CallH Tryz.prog 21 ⟨[.pointer none]⟩ h R :=
  callH_of_dCode tabOK mixed [(.pointer none, false)] Tryz.func21 (c := bodyC Tryz.f21) (by kernel_rfl) (by kernel_rfl : Tryz.f21.ntmps = 10) rfl
    (Eq.mp (by kernel_rfl : dPagesN_vc  h R = dCode Tryz.prog T ⟨[], [], [], [], []⟩ (bodyC Tryz.f21) none (dEnd T (Tryz.f21.results.toList) R) (startE 10 [(.pointer none, false)]) h) H)

/-- (*incipit/disk.Disk).none -/
def dNone_vc (q0 : Nat) (h : Heap) (R : Value → Heap → Prop) : Prop :=
  (false = true → R (Value.bool true) h) ∧ (false = false → ∃ (p1 : Option Addr), ∃ (n1 : Nat), ∃ (n2 : Nat), cellAt h { block := q0, off := (0 : Nat) : Addr } = some (Value.slice p1 n1 n2) ∧ R (Value.bool ((↑n1 : Int) == (0 : Int))) h)

theorem dNone_call (q0 : Nat) {h : Heap} {R : Value → Heap → Prop} (H : dNone_vc q0 h R) : CallH Tryz.prog 47 ⟨[.pointer (some ⟨q0, 0, none⟩)]⟩ h R :=
  callH_of_dCode tabOK mixed [(.pointer (some ⟨q0, 0, none⟩), false)] Tryz.func47 (c := bodyC Tryz.f47) (by kernel_rfl) (by kernel_rfl : Tryz.f47.ntmps = 13) rfl
    (Eq.mp (by kernel_rfl : dNone_vc q0 h R = dCode Tryz.prog T ⟨[], [], [], [], []⟩ (bodyC Tryz.f47) none (dEnd T (Tryz.f47.results.toList) R) (startE 13 [(.pointer (some ⟨q0, 0, none⟩), false)]) h) H)

/-- (*incipit/disk.Disk).none -/
def dNoneN_vc (h : Heap) (R : Value → Heap → Prop) : Prop :=
  (true = true → R (Value.bool true) h) ∧ (true = false → False)

theorem dNoneN_call  {h : Heap} {R : Value → Heap → Prop} (H : dNoneN_vc  h R) : CallH Tryz.prog 47 ⟨[.pointer none]⟩ h R :=
  callH_of_dCode tabOK mixed [(.pointer none, false)] Tryz.func47 (c := bodyC Tryz.f47) (by kernel_rfl) (by kernel_rfl : Tryz.f47.ntmps = 13) rfl
    (Eq.mp (by kernel_rfl : dNoneN_vc  h R = dCode Tryz.prog T ⟨[], [], [], [], []⟩ (bodyC Tryz.f47) none (dEnd T (Tryz.f47.results.toList) R) (startE 13 [(.pointer none, false)]) h) H)

/-- (*incipit/disk.Disk).power -/
def dPower_vc (q0 : Nat) (h : Heap) (R : Value → Heap → Prop) : Prop :=
  entersB Tryz.prog (47 : Nat) = true ∧
 CallH Tryz.prog (47 : Nat) { toList := [Value.pointer (some { block := q0, off := (0 : Nat) : Addr })] : Array Value } h fun (v1 : Value) (h1 : Heap) =>
  ∃ (t1 : Bool),
   v1 = Value.bool t1 ∧ (t1 = true → R (Value.int IntKind.i64 (2 : Int)) h1) ∧ (t1 = false → ∃ (t2 : Bool), cellAt h1 { block := q0, off := (3 : Nat) : Addr } = some (Value.bool t2) ∧ (t2 = true → R (Value.int IntKind.i64 (5 : Int)) h1) ∧ (t2 = false → R (Value.int IntKind.i64 (0 : Int)) h1))

theorem dPower_call (q0 : Nat) {h : Heap} {R : Value → Heap → Prop} (H : dPower_vc q0 h R) : CallH Tryz.prog 69 ⟨[.pointer (some ⟨q0, 0, none⟩)]⟩ h R :=
  callH_of_dCode tabOK mixed [(.pointer (some ⟨q0, 0, none⟩), false)] Tryz.func69 (c := bodyC Tryz.f69) (by kernel_rfl) (by kernel_rfl : Tryz.f69.ntmps = 11) rfl
    (Eq.mp (by kernel_rfl : dPower_vc q0 h R = dCode Tryz.prog T ⟨[], [], [], [], []⟩ (bodyC Tryz.f69) none (dEnd T (Tryz.f69.results.toList) R) (startE 11 [(.pointer (some ⟨q0, 0, none⟩), false)]) h) H)

/-- (*incipit/disk.Disk).at -/
def dAt_vc (q0 : Nat) (q1 : Int) (q2 : Int) (h : Heap) (R : Value → Heap → Prop) : Prop :=
  entersB Tryz.prog (47 : Nat) = true ∧
 CallH Tryz.prog (47 : Nat) { toList := [Value.pointer (some { block := q0, off := (0 : Nat) : Addr })] : Array Value } h fun (v1 : Value) (h1 : Heap) =>
  ∃ (t1 : Bool),
   v1 = Value.bool t1 ∧
    (t1 = true → R (Value.int IntKind.i64 (2 : Int)) h1) ∧
     (t1 = false →
      (decide (q1 < (0 : Int)) = true → R (Value.int IntKind.i64 (1 : Int)) h1) ∧
       (decide (q1 < (0 : Int)) = false →
        ∃ (p1 : Option Addr),
         ∃ (n1 : Nat),
          ∃ (n2 : Nat),
           cellAt h1 { block := q0, off := (0 : Nat) : Addr } = some (Value.slice p1 n1 n2) ∧
            (decide (q1 ≥ (↑n1 : Int)) = true → R (Value.int IntKind.i64 (1 : Int)) h1) ∧
             (decide (q1 ≥ (↑n1 : Int)) = false →
              ((q2 != (256 : Int)) = true → R (Value.int IntKind.i64 (1 : Int)) h1) ∧
               ((q2 != (256 : Int)) = false →
                entersB Tryz.prog (69 : Nat) = true ∧ CallH Tryz.prog (69 : Nat) { toList := [Value.pointer (some { block := q0, off := (0 : Nat) : Addr })] : Array Value } h1 fun (v2 : Value) (h2 : Heap) => ∃ (i1 : Int), v2 = Value.int IntKind.i64 i1 ∧ R (Value.int IntKind.i64 i1) h2))))

theorem dAt_call (q0 : Nat) (q1 : Int) (q2 : Int) {h : Heap} {R : Value → Heap → Prop} (H : dAt_vc q0 q1 q2 h R) : CallH Tryz.prog 48 ⟨[.pointer (some ⟨q0, 0, none⟩), .int .i64 q1, .int .i64 q2]⟩ h R :=
  callH_of_dCode tabOK mixed [(.pointer (some ⟨q0, 0, none⟩), false), (.int .i64 q1, false), (.int .i64 q2, false)] Tryz.func48 (c := bodyC Tryz.f48) (by kernel_rfl) (by kernel_rfl : Tryz.f48.ntmps = 28) rfl
    (Eq.mp (by kernel_rfl : dAt_vc q0 q1 q2 h R = dCode Tryz.prog T ⟨[], [], [], [], []⟩ (bodyC Tryz.f48) none (dEnd T (Tryz.f48.results.toList) R) (startE 28 [(.pointer (some ⟨q0, 0, none⟩), false), (.int .i64 q1, false), (.int .i64 q2, false)]) h) H)

/-- (*incipit/disk.Disk).shown -/
def dShown_vc (q0 : Nat) (q1 : Int) (h : Heap) (R : Value → Heap → Prop) : Prop :=
  ∀ (n1 : Nat) (rec1 : Array Obj),
 n1 = Array.size h →
  rec1 = Array.push h (Obj.cells { toList := TI.zero (lookT T (86 : Nat)) : Array Value } (86 : Nat)) →
   ∃ (m1 : Option Nat),
    cellAt rec1 { block := q0, off := (2 : Nat) : Addr } = some (Value.map m1) ∧
     ∃ (x1 : Array MapEntry),
      mapIs rec1 m1 x1 ∧
       keysOK (Value.int IntKind.i64 q1) x1 ∧
        (∀ (v1 : Value),
          mget (Value.int IntKind.i64 q1) x1 = some v1 →
           ∃ (i1 : Int),
            v1 = Value.int IntKind.i64 i1 ∧
             ∃ (p1 : Option Addr),
              ∃ (n2 : Nat),
               ∃ (n3 : Nat),
                cellAt rec1 { block := q0, off := (1 : Nat) : Addr } = some (Value.slice p1 n2 n3) ∧
                 match p1 with
                 | some a1 =>
                  ((0 : Int) ≤ i1 ∧ i1 < (↑n2 : Int)) ∧
                   ∃ (l1 : List Value),
                    rowAt rec1 (Addr.add (Addr.add a1 (Int.toNat i1 * (257 : Nat))) (1 : Nat)) (256 : Nat) = some l1 ∧
                     List.length l1 = (256 : Nat) ∧
                      (∀ (v2 : Value), v2 ∈ l1 → isCell v2 = true) ∧
                       okRow rec1 { block := n1, off := (0 : Nat) : Addr } (256 : Nat) ∧
                        TK.arr (256) (5) ≠ TK.oth ∧
                         ∀ (h1 : Heap), h1 = updRow rec1 { block := n1, off := (0 : Nat) : Addr } (0 : Nat) l1 → TK.arr (256) (5) ≠ TK.oth ∧ ∃ (l2 : List Value), rowAt h1 { block := n1, off := (0 : Nat) : Addr } (256 : Nat) = some l2 ∧ R (Value.agg { toList := l2 : Array Value }) h1
                 | none => False) ∧
         (mget (Value.int IntKind.i64 q1) x1 = none →
          ∃ (p3 : Option Addr),
           ∃ (n4 : Nat),
            ∃ (n5 : Nat),
             cellAt rec1 { block := q0, off := (0 : Nat) : Addr } = some (Value.slice p3 n4 n5) ∧
              match p3 with
              | some a2 =>
               ((0 : Int) ≤ q1 ∧ q1 < (↑n4 : Int)) ∧
                ∃ (l3 : List Value),
                 rowAt rec1 (Addr.add a2 (Int.toNat q1 * (256 : Nat))) (256 : Nat) = some l3 ∧
                  List.length l3 = (256 : Nat) ∧
                   (∀ (v3 : Value), v3 ∈ l3 → isCell v3 = true) ∧
                    okRow rec1 { block := n1, off := (0 : Nat) : Addr } (256 : Nat) ∧
                     TK.arr (256) (5) ≠ TK.oth ∧
                      ∀ (h2 : Heap), h2 = updRow rec1 { block := n1, off := (0 : Nat) : Addr } (0 : Nat) l3 → TK.arr (256) (5) ≠ TK.oth ∧ ∃ (l4 : List Value), rowAt h2 { block := n1, off := (0 : Nat) : Addr } (256 : Nat) = some l4 ∧ R (Value.agg { toList := l4 : Array Value }) h2
              | none => False)

theorem dShown_call (q0 : Nat) (q1 : Int) {h : Heap} {R : Value → Heap → Prop} (H : dShown_vc q0 q1 h R) : CallH Tryz.prog 49 ⟨[.pointer (some ⟨q0, 0, none⟩), .int .i64 q1]⟩ h R :=
  callH_of_dCode tabOK mixed [(.pointer (some ⟨q0, 0, none⟩), false), (.int .i64 q1, false)] Tryz.func49 (c := bodyC Tryz.f49) (by kernel_rfl) (by kernel_rfl : Tryz.f49.ntmps = 32) rfl
    (Eq.mp (by kernel_rfl : dShown_vc q0 q1 h R = dCode Tryz.prog T ⟨[], [], [], [], []⟩ (bodyC Tryz.f49) none (dEnd T (Tryz.f49.results.toList) R) (startE 32 [(.pointer (some ⟨q0, 0, none⟩), false), (.int .i64 q1, false)]) h) H)

/-- (*incipit/disk.Disk).Read -/
def dRead_vc (q0 : Nat) (q1 : Int) (h : Heap) (R : Value → Heap → Prop) : Prop :=
  entersB Tryz.prog (48 : Nat) = true ∧
 CallH Tryz.prog (48 : Nat) { toList := [Value.pointer (some { block := q0, off := (0 : Nat) : Addr }), Value.int IntKind.i64 q1, Value.int IntKind.i64 (256 : Int)] : Array Value } h fun (v1 : Value) (h1 : Heap) =>
  ∃ (i1 : Int),
   v1 = Value.int IntKind.i64 i1 ∧
    ((i1 != (0 : Int)) = true → R (Value.tuple { toList := [Value.slice none (0 : Nat) (0 : Nat), Value.int IntKind.i64 i1] : Array Value }) h1) ∧
     ((i1 != (0 : Int)) = false →
      entersB Tryz.prog (49 : Nat) = true ∧
       CallH Tryz.prog (49 : Nat) { toList := [Value.pointer (some { block := q0, off := (0 : Nat) : Addr }), Value.int IntKind.i64 q1] : Array Value } h1 fun (v2 : Value) (h2 : Heap) =>
        ∃ (l1 : List Value),
         v2 = Value.agg { toList := l1 : Array Value } ∧
          ∀ (n1 : Nat) (rec1 : Array Obj),
           n1 = Array.size h2 →
            rec1 = Array.push h2 (Obj.cells { toList := TI.zero (lookT T (86 : Nat)) : Array Value } (86 : Nat)) →
             List.length l1 = (256 : Nat) ∧
              (∀ (v3 : Value), v3 ∈ l1 → isCell v3 = true) ∧
               okRow rec1 { block := n1, off := (0 : Nat) : Addr } (256 : Nat) ∧
                TK.arr (256) (5) ≠ TK.oth ∧
                 ∀ (h3 : Heap), h3 = updRow rec1 { block := n1, off := (0 : Nat) : Addr } (0 : Nat) l1 → R (Value.tuple { toList := [Value.slice (some { block := n1, off := (0 : Nat) : Addr }) (256 : Nat) (256 : Nat), Value.int IntKind.i64 (0 : Int)] : Array Value }) h3)

theorem dRead_call (q0 : Nat) (q1 : Int) {h : Heap} {R : Value → Heap → Prop} (H : dRead_vc q0 q1 h R) : CallH Tryz.prog 13 ⟨[.pointer (some ⟨q0, 0, none⟩), .int .i64 q1]⟩ h R :=
  callH_of_dCode tabOK mixed [(.pointer (some ⟨q0, 0, none⟩), false), (.int .i64 q1, false)] Tryz.func13 (c := bodyC Tryz.f13) (by kernel_rfl) (by kernel_rfl : Tryz.f13.ntmps = 18) rfl
    (Eq.mp (by kernel_rfl : dRead_vc q0 q1 h R = dCode Tryz.prog T ⟨[], [], [], [], []⟩ (bodyC Tryz.f13) none (dEnd T (Tryz.f13.results.toList) R) (startE 18 [(.pointer (some ⟨q0, 0, none⟩), false), (.int .i64 q1, false)]) h) H)

/-- (*incipit/disk.Disk).spends -/
def dSpends_vc (q0 : Nat) (h : Heap) (R : Value → Heap → Prop) : Prop :=
  ∃ (t1 : Bool),
 cellAt h { block := q0, off := (4 : Nat) : Addr } = some (Value.bool t1) ∧
  (t1 = true →
    ∃ (i1 : Int),
     cellAt h { block := q0, off := (5 : Nat) : Addr } = some (Value.int IntKind.i64 i1) ∧
      ((i1 == (0 : Int)) = true → true = true ∧ okAt h { block := q0, off := (3 : Nat) : Addr } ∧ ∀ (h1 : Heap), h1 = upd h { block := q0, off := (3 : Nat) : Addr } (Value.bool true) → R (Value.bool false) h1) ∧
       ((i1 == (0 : Int)) = false →
        ∃ (t2 : Bool),
         cellAt h { block := q0, off := (4 : Nat) : Addr } = some (Value.bool t2) ∧
          (t2 = true →
            ∃ (i2 : Int),
             cellAt h { block := q0, off := (5 : Nat) : Addr } = some (Value.int IntKind.i64 i2) ∧
              true = true ∧
               okAt h { block := q0, off := (5 : Nat) : Addr } ∧
                ∀ (h2 : Heap),
                 h2 = upd h { block := q0, off := (5 : Nat) : Addr } (Value.int IntKind.i64 (IntKind.wrap IntKind.i64 (i2 - (1 : Int)))) →
                  ∃ (i3 : Int),
                   cellAt h2 { block := q0, off := (6 : Nat) : Addr } = some (Value.int IntKind.i64 i3) ∧
                    true = true ∧ okAt h2 { block := q0, off := (6 : Nat) : Addr } ∧ ∀ (h3 : Heap), h3 = upd h2 { block := q0, off := (6 : Nat) : Addr } (Value.int IntKind.i64 (IntKind.wrap IntKind.i64 (i3 + (1 : Int)))) → R (Value.bool true) h3) ∧
           (t2 = false →
            ∃ (i4 : Int),
             cellAt h { block := q0, off := (6 : Nat) : Addr } = some (Value.int IntKind.i64 i4) ∧
              true = true ∧ okAt h { block := q0, off := (6 : Nat) : Addr } ∧ ∀ (h4 : Heap), h4 = upd h { block := q0, off := (6 : Nat) : Addr } (Value.int IntKind.i64 (IntKind.wrap IntKind.i64 (i4 + (1 : Int)))) → R (Value.bool true) h4))) ∧
   (t1 = false →
    ∃ (t3 : Bool),
     cellAt h { block := q0, off := (4 : Nat) : Addr } = some (Value.bool t3) ∧
      (t3 = true →
        ∃ (i5 : Int),
         cellAt h { block := q0, off := (5 : Nat) : Addr } = some (Value.int IntKind.i64 i5) ∧
          true = true ∧
           okAt h { block := q0, off := (5 : Nat) : Addr } ∧
            ∀ (h5 : Heap),
             h5 = upd h { block := q0, off := (5 : Nat) : Addr } (Value.int IntKind.i64 (IntKind.wrap IntKind.i64 (i5 - (1 : Int)))) →
              ∃ (i6 : Int),
               cellAt h5 { block := q0, off := (6 : Nat) : Addr } = some (Value.int IntKind.i64 i6) ∧
                true = true ∧ okAt h5 { block := q0, off := (6 : Nat) : Addr } ∧ ∀ (h6 : Heap), h6 = upd h5 { block := q0, off := (6 : Nat) : Addr } (Value.int IntKind.i64 (IntKind.wrap IntKind.i64 (i6 + (1 : Int)))) → R (Value.bool true) h6) ∧
       (t3 = false →
        ∃ (i7 : Int),
         cellAt h { block := q0, off := (6 : Nat) : Addr } = some (Value.int IntKind.i64 i7) ∧
          true = true ∧ okAt h { block := q0, off := (6 : Nat) : Addr } ∧ ∀ (h7 : Heap), h7 = upd h { block := q0, off := (6 : Nat) : Addr } (Value.int IntKind.i64 (IntKind.wrap IntKind.i64 (i7 + (1 : Int)))) → R (Value.bool true) h7))

theorem dSpends_call (q0 : Nat) {h : Heap} {R : Value → Heap → Prop} (H : dSpends_vc q0 h R) : CallH Tryz.prog 70 ⟨[.pointer (some ⟨q0, 0, none⟩)]⟩ h R :=
  callH_of_dCode tabOK mixed [(.pointer (some ⟨q0, 0, none⟩), false)] Tryz.func70 (c := bodyC Tryz.f70) (by kernel_rfl) (by kernel_rfl : Tryz.f70.ntmps = 35) rfl
    (Eq.mp (by kernel_rfl : dSpends_vc q0 h R = dCode Tryz.prog T ⟨[], [], [], [], []⟩ (bodyC Tryz.f70) none (dEnd T (Tryz.f70.results.toList) R) (startE 35 [(.pointer (some ⟨q0, 0, none⟩), false)]) h) H)

/-- (*incipit/disk.Disk).Write -/
def dWrite_vc (q0 : Nat) (q1 : Int) (q2p : Option Addr) (q2l : Nat) (q2c : Nat) (h : Heap) (R : Value → Heap → Prop) : Prop :=
  entersB Tryz.prog (48 : Nat) = true ∧
 CallH Tryz.prog (48 : Nat) { toList := [Value.pointer (some { block := q0, off := (0 : Nat) : Addr }), Value.int IntKind.i64 q1, Value.int IntKind.i64 (↑q2l : Int)] : Array Value } h fun (v1 : Value) (h1 : Heap) =>
  ∃ (i1 : Int),
   v1 = Value.int IntKind.i64 i1 ∧
    ((i1 != (0 : Int)) = true → R (Value.int IntKind.i64 i1) h1) ∧
     ((i1 != (0 : Int)) = false →
      ∃ (m1 : Option Nat),
       cellAt h1 { block := q0, off := (2 : Nat) : Addr } = some (Value.map m1) ∧
        ∃ (p1 : Option Addr),
         ∃ (n1 : Nat),
          ∃ (n2 : Nat),
           cellAt h1 { block := q0, off := (1 : Nat) : Addr } = some (Value.slice p1 n1 n2) ∧
            match m1 with
            | some n3 =>
             ∃ (x1 : Array MapEntry),
              ∃ (n4 : Nat),
               h1[n3]? = some (Obj.map x1 n4) ∧
                keysOK (Value.int IntKind.i64 q1) x1 ∧
                 ∀ (h2 : Heap),
                  h2 = Array.setIfInBounds h1 n3 (mput x1 n4 (Value.int IntKind.i64 q1) (Value.int IntKind.i64 (↑n1 : Int))) →
                   ∃ (p2 : Option Addr),
                    ∃ (n6 : Nat),
                     ∃ (n7 : Nat),
                      cellAt h2 { block := q0, off := (1 : Nat) : Addr } = some (Value.slice p2 n6 n7) ∧
                       (256 : Nat) ≤ q2l ∧
                        match q2p with
                        | some a1 =>
                         ∃ (l1 : List Value),
                          rowAt h2 a1 (256 : Nat) = some l1 ∧
                           ((0 : Nat) + (1 : Nat) = (1 : Nat) ∧ List.length l1 = (256 : Nat) ∧ True) ∧
                            (List.length l1 + (1 : Nat) = (257 : Nat) ∧ True) ∧
                             ∀ (n8 : Nat) (rec2 : Array Obj),
                              n8 = Array.size h2 →
                               rec2 = Array.push h2 (Obj.cells { toList := Value.int IntKind.i64 q1 :: l1 : Array Value } (106 : TypeId)) →
                                (∃ (p4 : Option Addr), ∃ (n9 : Nat), ∃ (n10 : Nat), cellAt rec2 { block := q0, off := (1 : Nat) : Addr } = some (Value.slice p4 n9 n10) ∧ (Value.slice p4 n9 n10, false) = (Value.slice p2 n6 n7, false)) ∧
                                 ∃ (l2 : List Value),
                                  srcIs rec2 (257 : Nat) (1 : Nat) (Value.slice (some { block := n8, off := (0 : Nat) : Addr }) (1 : Nat) (1 : Nat)) l2 ∧
                                   (∀ (v2 : Value), v2 ∈ l2 → isCell v2 = true) ∧
                                    List.length l2 = (257 : Nat) ∧
                                     (n6 + (1 : Nat) ≤ n7 →
                                       match p2 with
                                       | some a2 =>
                                        okRow rec2 (Addr.add a2 (n6 * (257 : Nat))) (List.length l2) ∧
                                         ∀ (h3 : Heap),
                                          h3 = updRow rec2 (Addr.add a2 (n6 * (257 : Nat))) (0 : Nat) l2 →
                                           true = true ∧
                                            okAt h3 { block := q0, off := (1 : Nat) : Addr } ∧
                                             ∀ (h4 : Heap),
                                              h4 = upd h3 { block := q0, off := (1 : Nat) : Addr } (Value.slice p2 (n6 + (1 : Nat)) n7) →
                                               entersB Tryz.prog (70 : Nat) = true ∧
                                                CallH Tryz.prog (70 : Nat) { toList := [Value.pointer (some { block := q0, off := (0 : Nat) : Addr })] : Array Value } h4 fun (v3 : Value) (h5 : Heap) =>
                                                 ∃ (t1 : Bool), v3 = Value.bool t1 ∧ ((!t1) = true → R (Value.int IntKind.i64 (5 : Int)) h5) ∧ ((!t1) = false → R (Value.int IntKind.i64 (0 : Int)) h5)
                                       | none =>
                                        true = true ∧
                                         okAt rec2 { block := q0, off := (1 : Nat) : Addr } ∧
                                          ∀ (h6 : Heap),
                                           h6 = upd rec2 { block := q0, off := (1 : Nat) : Addr } (Value.slice p2 (n6 + (1 : Nat)) n7) →
                                            entersB Tryz.prog (70 : Nat) = true ∧
                                             CallH Tryz.prog (70 : Nat) { toList := [Value.pointer (some { block := q0, off := (0 : Nat) : Addr })] : Array Value } h6 fun (v4 : Value) (h7 : Heap) =>
                                              ∃ (t2 : Bool), v4 = Value.bool t2 ∧ ((!t2) = true → R (Value.int IntKind.i64 (5 : Int)) h7) ∧ ((!t2) = false → R (Value.int IntKind.i64 (0 : Int)) h7)) ∧
                                      (n7 < n6 + (1 : Nat) →
                                       (n6 + (1 : Nat)) * (264 : Nat) ≤ (70368744177664 : Nat) ∧
                                        (0 : Nat) < (264 : Nat) ∧
                                         ∃ (l3 : List Value),
                                          srcIs rec2 (257 : Nat) n6 (Value.slice p2 n6 n7) l3 ∧
                                           ∀ (n11 : Nat),
                                            n6 + (1 : Nat) ≤ n11 →
                                             ∀ (n12 : Nat) (rec3 : Array Obj),
                                              n12 = Array.size rec2 →
                                               rec3 = Array.push rec2 (Obj.cells { toList := List.append (List.append l3 l2) (zrow (TI.zero (lookT T (106 : TypeId))) (n11 - (n6 + (1 : Nat)))) : Array Value } (106 : TypeId)) →
                                                true = true ∧
                                                 okAt rec3 { block := q0, off := (1 : Nat) : Addr } ∧
                                                  ∀ (h8 : Heap),
                                                   h8 = upd rec3 { block := q0, off := (1 : Nat) : Addr } (Value.slice (some { block := n12, off := (0 : Nat) : Addr }) (n6 + (1 : Nat)) n11) →
                                                    entersB Tryz.prog (70 : Nat) = true ∧
                                                     CallH Tryz.prog (70 : Nat) { toList := [Value.pointer (some { block := q0, off := (0 : Nat) : Addr })] : Array Value } h8 fun (v5 : Value) (h9 : Heap) =>
                                                      ∃ (t3 : Bool), v5 = Value.bool t3 ∧ ((!t3) = true → R (Value.int IntKind.i64 (5 : Int)) h9) ∧ ((!t3) = false → R (Value.int IntKind.i64 (0 : Int)) h9))
                        | none => False
            | none => False)

theorem dWrite_call (q0 : Nat) (q1 : Int) (q2p : Option Addr) (q2l : Nat) (q2c : Nat) {h : Heap} {R : Value → Heap → Prop} (H : dWrite_vc q0 q1 q2p q2l q2c h R) : CallH Tryz.prog 67 ⟨[.pointer (some ⟨q0, 0, none⟩), .int .i64 q1, .slice q2p q2l q2c]⟩ h R :=
  callH_of_dCode tabOK mixed [(.pointer (some ⟨q0, 0, none⟩), false), (.int .i64 q1, false), (.slice q2p q2l q2c, false)] Tryz.func67 (c := bodyC Tryz.f67) (by kernel_rfl) (by kernel_rfl : Tryz.f67.ntmps = 43) rfl
    (Eq.mp (by kernel_rfl : dWrite_vc q0 q1 q2p q2l q2c h R = dCode Tryz.prog T ⟨[], [], [], [], []⟩ (bodyC Tryz.f67) none (dEnd T (Tryz.f67.results.toList) R) (startE 43 [(.pointer (some ⟨q0, 0, none⟩), false), (.int .i64 q1, false), (.slice q2p q2l q2c, false)]) h) H)

/-- (*incipit/disk.Disk).Sync -/
def dSync_vc (q0 : Nat) (h : Heap) (R : Value → Heap → Prop) : Prop :=
  entersB Tryz.prog (69 : Nat) = true ∧
 CallH Tryz.prog (69 : Nat) { toList := [Value.pointer (some { block := q0, off := (0 : Nat) : Addr })] : Array Value } h fun (v1 : Value) (h1 : Heap) =>
  ∃ (i1 : Int),
   v1 = Value.int IntKind.i64 i1 ∧
    ((i1 != (0 : Int)) = true → R (Value.int IntKind.i64 i1) h1) ∧
     ((i1 != (0 : Int)) = false →
      entersB Tryz.prog (70 : Nat) = true ∧
       CallH Tryz.prog (70 : Nat) { toList := [Value.pointer (some { block := q0, off := (0 : Nat) : Addr })] : Array Value } h1 fun (v2 : Value) (h2 : Heap) =>
        ∃ (t1 : Bool),
         v2 = Value.bool t1 ∧
          ((!t1) = true → R (Value.int IntKind.i64 (5 : Int)) h2) ∧
           ((!t1) = false →
            ∃ (m1 : Option Nat),
             cellAt h2 { block := q0, off := (2 : Nat) : Addr } = some (Value.map m1) ∧
              match m1 with
              | some n1 =>
               ∃ (x1 : Array MapEntry),
                ∃ (n2 : Nat),
                 h2[n1]? = some (Obj.map x1 n2) ∧
                  ∀ (n4 : Nat) (rec2 : Array Obj),
                   n4 = Array.size h2 →
                    rec2 = Array.push h2 (Obj.mapIter (some n1) n2 { toList := [] : Array Nat } n2) →
                     ∃ (I1 : Heap → Prop),
                      ∃ (M1 : Heap → Nat),
                       I1 rec2 ∧
                        ∀ (h3 : Heap),
                         I1 h3 →
                          (0 : Nat) = (0 : Nat) ∧
                           ((h3[n4]? = some (Obj.mapIter none (0 : Nat) { toList := [] : Array Nat } (0 : Nat)) ∧
                             entersB Tryz.prog (71 : Nat) = true ∧
                              CallH Tryz.prog (71 : Nat) { toList := [Value.pointer (some { block := q0, off := (0 : Nat) : Addr })] : Array Value } h3 fun (v3 : Value) (h4 : Heap) => v3 = Value.tuple { toList := [] : Array Value } ∧ R (Value.int IntKind.i64 (0 : Int)) h4) ∨
                            ∃ (n5 : Nat),
                             ∃ (n6 : Nat),
                              ∃ (M2 : Array Nat),
                               ∃ (n7 : Nat),
                                ∃ (x2 : Array MapEntry),
                                 ∃ (n8 : Nat),
                                  h3[n4]? = some (Obj.mapIter (some n5) n6 M2 n7) ∧
                                   h3[n5]? = some (Obj.map x2 n8) ∧
                                    (Array.isEmpty M2 = true ∨ Array.isEmpty x2 = true ∨ ∃ (x3 : MapEntry), x3 ∈ x2.1 ∧ MapEntry.born x3 < n7) ∧
                                     (∀ (x4 : MapEntry),
                                       x4 ∈ x2.1 ∧ Array.contains M2 (MapEntry.born x4) = false →
                                        ∀ (h5 : Heap),
                                         h5 = Array.setIfInBounds h3 n4 (Obj.mapIter (some n5) n6 (Array.push M2 (MapEntry.born x4)) n8) →
                                          (0 : Nat) = (0 : Nat) ∧
                                           ∃ (n9 : Nat),
                                            ∃ (n10 : Nat),
                                             ∃ (M3 : Array Nat),
                                              ∃ (n11 : Nat),
                                               ∃ (x5 : Array MapEntry),
                                                ∃ (n12 : Nat),
                                                 ∃ (x6 : MapEntry),
                                                  h5[n4]? = some (Obj.mapIter (some n9) n10 M3 n11) ∧
                                                   Array.back? M3 = some n12 ∧
                                                    h5[n9]? = some (Obj.map x5 n11) ∧
                                                     Array.find? (fun (x7 : MapEntry) => MapEntry.born x7 == n12) x5 = some x6 ∧
                                                      ∃ (p1 : Option Addr),
                                                       ∃ (n13 : Nat),
                                                        ∃ (n14 : Nat),
                                                         cellAt h5 { block := q0, off := (0 : Nat) : Addr } = some (Value.slice p1 n13 n14) ∧
                                                          ∃ (p2 : Option Addr),
                                                           ∃ (n15 : Nat),
                                                            ∃ (n16 : Nat),
                                                             cellAt h5 { block := q0, off := (1 : Nat) : Addr } = some (Value.slice p2 n15 n16) ∧
                                                              match MapEntry.val x6 with
                                                              | Value.int x8 i2 =>
                                                               match p2 with
                                                               | some a1 =>
                                                                ((0 : Int) ≤ i2 ∧ i2 < (↑n15 : Int)) ∧
                                                                 ∃ (l1 : List Value),
                                                                  rowAt h5 (Addr.add (Addr.add a1 (Int.toNat i2 * (257 : Nat))) (1 : Nat)) (256 : Nat) = some l1 ∧
                                                                   match MapEntry.key x6 with
                                                                   | Value.int x9 i3 =>
                                                                    match p1 with
                                                                    | some a2 =>
                                                                     ((0 : Int) ≤ i3 ∧ i3 < (↑n13 : Int)) ∧
                                                                      List.length l1 = (256 : Nat) ∧
                                                                       (∀ (v5 : Value), v5 ∈ l1 → isCell v5 = true) ∧
                                                                        okRow h5 (Addr.add a2 (Int.toNat i3 * (256 : Nat))) (256 : Nat) ∧ TK.arr (256) (5) ≠ TK.oth ∧ ∀ (h6 : Heap), h6 = updRow h5 (Addr.add a2 (Int.toNat i3 * (256 : Nat))) (0 : Nat) l1 → I1 h6 ∧ M1 h6 < M1 h3
                                                                    | none => False
                                                                   | v6 => False
                                                               | none => False
                                                              | x => False) ∧
                                      ((∀ (x11 : MapEntry), x11 ∈ x2.1 → Array.contains M2 (MapEntry.born x11) = false → n6 ≤ MapEntry.born x11) →
                                       entersB Tryz.prog (71 : Nat) = true ∧
                                        CallH Tryz.prog (71 : Nat) { toList := [Value.pointer (some { block := q0, off := (0 : Nat) : Addr })] : Array Value } h3 fun (v7 : Value) (h7 : Heap) => v7 = Value.tuple { toList := [] : Array Value } ∧ R (Value.int IntKind.i64 (0 : Int)) h7))
              | none =>
               ∀ (n17 : Nat) (rec3 : Array Obj),
                n17 = Array.size h2 →
                 rec3 = Array.push h2 (Obj.mapIter none (0 : Nat) { toList := [] : Array Nat } (0 : Nat)) →
                  ∃ (I2 : Heap → Prop),
                   ∃ (M4 : Heap → Nat),
                    I2 rec3 ∧
                     ∀ (h8 : Heap),
                      I2 h8 →
                       (0 : Nat) = (0 : Nat) ∧
                        ((h8[n17]? = some (Obj.mapIter none (0 : Nat) { toList := [] : Array Nat } (0 : Nat)) ∧
                          entersB Tryz.prog (71 : Nat) = true ∧
                           CallH Tryz.prog (71 : Nat) { toList := [Value.pointer (some { block := q0, off := (0 : Nat) : Addr })] : Array Value } h8 fun (v8 : Value) (h9 : Heap) => v8 = Value.tuple { toList := [] : Array Value } ∧ R (Value.int IntKind.i64 (0 : Int)) h9) ∨
                         ∃ (n18 : Nat),
                          ∃ (n19 : Nat),
                           ∃ (M5 : Array Nat),
                            ∃ (n20 : Nat),
                             ∃ (x13 : Array MapEntry),
                              ∃ (n21 : Nat),
                               h8[n17]? = some (Obj.mapIter (some n18) n19 M5 n20) ∧
                                h8[n18]? = some (Obj.map x13 n21) ∧
                                 (Array.isEmpty M5 = true ∨ Array.isEmpty x13 = true ∨ ∃ (x14 : MapEntry), x14 ∈ x13.1 ∧ MapEntry.born x14 < n20) ∧
                                  (∀ (x15 : MapEntry),
                                    x15 ∈ x13.1 ∧ Array.contains M5 (MapEntry.born x15) = false →
                                     ∀ (h10 : Heap),
                                      h10 = Array.setIfInBounds h8 n17 (Obj.mapIter (some n18) n19 (Array.push M5 (MapEntry.born x15)) n21) →
                                       (0 : Nat) = (0 : Nat) ∧
                                        ∃ (n22 : Nat),
                                         ∃ (n23 : Nat),
                                          ∃ (M6 : Array Nat),
                                           ∃ (n24 : Nat),
                                            ∃ (x16 : Array MapEntry),
                                             ∃ (n25 : Nat),
                                              ∃ (x17 : MapEntry),
                                               h10[n17]? = some (Obj.mapIter (some n22) n23 M6 n24) ∧
                                                Array.back? M6 = some n25 ∧
                                                 h10[n22]? = some (Obj.map x16 n24) ∧
                                                  Array.find? (fun (x18 : MapEntry) => MapEntry.born x18 == n25) x16 = some x17 ∧
                                                   ∃ (p4 : Option Addr),
                                                    ∃ (n26 : Nat),
                                                     ∃ (n27 : Nat),
                                                      cellAt h10 { block := q0, off := (0 : Nat) : Addr } = some (Value.slice p4 n26 n27) ∧
                                                       ∃ (p5 : Option Addr),
                                                        ∃ (n28 : Nat),
                                                         ∃ (n29 : Nat),
                                                          cellAt h10 { block := q0, off := (1 : Nat) : Addr } = some (Value.slice p5 n28 n29) ∧
                                                           match MapEntry.val x17 with
                                                           | Value.int x19 i4 =>
                                                            match p5 with
                                                            | some a3 =>
                                                             ((0 : Int) ≤ i4 ∧ i4 < (↑n28 : Int)) ∧
                                                              ∃ (l2 : List Value),
                                                               rowAt h10 (Addr.add (Addr.add a3 (Int.toNat i4 * (257 : Nat))) (1 : Nat)) (256 : Nat) = some l2 ∧
                                                                match MapEntry.key x17 with
                                                                | Value.int x20 i5 =>
                                                                 match p4 with
                                                                 | some a4 =>
                                                                  ((0 : Int) ≤ i5 ∧ i5 < (↑n26 : Int)) ∧
                                                                   List.length l2 = (256 : Nat) ∧
                                                                    (∀ (v9 : Value), v9 ∈ l2 → isCell v9 = true) ∧
                                                                     okRow h10 (Addr.add a4 (Int.toNat i5 * (256 : Nat))) (256 : Nat) ∧ TK.arr (256) (5) ≠ TK.oth ∧ ∀ (h11 : Heap), h11 = updRow h10 (Addr.add a4 (Int.toNat i5 * (256 : Nat))) (0 : Nat) l2 → I2 h11 ∧ M4 h11 < M4 h8
                                                                 | none => False
                                                                | x => False
                                                            | none => False
                                                           | x => False) ∧
                                   ((∀ (x21 : MapEntry), x21 ∈ x13.1 → Array.contains M5 (MapEntry.born x21) = false → n19 ≤ MapEntry.born x21) →
                                    entersB Tryz.prog (71 : Nat) = true ∧
                                     CallH Tryz.prog (71 : Nat) { toList := [Value.pointer (some { block := q0, off := (0 : Nat) : Addr })] : Array Value } h8 fun (v10 : Value) (h12 : Heap) => v10 = Value.tuple { toList := [] : Array Value } ∧ R (Value.int IntKind.i64 (0 : Int)) h12))))

theorem dSync_call (q0 : Nat) {h : Heap} {R : Value → Heap → Prop} (H : dSync_vc q0 h R) : CallH Tryz.prog 33 ⟨[.pointer (some ⟨q0, 0, none⟩)]⟩ h R :=
  callH_of_dCode tabOK mixed [(.pointer (some ⟨q0, 0, none⟩), false)] Tryz.func33 (c := bodyC Tryz.f33) (by kernel_rfl) (by kernel_rfl : Tryz.f33.ntmps = 40) rfl
    (Eq.mp (by kernel_rfl : dSync_vc q0 h R = dCode Tryz.prog T ⟨[], [(7, [])], [], [], []⟩ (bodyC Tryz.f33) none (dEnd T (Tryz.f33.results.toList) R) (startE 40 [(.pointer (some ⟨q0, 0, none⟩), false)]) h) H)

/-- (*incipit/disk.Disk).settles -/
def dSettles_vc (q0 : Nat) (h : Heap) (R : Value → Heap → Prop) : Prop :=
  true = true ∧
 okAt h { block := q0, off := (1 : Nat) : Addr } ∧
  ∀ (h1 : Heap),
   h1 = upd h { block := q0, off := (1 : Nat) : Addr } (Value.slice none (0 : Nat) (0 : Nat)) →
    ∃ (m1 : Option Nat),
     cellAt h1 { block := q0, off := (2 : Nat) : Addr } = some (Value.map m1) ∧
      match m1 with
      | some n1 => ∃ (x1 : Array MapEntry), ∃ (n2 : Nat), h1[n1]? = some (Obj.map x1 n2) ∧ ∀ (h2 : Heap), h2 = Array.setIfInBounds h1 n1 (Obj.map { toList := [] : Array MapEntry } n2) → R (Value.tuple { toList := [] : Array Value }) h2
      | none => R (Value.tuple { toList := [] : Array Value }) h1

theorem dSettles_call (q0 : Nat) {h : Heap} {R : Value → Heap → Prop} (H : dSettles_vc q0 h R) : CallH Tryz.prog 71 ⟨[.pointer (some ⟨q0, 0, none⟩)]⟩ h R :=
  callH_of_dCode tabOK mixed [(.pointer (some ⟨q0, 0, none⟩), false)] Tryz.func71 (c := bodyC Tryz.f71) (by kernel_rfl) (by kernel_rfl : Tryz.f71.ntmps = 9) rfl
    (Eq.mp (by kernel_rfl : dSettles_vc q0 h R = dCode Tryz.prog T ⟨[], [], [], [], []⟩ (bodyC Tryz.f71) none (dEnd T (Tryz.f71.results.toList) R) (startE 9 [(.pointer (some ⟨q0, 0, none⟩), false)]) h) H)

/-- (*incipit/disk.Disk).Arm -/
def dArm_vc (q0 : Nat) (q1 : Int) (h : Heap) (R : Value → Heap → Prop) : Prop :=
  entersB Tryz.prog (47 : Nat) = true ∧
 CallH Tryz.prog (47 : Nat) { toList := [Value.pointer (some { block := q0, off := (0 : Nat) : Addr })] : Array Value } h fun (v1 : Value) (h1 : Heap) =>
  ∃ (t1 : Bool),
   v1 = Value.bool t1 ∧
    (t1 = true → R (Value.int IntKind.i64 (2 : Int)) h1) ∧
     (t1 = false →
      (decide (q1 < (0 : Int)) = true → R (Value.int IntKind.i64 (1 : Int)) h1) ∧
       (decide (q1 < (0 : Int)) = false →
        entersB Tryz.prog (69 : Nat) = true ∧
         CallH Tryz.prog (69 : Nat) { toList := [Value.pointer (some { block := q0, off := (0 : Nat) : Addr })] : Array Value } h1 fun (v2 : Value) (h2 : Heap) =>
          ∃ (i1 : Int),
           v2 = Value.int IntKind.i64 i1 ∧
            ((i1 != (0 : Int)) = true → R (Value.int IntKind.i64 i1) h2) ∧
             ((i1 != (0 : Int)) = false →
              true = true ∧
               okAt h2 { block := q0, off := (4 : Nat) : Addr } ∧
                ∀ (h3 : Heap),
                 h3 = upd h2 { block := q0, off := (4 : Nat) : Addr } (Value.bool true) → true = true ∧ okAt h3 { block := q0, off := (5 : Nat) : Addr } ∧ ∀ (h4 : Heap), h4 = upd h3 { block := q0, off := (5 : Nat) : Addr } (Value.int IntKind.i64 q1) → R (Value.int IntKind.i64 (0 : Int)) h4)))

theorem dArm_call (q0 : Nat) (q1 : Int) {h : Heap} {R : Value → Heap → Prop} (H : dArm_vc q0 q1 h R) : CallH Tryz.prog 35 ⟨[.pointer (some ⟨q0, 0, none⟩), .int .i64 q1]⟩ h R :=
  callH_of_dCode tabOK mixed [(.pointer (some ⟨q0, 0, none⟩), false), (.int .i64 q1, false)] Tryz.func35 (c := bodyC Tryz.f35) (by kernel_rfl) (by kernel_rfl : Tryz.f35.ntmps = 24) rfl
    (Eq.mp (by kernel_rfl : dArm_vc q0 q1 h R = dCode Tryz.prog T ⟨[], [], [], [], []⟩ (bodyC Tryz.f35) none (dEnd T (Tryz.f35.results.toList) R) (startE 24 [(.pointer (some ⟨q0, 0, none⟩), false), (.int .i64 q1, false)]) h) H)

/-- (*incipit/disk.Disk).Crash -/
def dCrash_vc (q0 : Nat) (q1p : Option Addr) (q1l : Nat) (q1c : Nat) (h : Heap) (R : Value → Heap → Prop) : Prop :=
  entersB Tryz.prog (47 : Nat) = true ∧
 CallH Tryz.prog (47 : Nat) { toList := [Value.pointer (some { block := q0, off := (0 : Nat) : Addr })] : Array Value } h fun (v1 : Value) (h1 : Heap) =>
  ∃ (t1 : Bool),
   v1 = Value.bool t1 ∧
    (t1 = true → R (Value.int IntKind.i64 (2 : Int)) h1) ∧
     (t1 = false →
      ∃ (p1 : Option Addr),
       ∃ (n1 : Nat),
        ∃ (n2 : Nat),
         cellAt h1 { block := q0, off := (1 : Nat) : Addr } = some (Value.slice p1 n1 n2) ∧
          ∃ (I1 : Int → Heap → Prop),
           ∃ (M1 : Int → Heap → Nat),
            I1 (0 : Int) h1 ∧
             ∀ (i1 : Int) (h2 : Heap),
              I1 i1 h2 →
               (decide (i1 < (↑n1 : Int)) = true →
                 match p1 with
                 | some a1 =>
                  ((0 : Int) ≤ i1 ∧ i1 < (↑n1 : Int)) ∧
                   if false = true then
                    ∃ (i2 : Int),
                     ∃ (l1 : List Value),
                      rowAt h2 (Addr.add a1 (Int.toNat i1 * (257 : Nat))) (257 : Nat) = some [Value.int IntKind.i64 i2, Value.agg { toList := l1 : Array Value }] ∧
                       ∀ (n3 : Nat) (rec1 : Array Obj),
                        n3 = Array.size h2 →
                         rec1 = Array.push h2 (Obj.cells { toList := TI.zero (lookT T (106 : Nat)) : Array Value } (106 : Nat)) →
                          (0 : Nat) + (1 : Nat) + (1 : Nat) = (257 : Nat) ∧
                           (∀ (v2 : Value), v2 ∈ [Value.int IntKind.i64 i2, Value.agg { toList := l1 : Array Value }] → isCell v2 = true) ∧
                            okRow rec1 { block := n3, off := (0 : Nat) : Addr } (257 : Nat) ∧
                             TK.st [(0, 3), (1, 86)] ≠ TK.oth ∧
                              ∀ (h3 : Heap),
                               h3 = updRow rec1 { block := n3, off := (0 : Nat) : Addr } (0 : Nat) [Value.int IntKind.i64 i2, Value.agg { toList := l1 : Array Value }] →
                                (decide (i1 < (↑q1l : Int)) = true →
                                  match q1p with
                                  | some a2 =>
                                   ((0 : Int) ≤ i1 ∧ i1 < (↑q1l : Int)) ∧
                                    ∃ (i3 : Int),
                                     cellAt h3 (Addr.add a2 (Int.toNat i1 * (1 : Nat))) = some (Value.int IntKind.u8 i3) ∧
                                      (5 : Int) ≠ (0 : Int) ∧
                                       ∃ (p3 : Option Addr),
                                        ∃ (n4 : Nat),
                                         ∃ (n5 : Nat),
                                          cellAt h3 { block := q0, off := (0 : Nat) : Addr } = some (Value.slice p3 n4 n5) ∧
                                           ∃ (i4 : Int),
                                            cellAt h3 { block := n3, off := (0 : Nat) : Addr } = some (Value.int IntKind.i64 i4) ∧
                                             match p3 with
                                             | some a3 =>
                                              ((0 : Int) ≤ i4 ∧ i4 < (↑n4 : Int)) ∧
                                               ((0 : Int) ≤ IntKind.wrap IntKind.i64 (IntKind.wrap IntKind.i64 (Int.tmod i3 (5 : Int)) * (64 : Int)) ∧ IntKind.wrap IntKind.i64 (IntKind.wrap IntKind.i64 (Int.tmod i3 (5 : Int)) * (64 : Int)) ≤ (↑(256 : Nat) : Int)) ∧
                                                ((0 : Int) ≤ IntKind.wrap IntKind.i64 (IntKind.wrap IntKind.i64 (Int.tmod i3 (5 : Int)) * (64 : Int)) ∧ IntKind.wrap IntKind.i64 (IntKind.wrap IntKind.i64 (Int.tmod i3 (5 : Int)) * (64 : Int)) ≤ (↑(256 : Nat) : Int)) ∧
                                                 ∃ (l2 : List Value),
                                                  srcIs h3 (1 : Nat) (min (Int.toNat (IntKind.wrap IntKind.i64 (IntKind.wrap IntKind.i64 (Int.tmod i3 (5 : Int)) * (64 : Int)))) (Int.toNat (IntKind.wrap IntKind.i64 (IntKind.wrap IntKind.i64 (Int.tmod i3 (5 : Int)) * (64 : Int)))))
                                                    (Value.slice (some { block := n3, off := (1 : Nat) : Addr }) (Int.toNat (IntKind.wrap IntKind.i64 (IntKind.wrap IntKind.i64 (Int.tmod i3 (5 : Int)) * (64 : Int)))) (256 : Nat)) l2 ∧
                                                   (∀ (v3 : Value), v3 ∈ l2 → isCell v3 = true) ∧
                                                    okRow h3 (Addr.add a3 (Int.toNat i4 * (256 : Nat))) (List.length l2) ∧
                                                     ∀ (h4 : Heap), h4 = updRow h3 (Addr.add a3 (Int.toNat i4 * (256 : Nat))) (0 : Nat) l2 → I1 (IntKind.wrap IntKind.i64 (i1 + (1 : Int))) h4 ∧ M1 (IntKind.wrap IntKind.i64 (i1 + (1 : Int))) h4 < M1 i1 h2
                                             | none => False
                                  | none => False) ∧
                                 (decide (i1 < (↑q1l : Int)) = false → I1 (IntKind.wrap IntKind.i64 (i1 + (1 : Int))) h3 ∧ M1 (IntKind.wrap IntKind.i64 (i1 + (1 : Int))) h3 < M1 i1 h2)
                   else
                    ∃ (l3 : List Value),
                     rowAt h2 (Addr.add a1 (Int.toNat i1 * (257 : Nat))) (257 : Nat) = some l3 ∧
                      ∀ (n6 : Nat) (rec2 : Array Obj),
                       n6 = Array.size h2 →
                        rec2 = Array.push h2 (Obj.cells { toList := TI.zero (lookT T (106 : Nat)) : Array Value } (106 : Nat)) →
                         List.length l3 = (257 : Nat) ∧
                          (∀ (v4 : Value), v4 ∈ l3 → isCell v4 = true) ∧
                           okRow rec2 { block := n6, off := (0 : Nat) : Addr } (257 : Nat) ∧
                            TK.st [(0, 3), (1, 86)] ≠ TK.oth ∧
                             ∀ (h5 : Heap),
                              h5 = updRow rec2 { block := n6, off := (0 : Nat) : Addr } (0 : Nat) l3 →
                               (decide (i1 < (↑q1l : Int)) = true →
                                 match q1p with
                                 | some a4 =>
                                  ((0 : Int) ≤ i1 ∧ i1 < (↑q1l : Int)) ∧
                                   ∃ (i5 : Int),
                                    cellAt h5 (Addr.add a4 (Int.toNat i1 * (1 : Nat))) = some (Value.int IntKind.u8 i5) ∧
                                     (5 : Int) ≠ (0 : Int) ∧
                                      ∃ (p4 : Option Addr),
                                       ∃ (n7 : Nat),
                                        ∃ (n8 : Nat),
                                         cellAt h5 { block := q0, off := (0 : Nat) : Addr } = some (Value.slice p4 n7 n8) ∧
                                          ∃ (i6 : Int),
                                           cellAt h5 { block := n6, off := (0 : Nat) : Addr } = some (Value.int IntKind.i64 i6) ∧
                                            match p4 with
                                            | some a5 =>
                                             ((0 : Int) ≤ i6 ∧ i6 < (↑n7 : Int)) ∧
                                              ((0 : Int) ≤ IntKind.wrap IntKind.i64 (IntKind.wrap IntKind.i64 (Int.tmod i5 (5 : Int)) * (64 : Int)) ∧ IntKind.wrap IntKind.i64 (IntKind.wrap IntKind.i64 (Int.tmod i5 (5 : Int)) * (64 : Int)) ≤ (↑(256 : Nat) : Int)) ∧
                                               ((0 : Int) ≤ IntKind.wrap IntKind.i64 (IntKind.wrap IntKind.i64 (Int.tmod i5 (5 : Int)) * (64 : Int)) ∧ IntKind.wrap IntKind.i64 (IntKind.wrap IntKind.i64 (Int.tmod i5 (5 : Int)) * (64 : Int)) ≤ (↑(256 : Nat) : Int)) ∧
                                                ∃ (l4 : List Value),
                                                 srcIs h5 (1 : Nat) (min (Int.toNat (IntKind.wrap IntKind.i64 (IntKind.wrap IntKind.i64 (Int.tmod i5 (5 : Int)) * (64 : Int)))) (Int.toNat (IntKind.wrap IntKind.i64 (IntKind.wrap IntKind.i64 (Int.tmod i5 (5 : Int)) * (64 : Int)))))
                                                   (Value.slice (some { block := n6, off := (1 : Nat) : Addr }) (Int.toNat (IntKind.wrap IntKind.i64 (IntKind.wrap IntKind.i64 (Int.tmod i5 (5 : Int)) * (64 : Int)))) (256 : Nat)) l4 ∧
                                                  (∀ (v5 : Value), v5 ∈ l4 → isCell v5 = true) ∧
                                                   okRow h5 (Addr.add a5 (Int.toNat i6 * (256 : Nat))) (List.length l4) ∧
                                                    ∀ (h6 : Heap), h6 = updRow h5 (Addr.add a5 (Int.toNat i6 * (256 : Nat))) (0 : Nat) l4 → I1 (IntKind.wrap IntKind.i64 (i1 + (1 : Int))) h6 ∧ M1 (IntKind.wrap IntKind.i64 (i1 + (1 : Int))) h6 < M1 i1 h2
                                            | none => False
                                 | none => False) ∧
                                (decide (i1 < (↑q1l : Int)) = false → I1 (IntKind.wrap IntKind.i64 (i1 + (1 : Int))) h5 ∧ M1 (IntKind.wrap IntKind.i64 (i1 + (1 : Int))) h5 < M1 i1 h2)
                 | none => False) ∧
                (decide (i1 < (↑n1 : Int)) = false →
                 entersB Tryz.prog (73 : Nat) = true ∧ CallH Tryz.prog (73 : Nat) { toList := [Value.pointer (some { block := q0, off := (0 : Nat) : Addr })] : Array Value } h2 fun (v6 : Value) (h7 : Heap) => v6 = Value.tuple { toList := [] : Array Value } ∧ R (Value.int IntKind.i64 (0 : Int)) h7))

theorem dCrash_call (q0 : Nat) (q1p : Option Addr) (q1l : Nat) (q1c : Nat) {h : Heap} {R : Value → Heap → Prop} (H : dCrash_vc q0 q1p q1l q1c h R) : CallH Tryz.prog 38 ⟨[.pointer (some ⟨q0, 0, none⟩), .slice q1p q1l q1c]⟩ h R :=
  callH_of_dCode tabOK mixed [(.pointer (some ⟨q0, 0, none⟩), false), (.slice q1p q1l q1c, false)] Tryz.func38 (c := bodyC Tryz.f38) (by kernel_rfl) (by kernel_rfl : Tryz.f38.ntmps = 47) rfl
    (Eq.mp (by kernel_rfl : dCrash_vc q0 q1p q1l q1c h R = dCode Tryz.prog T ⟨[], [(4, [(15, .int .i64)])], [], [], []⟩ (bodyC Tryz.f38) none (dEnd T (Tryz.f38.results.toList) R) (startE 47 [(.pointer (some ⟨q0, 0, none⟩), false), (.slice q1p q1l q1c, false)]) h) H)

/-- (*incipit/disk.Disk).Waits -/
def dWaits_vc (q0 : Nat) (h : Heap) (R : Value → Heap → Prop) : Prop :=
  entersB Tryz.prog (47 : Nat) = true ∧
 CallH Tryz.prog (47 : Nat) { toList := [Value.pointer (some { block := q0, off := (0 : Nat) : Addr })] : Array Value } h fun (v1 : Value) (h1 : Heap) =>
  ∃ (t1 : Bool), v1 = Value.bool t1 ∧ (t1 = true → R (Value.int IntKind.i64 (0 : Int)) h1) ∧ (t1 = false → ∃ (p1 : Option Addr), ∃ (n1 : Nat), ∃ (n2 : Nat), cellAt h1 { block := q0, off := (1 : Nat) : Addr } = some (Value.slice p1 n1 n2) ∧ R (Value.int IntKind.i64 (↑n1 : Int)) h1)

theorem dWaits_call (q0 : Nat) {h : Heap} {R : Value → Heap → Prop} (H : dWaits_vc q0 h R) : CallH Tryz.prog 12 ⟨[.pointer (some ⟨q0, 0, none⟩)]⟩ h R :=
  callH_of_dCode tabOK mixed [(.pointer (some ⟨q0, 0, none⟩), false)] Tryz.func12 (c := bodyC Tryz.f12) (by kernel_rfl) (by kernel_rfl : Tryz.f12.ntmps = 10) rfl
    (Eq.mp (by kernel_rfl : dWaits_vc q0 h R = dCode Tryz.prog T ⟨[], [], [], [], []⟩ (bodyC Tryz.f12) none (dEnd T (Tryz.f12.results.toList) R) (startE 10 [(.pointer (some ⟨q0, 0, none⟩), false)]) h) H)

/-- (*incipit/disk.Disk).Ops -/
def dkOps_vc (q0 : Nat) (h : Heap) (R : Value → Heap → Prop) : Prop :=
  entersB Tryz.prog (47 : Nat) = true ∧
 CallH Tryz.prog (47 : Nat) { toList := [Value.pointer (some { block := q0, off := (0 : Nat) : Addr })] : Array Value } h fun (v1 : Value) (h1 : Heap) =>
  ∃ (t1 : Bool), v1 = Value.bool t1 ∧ (t1 = true → R (Value.int IntKind.i64 (0 : Int)) h1) ∧ (t1 = false → ∃ (i1 : Int), cellAt h1 { block := q0, off := (6 : Nat) : Addr } = some (Value.int IntKind.i64 i1) ∧ R (Value.int IntKind.i64 i1) h1)

theorem dkOps_call (q0 : Nat) {h : Heap} {R : Value → Heap → Prop} (H : dkOps_vc q0 h R) : CallH Tryz.prog 11 ⟨[.pointer (some ⟨q0, 0, none⟩)]⟩ h R :=
  callH_of_dCode tabOK mixed [(.pointer (some ⟨q0, 0, none⟩), false)] Tryz.func11 (c := bodyC Tryz.f11) (by kernel_rfl) (by kernel_rfl : Tryz.f11.ntmps = 9) rfl
    (Eq.mp (by kernel_rfl : dkOps_vc q0 h R = dCode Tryz.prog T ⟨[], [], [], [], []⟩ (bodyC Tryz.f11) none (dEnd T (Tryz.f11.results.toList) R) (startE 9 [(.pointer (some ⟨q0, 0, none⟩), false)]) h) H)

/-- (*incipit/disk.Disk).wakes -/
def dWakes_vc (q0 : Nat) (h : Heap) (R : Value → Heap → Prop) : Prop :=
  entersB Tryz.prog (71 : Nat) = true ∧
 CallH Tryz.prog (71 : Nat) { toList := [Value.pointer (some { block := q0, off := (0 : Nat) : Addr })] : Array Value } h fun (v1 : Value) (h1 : Heap) =>
  v1 = Value.tuple { toList := [] : Array Value } ∧
   true = true ∧
    okAt h1 { block := q0, off := (3 : Nat) : Addr } ∧
     ∀ (h2 : Heap), h2 = upd h1 { block := q0, off := (3 : Nat) : Addr } (Value.bool false) → true = true ∧ okAt h2 { block := q0, off := (4 : Nat) : Addr } ∧ ∀ (h3 : Heap), h3 = upd h2 { block := q0, off := (4 : Nat) : Addr } (Value.bool false) → R (Value.tuple { toList := [] : Array Value }) h3

theorem dWakes_call (q0 : Nat) {h : Heap} {R : Value → Heap → Prop} (H : dWakes_vc q0 h R) : CallH Tryz.prog 73 ⟨[.pointer (some ⟨q0, 0, none⟩)]⟩ h R :=
  callH_of_dCode tabOK mixed [(.pointer (some ⟨q0, 0, none⟩), false)] Tryz.func73 (c := bodyC Tryz.f73) (by kernel_rfl) (by kernel_rfl : Tryz.f73.ntmps = 10) rfl
    (Eq.mp (by kernel_rfl : dWakes_vc q0 h R = dCode Tryz.prog T ⟨[], [], [], [], []⟩ (bodyC Tryz.f73) none (dEnd T (Tryz.f73.results.toList) R) (startE 10 [(.pointer (some ⟨q0, 0, none⟩), false)]) h) H)

end Go.Proofs.YtfapgccnhonoiaaGreat

/- The disk: what it is, told without places; what its functions do. Part 1. -/
namespace Go.Proofs.YtfapgccnhonoiaaGreat

/-! ### Rows of one length -/

theorem flat_len (k : Nat) : ∀ (l : List (List Value)), (∀ x ∈ l, x.length = k) → l.flatten.length = l.length * k
  | [], _ => by simp
  | x :: r, h => by
    rw [List.flatten_cons, List.length_append, h x (by simp), flat_len k r (fun y hy => h y (by simp [hy])), List.length_cons, Nat.succ_mul, Nat.add_comm]

theorem flat_row (k : Nat) : ∀ (l : List (List Value)) (i : Nat) (r : List Value), (∀ x ∈ l, x.length = k) → l[i]? = some r → (l.flatten.drop (i * k)).take k = r
  | [], i, r, _, hi => by simp at hi
  | x :: s, 0, r, h, hi => by
    simp only [List.getElem?_cons_zero, Option.some.injEq] at hi
    subst hi
    have := h x (by simp)
    simp [List.flatten_cons, ← this]
  | x :: s, i + 1, r, h, hi => by
    simp only [List.getElem?_cons_succ] at hi
    have hx := h x (by simp)
    rw [List.flatten_cons, Nat.succ_mul, Nat.add_comm, ← List.drop_drop, List.drop_append_of_le_length (by omega), show List.drop k x = [] by simp [← hx], List.nil_append]
    exact flat_row k s i r (fun y hy => h y (by simp [hy])) hi

theorem flat_set (k : Nat) : ∀ (l : List (List Value)) (i : Nat) (r : List Value), (∀ x ∈ l, x.length = k) → i < l.length → l.flatten.take (i * k) ++ r ++ l.flatten.drop (i * k + k) = (l.set i r).flatten
  | [], i, r, _, hi => by simp at hi
  | x :: s, 0, r, h, hi => by
    have := h x (by simp)
    simp [List.flatten_cons, ← this]
  | x :: s, i + 1, r, h, hi => by
    have hx := h x (by simp)
    have ih := flat_set k s i r (fun y hy => h y (by simp [hy])) (by simpa using hi)
    rw [List.set_cons_succ, List.flatten_cons, List.flatten_cons, ← ih, Nat.succ_mul, List.take_append, List.drop_append]
    rw [List.take_of_length_le (show x.length ≤ i * k + k by omega), List.drop_of_length_le (show x.length ≤ i * k + k + k by omega)]
    rw [show i * k + k - x.length = i * k by omega, show i * k + k + k - x.length = i * k + k by omega]
    simp

theorem flat_room {k : Nat} {l : List (List Value)} {i : Nat} (h : ∀ x ∈ l, x.length = k) (hi : i < l.length) : i * k + k ≤ l.flatten.length := by
  rw [flat_len k l h, ← Nat.succ_mul]
  exact Nat.mul_le_mul_right k hi

/-! ### The disk -/

/-- A page's bytes. -/
def okPage (l : List Value) : Prop := l.length = 256 ∧ ∀ v ∈ l, ∃ n : Int, v = .int .u8 n

structure Dk where
  st : List (List Value)
  ws : List (Int × List Value)
  sh : List (Int × Int)
  off : Bool
  armed : Bool
  left : Int
  ops : Int

structure DkOK (D : Dk) : Prop where
  pages : ∀ x ∈ D.st, okPage x
  some : 0 < D.st.length
  few : D.st.length ≤ 2048
  wpages : ∀ x ∈ D.ws, okPage x.2
  keys : ∀ x ∈ D.sh, 0 ≤ x.1 ∧ x.1 < D.st.length ∧ 0 ≤ x.2 ∧ x.2 < D.ws.length
  apart : (D.sh.map (·.1)).Nodup
  bound : D.ws.length ≤ 1000000

/-- Where it lies. -/
structure Pl where
  sb : Nat
  mb : Nat
  wc : Nat
  wp : Option Nat

def Pl.foot (p : Pl) (a : Nat) : List Nat := a :: p.sb :: p.mb :: p.wp.toList

def wrow (w : Int × List Value) : List Value := .int .i64 w.1 :: w.2

def shAL (l : List (Int × Int)) : AL := l.map fun x => (x.1, .int .i64 x.2)

structure DiskR (h : Heap) (a : Nat) (D : Dk) (p : Pl) : Prop where
  blk : Blk h a [.slice (some ⟨p.sb, 0, none⟩) D.st.length D.st.length, .slice (p.wp.map fun b => ⟨b, 0, none⟩) D.ws.length p.wc, .map (some p.mb), .bool D.off, .bool D.armed, .int .i64 D.left, .int .i64 D.ops]
  stab : Blk h p.sb D.st.flatten
  shows : MapI h p.mb (shAL D.sh)
  waits : (p.wp = none ∧ D.ws = [] ∧ p.wc = 0) ∨ ∃ b x, p.wp = some b ∧ D.ws.length ≤ p.wc ∧ x.length = (p.wc - D.ws.length) * 257 ∧ Blk h b ((D.ws.map wrow).flatten ++ x)
  nodup : (p.foot a).Nodup
  ok : DkOK D

theorem DiskR.keep {h h' : Heap} {a : Nat} {D : Dk} {p : Pl} {F : List Nat} (r : DiskR h a D p) (k : Keep h h' F) (hF : ∀ b ∈ p.foot a, b ∉ F) : DiskR h' a D p := by
  refine ⟨r.blk.keep k (hF _ (by simp [Pl.foot])), r.stab.keep k (hF _ (by simp [Pl.foot])), r.shows.keep k (hF _ (by simp [Pl.foot])), ?_, r.nodup, r.ok⟩
  rcases r.waits with h | ⟨b, x, h1, h2, h3, h4⟩
  · exact .inl h
  · exact .inr ⟨b, x, h1, h2, h3, h4.keep k (hF _ (by simp [Pl.foot, h1]))⟩

/-- Behind a call: the disk is so; all else is as it was. -/
def DPost (h h' : Heap) (a : Nat) (p : Pl) (D' : Dk) : Prop :=
  ∃ p', DiskR h' a D' p' ∧ Keep h h' (p.foot a) ∧ ∀ b ∈ p'.foot a, b ∈ p.foot a ∨ h.size ≤ b

theorem DPost.same {h : Heap} {a : Nat} {p : Pl} {D : Dk} (r : DiskR h a D p) : DPost h h a p D := ⟨p, r, Keep.refl _ _, fun _ hb => .inl hb⟩

theorem DPost.trans {h h' h'' : Heap} {a : Nat} {p : Pl} {D' : Dk} {Q : Prop} (x : DPost h h' a p D') (f : ∀ p', DiskR h' a D' p' → (∀ D'', DPost h' h'' a p' D'' → DPost h h'' a p D'') → Q) : Q := by
  obtain ⟨p', r, k, s⟩ := x
  refine f p' r fun D'' ⟨p'', r', k', s'⟩ => ⟨p'', r', k.trans k' s, fun b hb => ?_⟩
  rcases s' b hb with h1 | h1
  · exact s b h1
  · exact .inr (Nat.le_trans k.size h1)

abbrev ptr (a : Nat) : Value := .pointer (some ⟨a, 0, none⟩)
abbrev i64 (n : Int) : Value := .int .i64 n

section
variable {h : Heap} {a : Nat} {D : Dk} {p : Pl}

theorem dNone_ok (r : DiskR h a D p) : CallH Tryz.prog 47 ⟨[ptr a]⟩ h fun v h' => v = .bool false ∧ h' = h := by
  refine dNone_call a ⟨nofun, fun _ => ⟨_, _, _, r.blk.cell rfl, ?_, rfl⟩⟩
  have := r.ok.some
  rw [show ((D.st.length : Int) == 0) = false from by rw [beq_eq_false_iff_ne]; omega]

theorem dNoneN_ok (h : Heap) : CallH Tryz.prog 47 ⟨[.pointer none]⟩ h fun v h' => v = .bool true ∧ h' = h := by
  refine dNoneN_call ?_
  unfold dNoneN_vc
  simp

theorem dPages_ok (r : DiskR h a D p) : CallH Tryz.prog 21 ⟨[ptr a]⟩ h fun v h' => v = i64 D.st.length ∧ h' = h := by
  refine dPages_call a ⟨by kernel_rfl, (dNone_ok r).mono ?_⟩
  rintro _ _ ⟨rfl, rfl⟩
  exact ⟨false, rfl, nofun, fun _ => ⟨_, _, _, r.blk.cell rfl, rfl, rfl⟩⟩

theorem dPagesN_ok (h : Heap) : CallH Tryz.prog 21 ⟨[.pointer none]⟩ h fun v h' => v = i64 0 ∧ h' = h := by
  refine dPagesN_call ⟨by kernel_rfl, (dNoneN_ok h).mono ?_⟩
  rintro _ _ ⟨rfl, rfl⟩
  refine ⟨true, rfl, fun _ => ⟨rfl, rfl⟩, nofun⟩

/-- What power tells. -/
def Dk.pow (D : Dk) : Int := if D.off then 5 else 0

theorem dPower_ok (r : DiskR h a D p) : CallH Tryz.prog 69 ⟨[ptr a]⟩ h fun v h' => v = i64 D.pow ∧ h' = h := by
  refine dPower_call a ⟨by kernel_rfl, (dNone_ok r).mono ?_⟩
  rintro _ _ ⟨rfl, rfl⟩
  refine ⟨false, rfl, nofun, fun _ => ⟨_, r.blk.cell rfl, fun e => ?_, fun e => ?_⟩⟩
  · simp [Dk.pow, e]
  · simp [Dk.pow, e]

/-- What at tells. -/
def Dk.at (D : Dk) (i size : Int) : Int := if i < 0 ∨ (D.st.length : Int) ≤ i ∨ size ≠ 256 then 1 else D.pow

theorem dAt_ok (r : DiskR h a D p) (i size : Int) : CallH Tryz.prog 48 ⟨[ptr a, i64 i, i64 size]⟩ h fun v h' => v = i64 (D.at i size) ∧ h' = h := by
  refine dAt_call a i size ⟨by kernel_rfl, (dNone_ok r).mono ?_⟩
  rintro _ _ ⟨rfl, rfl⟩
  refine ⟨false, rfl, nofun, fun _ => ⟨fun e => ?_, fun e => ⟨_, _, _, r.blk.cell rfl, fun e' => ?_, fun e' => ⟨fun e'' => ?_, fun e'' => ⟨by kernel_rfl, (dPower_ok r).mono ?_⟩⟩⟩⟩⟩
  · simp only [decide_eq_true_eq] at e
    simp [Dk.at, e]
  · simp only [decide_eq_true_eq, ge_iff_le] at e'
    simp [Dk.at, e']
  · simp only [bne_iff_ne, ne_eq] at e''
    simp [Dk.at, e'']
  · rintro _ _ ⟨rfl, rfl⟩
    refine ⟨_, rfl, ?_, rfl⟩
    simp only [decide_eq_false_iff_not, bne_eq_false_iff_eq, ge_iff_le] at e e' e''
    simp [Dk.at, e, e', e'']

end
end Go.Proofs.YtfapgccnhonoiaaGreat

/- The disk, part 2: what it shows; reading. -/
namespace Go.Proofs.YtfapgccnhonoiaaGreat

def sget (k : Int) : List (Int × Int) → Option Int
  | [] => none
  | x :: r => if k = x.1 then some x.2 else sget k r
def sset (k v : Int) : List (Int × Int) → List (Int × Int)
  | [] => []
  | x :: r => if k = x.1 then (k, v) :: r else x :: sset k v r
def sput (k v : Int) (l : List (Int × Int)) : List (Int × Int) := if (sget k l).isSome then sset k v l else l ++ [(k, v)]

theorem aget_sh (k : Int) : ∀ l, aget k (shAL l) = (sget k l).map (Value.int .i64 ·)
  | [] => rfl
  | x :: r => by
    simp only [shAL, List.map_cons, aget, sget]
    split
    · rfl
    · exact aget_sh k r
theorem ahas_sh (k : Int) : ∀ l, ahas k (shAL l) = (sget k l).isSome
  | [] => rfl
  | x :: r => by
    simp only [shAL, List.map_cons, ahas, sget]
    split
    · rfl
    · exact ahas_sh k r
theorem aset_sh (k v : Int) : ∀ l, aset k (.int .i64 v) (shAL l) = shAL (sset k v l)
  | [] => rfl
  | x :: r => by
    simp only [shAL, List.map_cons, aset, sset]
    split
    · rfl
    · have := aset_sh k v r
      simp only [shAL] at this
      rw [this]; rfl
theorem aput_sh (k v : Int) (l : List (Int × Int)) : aput k (.int .i64 v) (shAL l) = shAL (sput k v l) := by
  unfold aput sput
  rw [ahas_sh]
  split
  · exact aset_sh k v l
  · simp [shAL]
theorem sget_mem (k : Int) : ∀ (l : List (Int × Int)) (v : Int), sget k l = some v → (k, v) ∈ l
  | [], v, h => by cases h
  | x :: r, v, h => by
    simp only [sget] at h
    split at h
    · rename_i hk; cases h; rw [hk]; exact List.mem_cons_self
    · exact List.mem_cons_of_mem _ (sget_mem k r v h)

/-- What a page shows. -/
def Dk.show (D : Dk) (i : Int) : List Value :=
  match sget i D.sh with
  | some k => ((D.ws[k.toNat]?).getD (0, [])).2
  | none => (D.st[i.toNat]?).getD []

theorem Dk.show_ok {D : Dk} (h : DkOK D) {i : Int} (h0 : 0 ≤ i) (h1 : i < D.st.length) : okPage (D.show i) := by
  unfold Dk.show
  cases hs : sget i D.sh with
  | some k =>
    obtain ⟨_, _, h2, h3⟩ := h.keys _ (sget_mem _ _ _ hs)
    simp only at h2 h3
    have : k.toNat < D.ws.length := by omega
    simp only [List.getElem?_eq_getElem this, Option.getD_some]
    exact h.wpages _ (List.getElem_mem this)
  | none =>
    have : i.toNat < D.st.length := by omega
    simp only [List.getElem?_eq_getElem this, Option.getD_some]
    exact h.pages _ (List.getElem_mem this)

theorem page_cell {l : List Value} (h : okPage l) : ∀ v ∈ l, isCell v = true := fun v hv => by
  obtain ⟨n, rfl⟩ := h.2 v hv
  rfl

theorem wrow_len {D : Dk} (h : DkOK D) : ∀ x ∈ D.ws.map wrow, x.length = 257 := fun x hx => by
  obtain ⟨w, hw, rfl⟩ := List.mem_map.1 hx
  simp [wrow, (h.wpages w hw).1]

theorem MapI.is {h : Heap} {b : Nat} {l : AL} (m : MapI h b l) : ∃ es, mapIs h (some b) es ∧ es.size = l.length ∧ (∀ k, keysOK (.int .i64 k) es) ∧ ∀ k, mget (.int .i64 k) es = aget k l := by
  obtain ⟨es, clk, hb, he⟩ := m
  exact ⟨es, ⟨clk, hb⟩, he.size, he.keysOK, he.get⟩

section
variable {h : Heap} {a : Nat} {D : Dk} {p : Pl}

theorem Pl.ne (hn : (p.foot a).Nodup) : a ≠ p.sb ∧ a ≠ p.mb ∧ p.sb ≠ p.mb ∧ ∀ b, p.wp = some b → a ≠ b ∧ p.sb ≠ b ∧ p.mb ≠ b := by
  simp only [Pl.foot, List.nodup_cons, List.mem_cons, not_or, Option.mem_toList] at hn
  obtain ⟨⟨h1, h2, h3⟩, ⟨h4, h5⟩, h6, _⟩ := hn
  exact ⟨h1, h2, h4, fun b hb => ⟨fun e => h3 (e ▸ hb), fun e => h5 (e ▸ hb), fun e => h6 (e ▸ hb)⟩⟩

theorem DiskR.lt (r : DiskR h a D p) : ∀ b ∈ p.foot a, b < h.size := by
  intro b hb
  simp only [Pl.foot, List.mem_cons, Option.mem_toList] at hb
  rcases hb with rfl | rfl | rfl | hb
  · exact r.blk.lt
  · exact r.stab.lt
  · exact r.shows.lt
  · rcases r.waits with ⟨hw, _⟩ | ⟨b', x, hw, _, _, hx⟩
    · rw [hw] at hb; cases hb
    · rw [hw] at hb; cases hb; exact hx.lt

/-- A new block beside it. -/
theorem DiskR.push (r : DiskR h a D p) (o : Obj) : DiskR (h.push o) a D p := r.keep (Keep.push h o []) (fun _ _ => by simp)

theorem dShown_ok (r : DiskR h a D p) (i : Int) (h0 : 0 ≤ i) (h1 : i < D.st.length) : CallH Tryz.prog 49 ⟨[ptr a, i64 i]⟩ h fun v h' => v = .agg ⟨D.show i⟩ ∧ DPost h h' a p D := by
  refine dShown_call a i fun n1 rec1 hn hr => ?_
  subst hn hr
  have r1 := r.push (.cells ⟨TI.zero (lookT T 86)⟩ 86 (0, 0))
  obtain ⟨es, he, hsz, hk, hg⟩ := r1.shows.is
  have hz : (TI.zero (lookT T 86)).length = 256 := by kernel_rfl
  have hnew : Blk (h.push (.cells ⟨TI.zero (lookT T 86)⟩ 86 (0, 0))) h.size (TI.zero (lookT T 86)) := Blk.new _ _ _
  have k1 : Keep h (h.push (.cells ⟨TI.zero (lookT T 86)⟩ 86 (0, 0))) (p.foot a) := Keep.push _ _ _
  -- the end, the same on both roads
  have fin : ∀ (pg : List Value), okPage pg → ∀ (h2 : Heap), h2 = updRow (h.push (.cells ⟨TI.zero (lookT T 86)⟩ 86 (0, 0))) ⟨h.size, 0, none⟩ 0 pg → rowAt h2 ⟨h.size, 0, none⟩ 256 = some pg ∧ DPost h h2 a p D := by
    intro pg hpg h2 he2
    subst he2
    have hb := hnew.updRow (k := 0) (vs := pg) (by rw [hpg.1, hz]; omega)
    constructor
    · rw [hb.row (by simp [hpg.1])]
      simp [hpg.1]
    · refine ⟨p, r1.keep (Keep.updRow _ _ _ _ [h.size] (by simp)) (fun b hb => ?_), k1.trans (Keep.updRow _ _ _ _ [h.size] (by simp)) (fun b hb => .inr (by simp at hb; omega)), fun b hb => .inl hb⟩
      have := r.lt b hb
      simp; omega
  refine ⟨some p.mb, r1.blk.cell rfl, es, he, hk i, ?_, ?_⟩
  · intro v hv
    rw [hg, aget_sh] at hv
    cases hs : sget i D.sh with
    | none => rw [hs] at hv; cases hv
    | some k =>
      rw [hs] at hv
      cases hv
      obtain ⟨_, _, h2, h3⟩ := r.ok.keys _ (sget_mem _ _ _ hs)
      simp only at h2 h3
      have hlt : k.toNat < D.ws.length := by omega
      have hsh : D.show i = (D.ws[k.toNat]).2 := by simp [Dk.show, hs, List.getElem?_eq_getElem hlt]
      rcases r1.waits with ⟨_, hw, _⟩ | ⟨b, x, hw, hle, hx, hbl⟩
      · rw [hw] at hlt; simp at hlt
      · refine ⟨k, rfl, _, _, _, r1.blk.cell rfl, ?_⟩
        rw [hw]
        simp only [Option.map_some]
        refine ⟨⟨h2, h3⟩, D.show i, ?_, ?_⟩
        · rw [addr_add, addr_add]
          have hroom := flat_room (wrow_len r.ok) (i := k.toNat) (by simpa using hlt)
          rw [hbl.row (by simp only [List.length_append]; omega)]
          rw [List.drop_append_of_le_length (by omega), List.take_append_of_le_length (by simp only [List.length_drop]; omega)]
          have hrow := flat_row 257 _ k.toNat (wrow D.ws[k.toNat]) (wrow_len r.ok) (by simp [List.getElem?_eq_getElem hlt])
          simp only [Nat.zero_add]
          rw [← List.drop_drop]
          congr 1
          have : ∀ (l : List Value), (l.drop 1).take 256 = (l.take 257).drop 1 := fun l => by rw [List.drop_take]
          rw [this, hrow, hsh]
          rfl
        · have hpg := Dk.show_ok r.ok h0 h1
          refine ⟨hpg.1, page_cell hpg, hnew.okRow (by rw [hz]; omega), by simp, fun h2 he2 => ⟨by simp, D.show i, ?_⟩⟩
          obtain ⟨f1, f2⟩ := fin _ hpg h2 he2
          exact ⟨f1, rfl, f2⟩
  · intro hv
    rw [hg, aget_sh] at hv
    cases hs : sget i D.sh with
    | some k => rw [hs] at hv; cases hv
    | none =>
      have hlt : i.toNat < D.st.length := by omega
      have hsh : D.show i = D.st[i.toNat] := by simp [Dk.show, hs, List.getElem?_eq_getElem hlt]
      have hpl : ∀ x ∈ D.st, x.length = 256 := fun x hx => (r.ok.pages x hx).1
      refine ⟨_, _, _, r1.blk.cell rfl, ⟨h0, h1⟩, D.show i, ?_, ?_⟩
      · rw [addr_add]
        have hroom := flat_room hpl hlt
        rw [r1.stab.row (by simp only [Nat.zero_add]; omega)]
        simp only [Nat.zero_add]
        rw [flat_row 256 _ _ _ hpl (List.getElem?_eq_getElem hlt), hsh]
      · have hpg := Dk.show_ok r.ok h0 h1
        refine ⟨hpg.1, page_cell hpg, hnew.okRow (by rw [hz]; omega), by simp, fun h2 he2 => ⟨by simp, D.show i, ?_⟩⟩
        obtain ⟨f1, f2⟩ := fin _ hpg h2 he2
        exact ⟨f1, rfl, f2⟩

end
end Go.Proofs.YtfapgccnhonoiaaGreat

/- The disk, part 3: reading; spending; writing. -/
namespace Go.Proofs.YtfapgccnhonoiaaGreat

section
variable {h : Heap} {a : Nat} {D : Dk} {p : Pl}

/-- Pure lists against their spare places. -/
theorem set_at (l : List Value) (k : Nat) (v : Value) (h : k < l.length) : (l.set k v)[k]? = some v := by simp [h]

theorem Dk.at_zero {D : Dk} {i size : Int} (h : D.at i size = 0) : 0 ≤ i ∧ i < D.st.length ∧ size = 256 ∧ D.off = false := by
  unfold Dk.at at h
  split at h
  · cases h
  · rename_i hc
    simp only [not_or, Int.not_lt, Int.not_le, ne_eq, Decidable.not_not] at hc
    unfold Dk.pow at h
    split at h
    · cases h
    · rename_i ho
      exact ⟨hc.1, hc.2.1, hc.2.2, by simpa using ho⟩

theorem dRead_ok (r : DiskR h a D p) (i : Int) : CallH Tryz.prog 13 ⟨[ptr a, i64 i]⟩ h fun v h' =>
    (D.at i 256 = 0 → ∃ b p', v = .tuple ⟨[.slice (some ⟨b, 0, none⟩) 256 256, i64 0]⟩ ∧ h.size ≤ b ∧ Blk h' b (D.show i) ∧ b ∉ p'.foot a ∧ DiskR h' a D p' ∧ Keep h h' (p.foot a) ∧ ∀ c ∈ p'.foot a, c ∈ p.foot a ∨ h.size ≤ c) ∧
    (D.at i 256 ≠ 0 → v = .tuple ⟨[.slice none 0 0, i64 (D.at i 256)]⟩ ∧ h' = h) := by
  refine dRead_call a i ⟨by kernel_rfl, (dAt_ok r i 256).mono ?_⟩
  rintro _ _ ⟨rfl, rfl⟩
  refine ⟨_, rfl, fun e => ?_, fun e => ⟨by kernel_rfl, ?_⟩⟩
  · simp only [bne_iff_ne, ne_eq] at e
    exact ⟨fun e' => absurd e' e, fun _ => ⟨rfl, rfl⟩⟩
  · simp only [bne_eq_false_iff_eq] at e
    obtain ⟨h0, h1, _, _⟩ := Dk.at_zero e
    refine (dShown_ok r i h0 h1).mono ?_
    rintro _ h2 ⟨rfl, p2, r2, k2, s2⟩
    have hpg := Dk.show_ok r.ok h0 h1
    have hz : (TI.zero (lookT T 86)).length = 256 := by kernel_rfl
    refine ⟨D.show i, rfl, fun n1 rec1 hn hr => ?_⟩
    subst hn hr
    have hnew : Blk (h2.push (.cells ⟨TI.zero (lookT T 86)⟩ 86 (0, 0))) h2.size (TI.zero (lookT T 86)) := Blk.new _ _ _
    refine ⟨hpg.1, page_cell hpg, hnew.okRow (by rw [hz]; omega), by simp, fun h3 he => ?_⟩
    subst he
    have hb := hnew.updRow (k := 0) (vs := D.show i) (by rw [hpg.1, hz]; omega)
    have : List.take 0 (TI.zero (lookT T 86)) ++ D.show i ++ List.drop (0 + (D.show i).length) (TI.zero (lookT T 86)) = D.show i := by
      rw [List.drop_of_length_le (by rw [hz, hpg.1]; omega)]
      simp
    rw [this] at hb
    refine ⟨fun _ => ⟨h2.size, p2, rfl, k2.size, hb, fun hm => ?_, (r2.push _).keep (Keep.updRow _ _ _ _ [h2.size] (by simp)) (fun b hb => ?_), ?_, s2⟩, fun e' => absurd e e'⟩
    · have := r2.lt _ hm
      omega
    · have := r2.lt b hb
      simp; omega
    · refine (k2.trans (Keep.push h2 _ []) (by simp)).trans (Keep.updRow _ _ _ _ [h2.size] (by simp)) fun b hb => ?_
      have := k2.size
      simp only [List.mem_singleton] at hb
      subst hb
      exact .inr this

/-- One of what is left is taken. -/
def Dk.spend (D : Dk) : Dk × Bool :=
  if D.armed ∧ D.left = 0 then ({ D with off := true }, false)
  else ({ D with left := if D.armed then IntKind.wrap .i64 (D.left - 1) else D.left, ops := IntKind.wrap .i64 (D.ops + 1) }, true)

/-- Only the first block has changed, and only in its last four places. -/
theorem DiskR.flags {h' : Heap} {D' : Dk} (r : DiskR h a D p) (hs : D'.st = D.st ∧ D'.ws = D.ws ∧ D'.sh = D.sh) (k : Keep h h' [a])
    (hb : Blk h' a [.slice (some ⟨p.sb, 0, none⟩) D.st.length D.st.length, .slice (p.wp.map fun b => ⟨b, 0, none⟩) D.ws.length p.wc, .map (some p.mb), .bool D'.off, .bool D'.armed, .int .i64 D'.left, .int .i64 D'.ops]) : DiskR h' a D' p := by
  obtain ⟨h1, h2, h3⟩ := hs
  obtain ⟨n1, n2, n3, n4⟩ := Pl.ne r.nodup
  refine ⟨by rw [h1, h2]; exact hb, by rw [h1]; exact r.stab.keep k (by simp; exact fun e => n1 e.symm), by rw [h3]; exact r.shows.keep k (by simp; exact fun e => n2 e.symm), ?_, r.nodup, ?_⟩
  · rw [h2]
    rcases r.waits with hw | ⟨b, x, hw, hle, hx, hbl⟩
    · exact .inl hw
    · exact .inr ⟨b, x, hw, hle, hx, hbl.keep k (by simp; exact fun e => (n4 b hw).1 e.symm)⟩
  · obtain ⟨o1, o2, o3, o4, o5, o6, o7⟩ := r.ok
    exact ⟨by rw [h1]; exact o1, by rw [h1]; exact o2, by rw [h1]; exact o3, by rw [h2]; exact o4, by rw [h3, h1, h2]; exact o5, by rw [h3]; exact o6, by rw [h2]; exact o7⟩

theorem DPost.flags {h' : Heap} {D' : Dk} (r : DiskR h a D p) (hs : D'.st = D.st ∧ D'.ws = D.ws ∧ D'.sh = D.sh) (k : Keep h h' [a])
    (hb : Blk h' a [.slice (some ⟨p.sb, 0, none⟩) D.st.length D.st.length, .slice (p.wp.map fun b => ⟨b, 0, none⟩) D.ws.length p.wc, .map (some p.mb), .bool D'.off, .bool D'.armed, .int .i64 D'.left, .int .i64 D'.ops]) : DPost h h' a p D' :=
  ⟨p, r.flags hs k hb, k.mono (by simp [Pl.foot]), fun _ hb => .inl hb⟩

theorem dSpends_ok (r : DiskR h a D p) : CallH Tryz.prog 70 ⟨[ptr a]⟩ h fun v h' => v = .bool D.spend.2 ∧ DPost h h' a p D.spend.1 := by
  refine dSpends_call a ⟨D.armed, r.blk.cell rfl, fun e1 => ⟨_, r.blk.cell rfl, fun e2 => ⟨rfl, r.blk.ok (by simp), fun h1 he => ?_⟩, fun e2 => ⟨_, r.blk.cell rfl, fun _ => ⟨_, r.blk.cell rfl, rfl, r.blk.ok (by simp), fun h2 he2 => ?_⟩, fun e3 => ?_⟩⟩,
    fun e1 => ⟨_, r.blk.cell rfl, fun e2 => ?_, fun _ => ⟨_, r.blk.cell rfl, rfl, r.blk.ok (by simp), fun h2 he2 => ?_⟩⟩⟩
  · subst he
    have e2' : D.left = 0 := by simpa using e2
    have hs : D.spend = ({ D with off := true }, false) := by simp [Dk.spend, e1, e2']
    rw [hs]
    exact ⟨rfl, DPost.flags r ⟨rfl, rfl, rfl⟩ (Keep.upd _ _ _ _ _ (by simp)) (r.blk.upd 3 _)⟩
  · subst he2
    have e2' : D.left ≠ 0 := by simpa using e2
    have hs : D.spend = ({ D with left := IntKind.wrap .i64 (D.left - 1), ops := IntKind.wrap .i64 (D.ops + 1) }, true) := by simp [Dk.spend, e1, e2']
    have b1 := r.blk.upd 5 (.int .i64 (IntKind.wrap .i64 (D.left - 1)))
    refine ⟨_, b1.cell rfl, rfl, b1.ok (by simp), fun h3 he3 => ?_⟩
    subst he3
    rw [hs]
    exact ⟨rfl, DPost.flags r ⟨rfl, rfl, rfl⟩ ((Keep.upd _ _ _ _ [a] (by simp)).trans' (Keep.upd _ _ _ _ _ (by simp))) (b1.upd 6 _)⟩
  · rw [e1] at e3; cases e3
  · rw [e1] at e2; cases e2
  · subst he2
    have hs : D.spend = ({ D with ops := IntKind.wrap .i64 (D.ops + 1) }, true) := by simp [Dk.spend, e1]
    rw [hs]
    exact ⟨rfl, DPost.flags r ⟨rfl, rfl, rfl⟩ (Keep.upd _ _ _ _ _ (by simp)) (r.blk.upd 6 _)⟩

theorem dSettles_ok (r : DiskR h a D p) : CallH Tryz.prog 71 ⟨[ptr a]⟩ h fun v h' => v = .tuple ⟨[]⟩ ∧ DPost h h' a p { D with ws := [], sh := [] } := by
  refine dSettles_call a ⟨rfl, r.blk.ok (by simp), fun h1 he => ?_⟩
  subst he
  have b1 := r.blk.upd 1 (.slice none 0 0)
  obtain ⟨n1, n2, n3, n4⟩ := Pl.ne r.nodup
  have k1 : Keep h (upd h ⟨a, 1, none⟩ (.slice none 0 0)) [a] := Keep.upd _ _ _ _ _ (by simp)
  obtain ⟨es, clk, hm, _⟩ := r.shows.keep k1 (by simp; exact fun e => n2 e.symm)
  refine ⟨_, b1.cell rfl, es, clk, hm, fun h2 he => ⟨rfl, ?_⟩⟩
  subst he
  have k2 : Keep (upd h ⟨a, 1, none⟩ (.slice none 0 0)) ((upd h ⟨a, 1, none⟩ (.slice none 0 0)).setIfInBounds p.mb (.map ⟨[]⟩ clk)) [p.mb] := Keep.set _ _ _ _ (by simp)
  refine ⟨⟨p.sb, p.mb, 0, none⟩, ⟨?_, ?_, ?_, .inl ⟨rfl, rfl, rfl⟩, ?_, ?_⟩, ?_, fun b hb => .inl ?_⟩
  · exact b1.keep k2 (by simpa using n2)
  · exact (r.stab.keep k1 (by simp; exact fun e => n1 e.symm)).keep k2 (by simpa using n3)
  · refine ⟨#[], clk, ?_, EntsI.nil clk⟩
    have hlt := (Array.getElem?_eq_some_iff.1 hm).1
    rw [Array.getElem?_setIfInBounds_self_of_lt hlt]
  · have := r.nodup
    simp only [Pl.foot, List.nodup_cons, List.mem_cons, not_or] at this ⊢
    simp
    exact ⟨⟨n1, n2⟩, n3⟩
  · obtain ⟨o1, o2, o3, o4, o5, o6, o7⟩ := r.ok
    exact ⟨o1, o2, o3, by simp, by simp, by simp, by simp⟩
  · exact (k1.mono (by simp [Pl.foot])).trans' (k2.mono (by simp [Pl.foot]))
  · simp only [Pl.foot, List.mem_cons, Option.mem_toList] at hb ⊢
    rcases hb with h | h | h | h
    · exact .inl h
    · exact .inr (.inl h)
    · exact .inr (.inr (.inl h))
    · cases h

end
end Go.Proofs.YtfapgccnhonoiaaGreat

/- The disk, part 4: writing. -/
namespace Go.Proofs.YtfapgccnhonoiaaGreat

theorem zrow_len (z : List Value) : ∀ n, (zrow z n).length = n * z.length
  | 0 => by simp [zrow]
  | n + 1 => by simp only [zrow, List.length_append, zrow_len z n]; rw [Nat.succ_mul, Nat.add_comm]

/-- Bytes in a row, told by a slice, in none of these blocks. -/
def SlAt (h : Heap) (q : Option Addr) (l : Nat) (pg : List Value) (F : List Nat) : Prop :=
  pg.length = l ∧ (∀ v ∈ pg, ∃ n : Int, v = .int .u8 n) ∧ ((l = 0) ∨ ∃ b o, q = some ⟨b, o, none⟩ ∧ b ∉ F ∧ b < h.size ∧ rowAt h ⟨b, o, none⟩ l = some pg)

theorem rowAt_same {h h' : Heap} {b o n : Nat} (e : h'[b]? = h[b]?) : rowAt h' ⟨b, o, none⟩ n = rowAt h ⟨b, o, none⟩ n := by
  unfold rowAt
  simp only [e]

theorem SlAt.keep {h h' : Heap} {q : Option Addr} {l : Nat} {pg : List Value} {F G : List Nat} (s : SlAt h q l pg F) (k : Keep h h' G) (hG : ∀ b ∈ G, b ∈ F) : SlAt h' q l pg F := by
  obtain ⟨h1, h2, h3⟩ := s
  refine ⟨h1, h2, ?_⟩
  rcases h3 with h3 | ⟨b, o, hq, hb, hl, hr⟩
  · exact .inl h3
  · exact .inr ⟨b, o, hq, hb, Nat.lt_of_lt_of_le hl k.size, by rw [rowAt_same (k.same b hl (fun hx => hb (hG b hx)))]; exact hr⟩

theorem sset_keys (k v : Int) : ∀ l, (sset k v l).map (·.1) = l.map (·.1)
  | [] => rfl
  | x :: r => by
    simp only [sset]
    split
    · rename_i hk; simp [hk]
    · simp [sset_keys k v r]
theorem sset_mem (k v : Int) : ∀ (l : List (Int × Int)) (x : Int × Int), x ∈ sset k v l → x ∈ l ∨ x = (k, v)
  | [], x, h => by cases h
  | y :: r, x, h => by
    simp only [sset] at h
    split at h
    · rcases List.mem_cons.1 h with h | h
      · exact .inr h
      · exact .inl (List.mem_cons_of_mem _ h)
    · rcases List.mem_cons.1 h with h | h
      · exact .inl (by rw [h]; exact List.mem_cons_self)
      · rcases sset_mem k v r x h with h | h
        · exact .inl (List.mem_cons_of_mem _ h)
        · exact .inr h
theorem sget_none (k : Int) : ∀ (l : List (Int × Int)), sget k l = none → k ∉ l.map (·.1)
  | [], _ => by simp
  | x :: r, h => by
    simp only [sget] at h
    split at h
    · cases h
    · rename_i hk
      simp only [List.map_cons, List.mem_cons, not_or]
      exact ⟨hk, sget_none k r h⟩
theorem sput_mem (k v : Int) (l : List (Int × Int)) (x : Int × Int) (h : x ∈ sput k v l) : x ∈ l ∨ x = (k, v) := by
  unfold sput at h
  split at h
  · exact sset_mem k v l x h
  · rcases List.mem_append.1 h with h | h
    · exact .inl h
    · exact .inr (by simpa using h)
theorem sput_apart (k v : Int) (l : List (Int × Int)) (h : (l.map (·.1)).Nodup) : ((sput k v l).map (·.1)).Nodup := by
  unfold sput
  split
  · rw [sset_keys]; exact h
  · rename_i hn
    have : sget k l = none := by cases hs : sget k l with | none => rfl | some _ => simp [hs] at hn
    simp only [List.map_append, List.map_cons, List.map_nil]
    refine List.nodup_append.2 ⟨h, by simp, fun a ha b hb => ?_⟩
    simp only [List.mem_singleton] at hb
    rw [hb]
    exact fun e => sget_none k l this (e ▸ ha)

/-- A write waits. -/
def Dk.lay (D : Dk) (i : Int) (pg : List Value) : Dk := { D with sh := sput i D.ws.length D.sh, ws := D.ws ++ [(i, pg)] }
def Dk.write (D : Dk) (i : Int) (pg : List Value) : Dk × Int := ((D.lay i pg).spend.1, if (D.lay i pg).spend.2 then 0 else 5)

theorem Dk.lay_ok {D : Dk} (o : DkOK D) {i : Int} {pg : List Value} (h0 : 0 ≤ i) (h1 : i < D.st.length) (hp : okPage pg) (hb : D.ws.length < 1000000) : DkOK (D.lay i pg) := by
  refine ⟨o.pages, o.some, o.few, fun x hx => ?_, fun x hx => ?_, sput_apart _ _ _ o.apart, ?_⟩
  · rcases List.mem_append.1 hx with h | h
    · exact o.wpages x h
    · simp only [List.mem_singleton] at h; subst h; exact hp
  · simp only [Dk.lay, List.length_append, List.length_cons, List.length_nil]
    rcases sput_mem _ _ _ _ hx with h | h
    · obtain ⟨k1, k2, k3, k4⟩ := o.keys x h
      exact ⟨k1, k2, k3, by omega⟩
    · subst h
      refine ⟨h0, h1, ?_, ?_⟩ <;> simp only <;> omega
  · simp [Dk.lay]; omega

section
variable {h : Heap} {a : Nat} {D : Dk} {p : Pl}

theorem DPost.via {h h' : Heap} {a : Nat} {p p' : Pl} {D' D'' : Dk} (_ : DiskR h' a D' p') (k : Keep h h' (p.foot a)) (s : ∀ b ∈ p'.foot a, b ∈ p.foot a ∨ h.size ≤ b) {h'' : Heap} (x : DPost h' h'' a p' D'') : DPost h h'' a p D'' := by
  obtain ⟨p'', r', k', s'⟩ := x
  refine ⟨p'', r', k.trans k' s, fun b hb => ?_⟩
  rcases s' b hb with h1 | h1
  · exact s b h1
  · exact .inr (Nat.le_trans k.size h1)

theorem dWrite_ok (r : DiskR h a D p) (i : Int) (q : Option Addr) (l c : Nat) (pg : List Value) (hs : SlAt h q l pg (p.foot a)) (hb : D.ws.length < 1000000) :
    CallH Tryz.prog 67 ⟨[ptr a, i64 i, .slice q l c]⟩ h fun v h' => (D.at i l ≠ 0 → v = i64 (D.at i l) ∧ h' = h) ∧ (D.at i l = 0 → v = i64 (D.write i pg).2 ∧ DPost h h' a p (D.write i pg).1) := by
  refine dWrite_call a i q l c ⟨by kernel_rfl, (dAt_ok r i l).mono ?_⟩
  rintro _ _ ⟨rfl, rfl⟩
  refine ⟨_, rfl, fun e => ?_, fun e => ?_⟩
  · simp only [bne_iff_ne, ne_eq] at e
    exact ⟨fun _ => ⟨rfl, rfl⟩, fun e' => absurd e' e⟩
  simp only [bne_eq_false_iff_eq] at e
  obtain ⟨h0, h1, hl, _⟩ := Dk.at_zero e
  obtain ⟨n1, n2, n3, n4⟩ := Pl.ne r.nodup
  obtain ⟨hpl, hpb, hq⟩ := hs
  have hl' : l = 256 := by omega
  subst hl'
  obtain ⟨bb, bo, rfl, hbF, hblt, hrow⟩ := hq.resolve_left (by omega)
  have hpg : okPage pg := ⟨hpl, hpb⟩
  obtain ⟨es, clk, hm, he⟩ := r.shows
  obtain ⟨es', clk', hput, he'⟩ := he.put i (i64 D.ws.length)
  refine ⟨_, r.blk.cell rfl, _, _, _, r.blk.cell rfl, es, clk, hm, he.keysOK i, fun h2 hh2 => ?_⟩
  rename_i h _
  have k2 : Keep h h2 [p.mb] := by rw [hh2]; exact Keep.set _ _ _ _ (by simp)
  have m2 : MapI h2 p.mb (shAL (sput i D.ws.length D.sh)) := by
    refine ⟨es', clk', ?_, ?_⟩
    · rw [hh2, Array.getElem?_setIfInBounds_self_of_lt (Array.getElem?_eq_some_iff.1 hm).1, ← hput]
    · rw [← aput_sh]; exact he'
  have b2 := r.blk.keep k2 (by simpa using n2)
  have s2 := r.stab.keep k2 (by simpa using n3)
  have w2 : (p.wp = none ∧ D.ws = [] ∧ p.wc = 0) ∨ ∃ b x, p.wp = some b ∧ D.ws.length ≤ p.wc ∧ x.length = (p.wc - D.ws.length) * 257 ∧ Blk h2 b ((D.ws.map wrow).flatten ++ x) := by
    rcases r.waits with hw | ⟨b, x, hw, hle, hx, hbl⟩
    · exact .inl hw
    · exact .inr ⟨b, x, hw, hle, hx, hbl.keep k2 (by simp; exact fun e => (n4 b hw).2.2 e.symm)⟩
  have hlt2 : ∀ b ∈ p.foot a, b < h2.size := fun b hb => Nat.lt_of_lt_of_le (r.lt b hb) k2.size
  clear hm he hput he' hh2
  refine ⟨_, _, _, b2.cell rfl, by omega, pg, ?_, ⟨rfl, hpg.1, trivial⟩, ⟨by rw [hpg.1], trivial⟩, fun n8 rec2 hn8 hrec => ?_⟩
  · rw [rowAt_same (k2.same bb hblt (by simp; intro hx; exact hbF (by simp [Pl.foot, hx])))]
    exact hrow
  have k3 : Keep h2 rec2 [] := by rw [hrec]; exact Keep.push _ _ _
  have b3 := b2.keep k3 (by simp)
  have s3 := s2.keep k3 (by simp)
  have m3 := m2.keep k3 (by simp)
  have new3 : Blk rec2 n8 (i64 i :: pg) := by rw [hrec, hn8]; exact Blk.new _ _ _
  have w3 : (p.wp = none ∧ D.ws = [] ∧ p.wc = 0) ∨ ∃ b x, p.wp = some b ∧ D.ws.length ≤ p.wc ∧ x.length = (p.wc - D.ws.length) * 257 ∧ Blk rec2 b ((D.ws.map wrow).flatten ++ x) := by
    rcases w2 with hw | ⟨b, x, hw, hle, hx, hbl⟩
    · exact .inl hw
    · exact .inr ⟨b, x, hw, hle, hx, hbl.keep k3 (by simp)⟩
  have hlt3 : ∀ b ∈ p.foot a, b < rec2.size := fun b hb => Nat.lt_of_lt_of_le (hlt2 b hb) k3.size
  have hk3 : Keep h rec2 (p.foot a) := (k2.mono (by simp [Pl.foot])).trans' (k3.mono (by simp))
  clear hrec w2 hlt2
  have hlen : (i64 i :: pg).length = 257 := by simp [hpg.1]
  refine ⟨⟨_, _, _, b3.cell rfl, rfl⟩, i64 i :: pg, ?_, ?_, hlen, ?_, ?_⟩
  · show rowAt rec2 ⟨n8, 0, none⟩ (1 * 257) = _
    rw [new3.row (by rw [hlen]; omega)]
    rw [List.drop_zero, List.take_of_length_le (by rw [hlen]; omega)]
  · intro v hv
    rcases List.mem_cons.1 hv with rfl | hv
    · rfl
    · exact page_cell hpg v hv
  -- the end: the disk is laid, then one is spent
  · intro hroom
    rcases w3 with ⟨hw, hws, hwc⟩ | ⟨b, x, hw, hle, hx, hbl⟩
    · rw [hws, hwc] at hroom; simp at hroom
    · rw [hw]
      simp only [Option.map_some]
      have hfl : (D.ws.map wrow).flatten.length = D.ws.length * 257 := by rw [flat_len 257 _ (wrow_len r.ok)]; simp
      have hxl : 257 ≤ x.length := by
        rw [hx]
        exact Nat.le_mul_of_pos_left 257 (by omega)
      rw [addr_add, Nat.zero_add]
      refine ⟨hbl.okRow (by rw [List.length_append, hfl, hlen]; omega), fun h3 hh3 => ?_⟩
      have nb := n4 b hw
      have k4 : Keep rec2 h3 [b] := by rw [hh3]; exact Keep.updRow _ _ _ _ _ (by simp)
      have b4 := b3.keep k4 (by simpa using nb.1)
      have wb4 : Blk h3 b (((D.ws ++ [(i, pg)]).map wrow).flatten ++ x.drop 257) := by
        have := hbl.updRow (k := D.ws.length * 257) (vs := i64 i :: pg) (by rw [List.length_append, hfl, hlen]; omega)
        rw [← hh3] at this
        rw [List.take_append_of_le_length (by omega), List.take_of_length_le (by omega), List.drop_append, List.drop_of_length_le (by rw [hlen, hfl]; omega), hlen, hfl, List.nil_append, show D.ws.length * 257 + 257 - D.ws.length * 257 = 257 by omega] at this
        simpa [wrow] using this
      refine ⟨by trivial, b4.ok (by simp), fun h4 hh4 => ⟨by kernel_rfl, ?_⟩⟩
      have k5 : Keep h3 h4 [a] := by rw [hh4]; exact Keep.upd _ _ _ _ _ (by simp)
      have b5 := b4.upd 1 (.slice (some ⟨b, 0, none⟩) (D.ws.length + 1) p.wc)
      rw [← hh4] at b5
      have r5 : DiskR h4 a (D.lay i pg) p := by
        refine ⟨?_, (s3.keep k4 (by simpa using nb.2.1)).keep k5 (by simp; exact fun e => n1 e.symm), (m3.keep k4 (by simpa using nb.2.2)).keep k5 (by simp; exact fun e => n2 e.symm), .inr ⟨b, x.drop 257, hw, ?_, ?_, ?_⟩, r.nodup, Dk.lay_ok r.ok h0 h1 hpg hb⟩
        · rw [hw]
          simp only [Option.map_some, Dk.lay, List.length_append, List.length_cons, List.length_nil]
          rw [hw] at b5
          exact b5
        · simp only [Dk.lay, List.length_append, List.length_cons, List.length_nil]; exact hroom
        · simp only [Dk.lay, List.length_append, List.length_cons, List.length_nil, List.length_drop]; rw [hx]; omega
        · exact wb4.keep k5 (by simp; exact fun e => nb.1 e.symm)
      refine (dSpends_ok r5).mono ?_
      rintro _ h6 ⟨rfl, post⟩
      have post' : DPost h h6 a p (D.lay i pg).spend.1 := DPost.via r5 ((hk3.trans' (k4.mono (by simp [Pl.foot, hw]))).trans' (k5.mono (by simp [Pl.foot]))) (fun _ hb => .inl hb) post
      refine ⟨_, rfl, fun e1 => ⟨fun e2 => absurd e e2, fun _ => ⟨?_, post'⟩⟩, fun e1 => ⟨fun e2 => absurd e e2, fun _ => ⟨?_, post'⟩⟩⟩
      · simp only [Bool.not_eq_true'] at e1; simp [Dk.write, e1]
      · simp only [Bool.not_eq_false'] at e1; simp [Dk.write, e1]
  · intro hroom
    have hold : srcIs rec2 257 D.ws.length (.slice (p.wp.map fun b => ⟨b, 0, none⟩) D.ws.length p.wc) (D.ws.map wrow).flatten := by
      have hfl : (D.ws.map wrow).flatten.length = D.ws.length * 257 := by rw [flat_len 257 _ (wrow_len r.ok)]; simp
      rcases w3 with ⟨hw, hws, hwc⟩ | ⟨b, x, hw, hle, hx, hbl⟩
      · rw [hw, hws]; rfl
      · rw [hw]
        show rowAt rec2 ⟨b, 0, none⟩ (D.ws.length * 257) = _
        rw [hbl.row (by rw [List.length_append, hfl]; omega), List.drop_zero, List.take_append_of_le_length (by omega), List.take_of_length_le (by omega)]
    refine ⟨by have := r.ok.bound; omega, by omega, _, hold, fun n11 hn11 n12 rec3 hn12 hrec3 => ?_⟩
    have k4 : Keep rec2 rec3 [] := by rw [hrec3]; exact Keep.push _ _ _
    have b4 := b3.keep k4 (by simp)
    have hfresh : ∀ b ∈ p.foot a, b ≠ n12 := fun b hb e => by have := hlt3 b hb; omega
    have hz : (TI.zero (lookT T 106)).length = 257 := by kernel_rfl
    have wb4 : Blk rec3 n12 (((D.ws ++ [(i, pg)]).map wrow).flatten ++ zrow (TI.zero (lookT T 106)) (n11 - (D.ws.length + 1))) := by
      rw [hrec3, hn12]
      have := Blk.new rec2 (List.append (List.append (D.ws.map wrow).flatten (i64 i :: pg)) (zrow (TI.zero (lookT T 106)) (n11 - (D.ws.length + 1)))) 106
      simpa [wrow] using this
    refine ⟨by trivial, b4.ok (by simp), fun h4 hh4 => ⟨by kernel_rfl, ?_⟩⟩
    have k5 : Keep rec3 h4 [a] := by rw [hh4]; exact Keep.upd _ _ _ _ _ (by simp)
    have b5 := b4.upd 1 (.slice (some ⟨n12, 0, none⟩) (D.ws.length + 1) n11)
    rw [← hh4] at b5
    have r5 : DiskR h4 a (D.lay i pg) ⟨p.sb, p.mb, n11, some n12⟩ := by
      refine ⟨?_, (s3.keep k4 (by simp)).keep k5 (by simp; exact fun e => n1 e.symm), (m3.keep k4 (by simp)).keep k5 (by simp; exact fun e => n2 e.symm), .inr ⟨n12, _, rfl, ?_, ?_, wb4.keep k5 (by simp; exact fun e => hfresh a (by simp [Pl.foot]) e.symm)⟩, ?_, Dk.lay_ok r.ok h0 h1 hpg hb⟩
      · simp only [Option.map_some, Dk.lay, List.length_append, List.length_cons, List.length_nil]
        exact b5
      · simp only [Dk.lay, List.length_append, List.length_cons, List.length_nil]; exact hn11
      · simp only [Dk.lay, List.length_append, List.length_cons, List.length_nil]; rw [zrow_len, hz]
      · have f1 := hfresh a (by simp [Pl.foot])
        have f2 := hfresh p.sb (by simp [Pl.foot])
        have f3 := hfresh p.mb (by simp [Pl.foot])
        simp [Pl.foot, n1, n2, n3, f1, f2, f3]
    refine (dSpends_ok r5).mono ?_
    rintro _ h6 ⟨rfl, post⟩
    have post' : DPost h h6 a p (D.lay i pg).spend.1 := by
      refine DPost.via r5 ((hk3.trans' (k4.mono (by simp))).trans' (k5.mono (by simp [Pl.foot]))) (fun b hb => ?_) post
      simp only [Pl.foot, List.mem_cons, Option.toList_some, List.mem_singleton, List.not_mem_nil, or_false] at hb ⊢
      rcases hb with h | h | h | h
      · exact .inl (.inl h)
      · exact .inl (.inr (.inl h))
      · exact .inl (.inr (.inr (.inl h)))
      · exact .inr (by rw [h, hn12]; exact hk3.size)
    refine ⟨_, rfl, fun e1 => ⟨fun e2 => absurd e e2, fun _ => ⟨?_, post'⟩⟩, fun e1 => ⟨fun e2 => absurd e e2, fun _ => ⟨?_, post'⟩⟩⟩
    · simp only [Bool.not_eq_true'] at e1; simp [Dk.write, e1]
    · simp only [Bool.not_eq_false'] at e1; simp [Dk.write, e1]

end
end Go.Proofs.YtfapgccnhonoiaaGreat

/- The disk, part 5: sync; a new one. -/
namespace Go.Proofs.YtfapgccnhonoiaaGreat

/-- What is stable behind a sync. -/
def Dk.flat (D : Dk) : List (List Value) := (List.range D.st.length).map fun (i : Nat) => D.show i

def Dk.settle (D : Dk) : Dk := { D with st := D.flat, ws := [], sh := [] }

def iterM (it n : Nat) (h : Heap) : Nat :=
  match h[it]? with
  | some (.mapIter _ _ told _) => n - told.size
  | _ => 0

/-- Some pages are stable by now. -/
structure PartSt (D : Dk) (ds : List MapEntry) (st : List (List Value)) : Prop where
  len : st.length = D.st.length
  at' : ∀ i : Nat, i < D.st.length → ((∃ x ∈ ds, x.key = .int .i64 i) → st[i]? = some (D.show i)) ∧ ((∀ x ∈ ds, x.key ≠ .int .i64 i) → st[i]? = D.st[i]?)

theorem PartSt.ok {D : Dk} {ds : List MapEntry} {st : List (List Value)} (o : DkOK D) (q : PartSt D ds st) : ∀ x ∈ st, okPage x := by
  intro x hx
  obtain ⟨i, hi, rfl⟩ := List.getElem_of_mem hx
  have hi' : i < D.st.length := by rw [← q.len]; exact hi
  obtain ⟨h1, h2⟩ := q.at' i hi'
  by_cases he : ∃ x ∈ ds, x.key = .int .i64 i
  · have := h1 he
    rw [List.getElem?_eq_getElem hi] at this
    rw [Option.some.inj this]
    exact Dk.show_ok o (by omega) (by omega)
  · have := h2 (fun x hx hk => he ⟨x, hx, hk⟩)
    rw [List.getElem?_eq_getElem hi, List.getElem?_eq_getElem hi'] at this
    rw [Option.some.inj this]
    exact o.pages _ (List.getElem_mem hi')

section
variable {h : Heap} {a : Nat} {D : Dk} {p : Pl}

theorem shAL_mem {l : List (Int × Int)} {k : Int} {v : Value} (h : (k, v) ∈ shAL l) : ∃ n, v = .int .i64 n ∧ (k, n) ∈ l := by
  obtain ⟨x, hx, he⟩ := List.mem_map.1 h
  cases he
  exact ⟨x.2, rfl, hx⟩

theorem sget_of_mem (k v : Int) : ∀ (l : List (Int × Int)), (l.map (·.1)).Nodup → (k, v) ∈ l → sget k l = some v
  | [], _, h => by cases h
  | x :: r, hn, h => by
    simp only [List.map_cons, List.nodup_cons] at hn
    simp only [sget]
    rcases List.mem_cons.1 h with h | h
    · rw [← h]; simp
    · rw [if_neg (fun e => hn.1 (List.mem_map.2 ⟨(k, v), h, e⟩))]
      exact sget_of_mem k v r hn.2 h

theorem dSync_ok (r : DiskR h a D p) : CallH Tryz.prog 33 ⟨[ptr a]⟩ h fun v h' =>
    (D.pow ≠ 0 → v = i64 D.pow ∧ h' = h) ∧
    (D.pow = 0 → D.spend.2 = false → v = i64 5 ∧ DPost h h' a p D.spend.1) ∧
    (D.pow = 0 → D.spend.2 = true → v = i64 0 ∧ DPost h h' a p D.spend.1.settle) := by
  refine dSync_call a ⟨by kernel_rfl, (dPower_ok r).mono ?_⟩
  rintro _ h0 ⟨rfl, rfl⟩
  refine ⟨_, rfl, fun e => ?_, fun e => ⟨by kernel_rfl, (dSpends_ok r).mono ?_⟩⟩
  · simp only [bne_iff_ne, ne_eq] at e
    exact ⟨fun _ => ⟨rfl, rfl⟩, fun e' => absurd e' e, fun e' => absurd e' e⟩
  simp only [bne_eq_false_iff_eq] at e
  rintro _ h2 ⟨rfl, p2, r2, k2, s2⟩
  refine ⟨_, rfl, fun e1 => ?_, fun e1 => ?_⟩
  · simp only [Bool.not_eq_true'] at e1
    exact ⟨fun e' => absurd e e', fun _ _ => ⟨rfl, p2, r2, k2, s2⟩, fun _ e2 => by rw [e1] at e2; cases e2⟩
  simp only [Bool.not_eq_false'] at e1
  generalize hD1 : D.spend.1 = D1 at r2 ⊢
  obtain ⟨es, clk, hm, he⟩ := r2.shows
  obtain ⟨n1, n2, n3, n4⟩ := Pl.ne r2.nodup
  refine ⟨_, r2.blk.cell rfl, es, clk, hm, fun it h3 hit hh3 => ?_⟩
  have hmblt : p2.mb < h2.size := r2.shows.lt
  have hitn : ∀ b ∈ p2.foot a, b ≠ it := fun b hb e => by have := r2.lt b hb; omega
  have i3 : IterR h3 it p2.mb es clk ⟨[]⟩ clk [] := by rw [hh3, hit]; exact IterR.start hm
  have k3 : Keep h2 h3 [] := by rw [hh3]; exact Keep.push _ _ _
  have r3 : DiskR h3 a D1 p2 := r2.keep k3 (by simp)
  have kk3 : Keep h0 h3 (p.foot a) := k2.trans k3 (by simp)
  clear hh3
  -- what a round leaves
  let I : Heap → Prop := fun hh => ∃ told ds st, IterR hh it p2.mb es clk told clk ds ∧ PartSt D1 ds st ∧ DiskR hh a { D1 with st := st } p2 ∧ Keep h0 hh (p.foot a)
  have fin : ∀ hh, I hh → (∀ told ds st, IterR hh it p2.mb es clk told clk ds → PartSt D1 ds st → DiskR hh a { D1 with st := st } p2 → Keep h0 hh (p.foot a) → (∀ x ∈ es.toList, x ∈ ds) → { D1 with st := st, ws := [], sh := [] } = D1.settle) := by
    intro hh _ told ds st hi hp hr hk hall
    have : st = D1.flat := by
      apply List.ext_getElem?
      intro i
      rcases Nat.lt_or_ge i D1.st.length with hlt | hge
      · have e2 : D1.flat[i]? = some (D1.show i) := by
          unfold Dk.flat
          rw [List.getElem?_map, List.getElem?_range hlt]
          rfl
        rw [e2]
        obtain ⟨q1, q2⟩ := hp.at' i hlt
        by_cases hex : ∃ x ∈ ds, x.key = .int .i64 i
        · exact q1 hex
        · rw [q2 (fun x hx hkx => hex ⟨x, hx, hkx⟩)]
          have : sget i D1.sh = none := by
            cases hs : sget i D1.sh with
            | none => rfl
            | some v =>
              have hmem := sget_mem _ _ _ hs
              obtain ⟨x, hx, hxk, _⟩ := entsOf_mem' _ _ he.ents _ (List.mem_map.2 ⟨_, hmem, rfl⟩)
              exact absurd ⟨x, hall x hx, hxk⟩ hex
          simp [Dk.show, this, List.getElem?_eq_getElem hlt]
      · rw [List.getElem?_eq_none (by rw [hp.len]; exact hge), List.getElem?_eq_none (by simp [Dk.flat]; exact hge)]
    rw [this]; rfl
  have i0 : I h3 := ⟨_, _, D1.st, i3, ⟨rfl, fun i hi => ⟨fun ⟨x, hx, _⟩ => (nomatch hx), fun _ => rfl⟩⟩, r3, kk3⟩
  refine ⟨I, iterM it es.size, i0, ?_⟩
  rintro hh ⟨told, ds, st, hi, hp, hr, hk⟩
  refine ⟨rfl, .inr ⟨p2.mb, clk, told, clk, es, clk, hi.iter, hi.map, hi.some he, ?_, ?_⟩⟩
  · rintro x ⟨hx, hnt⟩ h5 hh5
    refine ⟨rfl, p2.mb, clk, told.push x.born, clk, es, x.born, x, ?_⟩
    have hne : it ≠ p2.mb := fun e => hitn p2.mb (by simp [Pl.foot]) e.symm
    have hi5 := hi.step hne hx hnt
    rw [← hh5] at hi5
    have k5 : Keep hh h5 [it] := by rw [hh5]; exact Keep.set _ _ _ _ (by simp)
    have r5 : DiskR h5 a { D1 with st := st } p2 := hr.keep k5 (fun b hb => by simp; exact hitn b hb)
    obtain ⟨key, hkey, hkm⟩ := entsOf_mem _ _ he.ents x hx
    obtain ⟨val, hval, hvm⟩ := shAL_mem hkm
    obtain ⟨c1, c2, c3, c4⟩ := r5.ok.keys _ hvm
    have c2 : key < st.length := c2
    have c4 : val < D1.ws.length := c4
    have c1 : 0 ≤ key := c1
    have c3 : 0 ≤ val := c3
    have hsh : D1.show key = (D1.ws[val.toNat]?.getD (0, [])).2 := by
      unfold Dk.show
      rw [sget_of_mem key val D1.sh r5.ok.apart hvm]
    have hlt : val.toNat < D1.ws.length := by omega
    refine ⟨hi5.iter, by simp, hi5.map, he.found hx, _, _, _, r5.blk.cell rfl, _, _, _, r5.blk.cell rfl, ?_⟩
    rw [hval, hkey]
    rcases r5.waits with ⟨_, hw, _⟩ | ⟨b, y, hw, hle, hy, hbl⟩
    · simp only at hw; rw [hw] at hlt; simp at hlt
    · rw [hw]
      simp only [Option.map_some]
      have hpg : okPage (D1.show key) := by
        rw [hsh, List.getElem?_eq_getElem hlt]
        exact r5.ok.wpages _ (List.getElem_mem hlt)
      refine ⟨⟨c3, c4⟩, D1.show key, ?_, ⟨c1, c2⟩, hpg.1, page_cell hpg, ?_, by simp, fun h6 hh6 => ?_⟩
      · rw [addr_add, addr_add]
        have hbl' : Blk h5 b ((D1.ws.map wrow).flatten ++ y) := hbl
        have hroom : val.toNat * 257 + 257 ≤ (D1.ws.map wrow).flatten.length := flat_room (wrow_len r2.ok) (by simpa using hlt)
        rw [hbl'.row (by simp only [List.length_append]; omega)]
        rw [List.drop_append_of_le_length (by omega), List.take_append_of_le_length (by simp only [List.length_drop]; omega)]
        have hrow := flat_row 257 _ val.toNat (wrow D1.ws[val.toNat]) (wrow_len r2.ok) (by simp [List.getElem?_eq_getElem hlt])
        simp only [Nat.zero_add]
        rw [← List.drop_drop]
        congr 1
        have : ∀ (l : List Value), (l.drop 1).take 256 = (l.take 257).drop 1 := fun l => by rw [List.drop_take]
        rw [this, hrow, hsh, List.getElem?_eq_getElem hlt]
        rfl
      · have hpl : ∀ x ∈ st, x.length = 256 := fun x hx => (r5.ok.pages x hx).1
        have hkl : key.toNat < st.length := by omega
        have := flat_room hpl hkl
        rw [addr_add, Nat.zero_add]
        exact r5.stab.okRow (by simp only; omega)
      · have hpl : ∀ x ∈ st, x.length = 256 := fun x hx => (r5.ok.pages x hx).1
        have hkl : key.toNat < st.length := by omega
        rw [addr_add, Nat.zero_add] at hh6
        have k6 : Keep h5 h6 [p2.sb] := by rw [hh6]; exact Keep.updRow _ _ _ _ _ (by simp)
        have s6 : Blk h6 p2.sb (st.set key.toNat (D1.show key)).flatten := by
          have hroom := flat_room hpl hkl
          have := r5.stab.updRow (k := key.toNat * 256) (vs := D1.show key) (by rw [hpg.1]; exact hroom)
          rw [← hh6] at this
          rw [hpg.1] at this
          simp only at this
          rw [flat_set 256 st key.toNat _ hpl hkl] at this
          exact this
        have hi6 : IterR h6 it p2.mb es clk (told.push x.born) clk (ds ++ [x]) := hi5.keep k6 (by simp; exact fun e => hitn p2.sb (by simp [Pl.foot]) e.symm) (by simp; exact fun e => n3 e.symm)
        have hp6 : PartSt D1 (ds ++ [x]) (st.set key.toNat (D1.show key)) := by
          refine ⟨by rw [List.length_set]; exact hp.len, fun i hi' => ?_⟩
          obtain ⟨q1, q2⟩ := hp.at' i hi'
          rw [List.getElem?_set]
          by_cases hik : key.toNat = i
          · have hki : key = i := by omega
            rw [if_pos hik, if_pos (by omega)]
            refine ⟨fun _ => by rw [hki], fun hn => absurd ?_ (hn x (by simp))⟩
            rw [hkey, hki]
          · rw [if_neg hik]
            refine ⟨fun ⟨y, hy, hyk⟩ => ?_, fun hn => q2 fun y hy => hn y (by simp [hy])⟩
            rcases List.mem_append.1 hy with hy | hy
            · exact q1 ⟨y, hy, hyk⟩
            · simp only [List.mem_singleton] at hy
              rw [hy, hkey] at hyk
              simp only [Value.int.injEq, true_and] at hyk
              omega
        have r6 : DiskR h6 a { D1 with st := st.set key.toNat (D1.show key) } p2 := by
          obtain ⟨o1, o2, o3, o4, o5, o6, o7⟩ := r5.ok
          refine ⟨?_, s6, r5.shows.keep k6 (by simp; exact fun e => n3 e.symm), ?_, r5.nodup, ⟨?_, ?_, ?_, o4, ?_, o6, o7⟩⟩
          · simp only [List.length_set]
            exact r5.blk.keep k6 (by simpa using n1)
          · rcases r5.waits with hw' | ⟨b', x', hw', q⟩
            · exact .inl hw'
            · exact .inr ⟨b', x', hw', q.1, q.2.1, q.2.2.keep k6 (by simp; exact fun e => (n4 b' hw').2.1 e.symm)⟩
          · exact PartSt.ok r2.ok hp6
          · simpa using o2
          · simpa using o3
          · simpa using o5
        refine ⟨⟨_, _, _, hi6, hp6, r6, ?_⟩, ?_⟩
        · refine (hk.trans k5 fun b hb => .inr ?_).trans k6 fun b hb => ?_
          · simp only [List.mem_singleton] at hb
            have := k2.size
            omega
          · simp only [List.mem_singleton] at hb
            rw [hb]
            exact s2 p2.sb (by simp [Pl.foot])
        · have h1 := hi6.few
          have h2' : told.size = ds.length := by
            have := congrArg List.length hi.told
            simpa using this
          unfold iterM
          rw [hi6.iter, hi.iter]
          simp only [List.length_append, List.length_cons, List.length_nil, Array.size_push] at h1 ⊢
          omega
  · intro hf
    refine ⟨by kernel_rfl, (dSettles_ok hr).mono ?_⟩
    rintro _ h7 ⟨rfl, p7, r7, k7, s7⟩
    refine ⟨rfl, fun e' => absurd e e', fun _ e2 => (by rw [e1] at e2; cases e2), fun _ _ => ⟨rfl, p7, ?_, hk.trans k7 s2, fun b hb => ?_⟩⟩
    · have := fin hh ⟨told, ds, st, hi, hp, hr, hk⟩ told ds st hi hp hr hk (hi.all he hf)
      rw [← this]
      exact r7
    · rcases s7 b hb with h1 | h1
      · exact s2 b h1
      · exact .inr (Nat.le_trans hk.size h1)

end
end Go.Proofs.YtfapgccnhonoiaaGreat

/- The disk, part 6: a new one. -/
namespace Go.Proofs.YtfapgccnhonoiaaGreat

def zeroPg : List Value := TI.zero (lookT T 86)

theorem zeroPg_ok : okPage zeroPg := by
  have : zeroPg = List.replicate 256 (.int .u8 0) := by kernel_rfl
  rw [this]
  refine ⟨List.length_replicate, fun v hv => ?_⟩
  rw [List.eq_of_mem_replicate hv]
  exact ⟨0, rfl⟩

theorem zrow_flat (z : List Value) : ∀ n, zrow z n = (List.replicate n z).flatten
  | 0 => rfl
  | n + 1 => by simp only [zrow, List.replicate_succ, List.flatten_cons, zrow_flat z n]

/-- A new disk. -/
def Dk.new (n : Nat) : Dk := ⟨List.replicate n zeroPg, [], [], false, false, 0, 0⟩

theorem dNew_ok (h : Heap) (n : Int) : CallH Tryz.prog 4 ⟨[i64 n]⟩ h fun v h' =>
    (n < 8 ∨ 2048 < n → v = .tuple ⟨[.pointer none, i64 1]⟩ ∧ h' = h) ∧
    (8 ≤ n ∧ n ≤ 2048 → ∃ a p, v = .tuple ⟨[ptr a, i64 0]⟩ ∧ DiskR h' a (Dk.new n.toNat) p ∧ Keep h h' [] ∧ ∀ b ∈ p.foot a, h.size ≤ b) := by
  refine dNew_call n ⟨fun e => ?_, fun e => ⟨fun e' => ?_, fun e' => ⟨⟨?_, ?_, ?_, ?_⟩, fun n1 h1 hn1 hh1 n2 h2 hn2 hh2 n3 h3 hn3 hh3 => ?_⟩⟩⟩
  · simp only [decide_eq_true_eq] at e
    exact ⟨fun _ => ⟨rfl, rfl⟩, fun hc => by omega⟩
  · simp only [decide_eq_true_eq, decide_eq_false_iff_not] at e e'
    exact ⟨fun _ => ⟨rfl, rfl⟩, fun hc => by omega⟩
  all_goals simp only [decide_eq_false_iff_not] at e e'
  · omega
  · omega
  · omega
  · omega
  · refine ⟨fun hc => by omega, fun hc => ⟨n3, ⟨n1, n2, 0, none⟩, rfl, ⟨?_, ?_, ?_, .inl ⟨rfl, rfl, rfl⟩, ?_, ?_⟩, ?_, ?_⟩⟩
    · have := Blk.new h2 [Value.slice (some ⟨n1, 0, none⟩) n.toNat n.toNat, .slice none 0 0, .map (some n2), .bool false, .bool false, .int .i64 0, .int .i64 0] 55
      rw [← hh3, ← hn3] at this
      simpa [Dk.new] using this
    · have := Blk.new h (zrow (TI.zero (lookT T 86)) n.toNat) 86
      rw [← hh1, ← hn1] at this
      have k2 : Keep h1 h2 [] := by rw [hh2]; exact Keep.push _ _ _
      have k3 : Keep h2 h3 [] := by rw [hh3]; exact Keep.push _ _ _
      rw [zrow_flat] at this
      exact (this.keep k2 (by simp)).keep k3 (by simp)
    · have k3 : Keep h2 h3 [] := by rw [hh3]; exact Keep.push _ _ _
      refine MapI.keep (⟨#[], 0, ?_, EntsI.nil 0⟩ : MapI h2 n2 []) k3 (by simp)
      rw [hh2, hn2]
      simp
    · have e1 : h1.size = h.size + 1 := by rw [hh1]; simp
      have e2 : h2.size = h1.size + 1 := by rw [hh2]; simp
      simp [Pl.foot]
      omega
    · have hl : (Dk.new n.toNat).st.length = n.toNat := by simp [Dk.new]
      refine ⟨fun x hx => ?_, by rw [hl]; omega, by rw [hl]; omega, by simp [Dk.new], by simp [Dk.new], by simp [Dk.new], by simp [Dk.new]⟩
      rw [List.eq_of_mem_replicate hx]
      exact zeroPg_ok
    · rw [hh3, hh2, hh1]
      exact ((Keep.push _ _ _).trans' (Keep.push _ _ _)).trans' (Keep.push _ _ _)
    · have e1 : h1.size = h.size + 1 := by rw [hh1]; simp
      have e2 : h2.size = h1.size + 1 := by rw [hh2]; simp
      intro b hb
      simp [Pl.foot] at hb
      omega

end Go.Proofs.YtfapgccnhonoiaaGreat

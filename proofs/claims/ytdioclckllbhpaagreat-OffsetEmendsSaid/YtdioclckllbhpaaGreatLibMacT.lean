/- A part of the logic and of the contracts of the functions that the statement reaches; the statement itself is proved in the last text. -/
import Derived.Test.YtdioclckllbhpaaGreatProg
import Derived.KernelRfl
import Derived.Test.YtdioclckllbhpaaGreatLibMacIT

set_option linter.all false
set_option linter.unusedVariables false
set_option linter.unusedSimpArgs false
set_option linter.unnecessarySimpa false
namespace Go.Mac
open Go Go.Conc Go.Proofs
set_option maxRecDepth 10000
theorem ty1 : tyT Tryz.prog 1 = some { d := Go.TypeDesc.func #[] #[] false, sz := 1, ze := some [.nilfn], bytes := 8 } := by kernel_rfl
theorem ty2 : tyT Tryz.prog 2 = some { d := Go.TypeDesc.int (Go.IntKind.i64), sz := 1, ze := some [.int .i64 0], bytes := 8 } := by kernel_rfl
theorem ty3 : tyT Tryz.prog 3 = some { d := Go.TypeDesc.int (Go.IntKind.i64), sz := 1, ze := some [.int .i64 0], bytes := 8 } := by kernel_rfl
theorem ty4 : tyT Tryz.prog 4 = some { d := Go.TypeDesc.bool, sz := 1, ze := some [.bool false], bytes := 1 } := by kernel_rfl
theorem ty5 : tyT Tryz.prog 5 = some { d := Go.TypeDesc.int (Go.IntKind.u8), sz := 1, ze := some [.int .u8 0], bytes := 1 } := by kernel_rfl
theorem ty6 : tyT Tryz.prog 6 = some { d := Go.TypeDesc.int (Go.IntKind.u8), sz := 1, ze := some [.int .u8 0], bytes := 1 } := by kernel_rfl
theorem ty7 : tyT Tryz.prog 7 = some { d := Go.TypeDesc.struct #[{ name := "x", type := 2, offset := 0, embedded := false, tag := "", pkgPath := "runtime", byteOffset := 0 }, { name := "y", type := 3, offset := 1, embedded := false, tag := "", pkgPath := "runtime", byteOffset := 8 }, { name := "signed", type := 4, offset := 2, embedded := false, tag := "", pkgPath := "runtime", byteOffset := 16 }, { name := "code", type := 6, offset := 3, embedded := false, tag := "", pkgPath := "runtime", byteOffset := 17 }], sz := 4, ze := some [.int .i64 0, .int .i64 0, .bool false, .int .u8 0], bytes := 24 } := by kernel_rfl
theorem ty8 : tyT Tryz.prog 8 = some { d := Go.TypeDesc.struct #[{ name := "x", type := 2, offset := 0, embedded := false, tag := "", pkgPath := "runtime", byteOffset := 0 }, { name := "y", type := 3, offset := 1, embedded := false, tag := "", pkgPath := "runtime", byteOffset := 8 }, { name := "signed", type := 4, offset := 2, embedded := false, tag := "", pkgPath := "runtime", byteOffset := 16 }, { name := "code", type := 6, offset := 3, embedded := false, tag := "", pkgPath := "runtime", byteOffset := 17 }], sz := 4, ze := some [.int .i64 0, .int .i64 0, .bool false, .int .u8 0], bytes := 24 } := by kernel_rfl
theorem ty9 : tyT Tryz.prog 9 = some { d := Go.TypeDesc.string, sz := 1, ze := some [.str []], bytes := 16 } := by kernel_rfl
theorem ty10 : tyT Tryz.prog 10 = some { d := Go.TypeDesc.string, sz := 1, ze := some [.str []], bytes := 16 } := by kernel_rfl
theorem ty11 : tyT Tryz.prog 11 = some { d := Go.TypeDesc.string, sz := 1, ze := some [.str []], bytes := 16 } := by kernel_rfl
theorem ty12 : tyT Tryz.prog 12 = some { d := Go.TypeDesc.int (Go.IntKind.u64), sz := 1, ze := some [.int .u64 0], bytes := 8 } := by kernel_rfl
theorem ty13 : tyT Tryz.prog 13 = some { d := Go.TypeDesc.struct #[{ name := "msg", type := 9, offset := 0, embedded := false, tag := "", pkgPath := "runtime", byteOffset := 0 }, { name := "addr", type := 12, offset := 1, embedded := false, tag := "", pkgPath := "runtime", byteOffset := 16 }], sz := 2, ze := some [.str [], .int .u64 0], bytes := 24 } := by kernel_rfl
theorem ty14 : tyT Tryz.prog 14 = some { d := Go.TypeDesc.struct #[{ name := "msg", type := 9, offset := 0, embedded := false, tag := "", pkgPath := "runtime", byteOffset := 0 }, { name := "addr", type := 12, offset := 1, embedded := false, tag := "", pkgPath := "runtime", byteOffset := 16 }], sz := 2, ze := some [.str [], .int .u64 0], bytes := 24 } := by kernel_rfl
theorem ty15 : tyT Tryz.prog 15 = some { d := Go.TypeDesc.pointer 218, sz := 1, ze := some [.nilptr], bytes := 8 } := by kernel_rfl
theorem ty16 : tyT Tryz.prog 16 = some { d := Go.TypeDesc.pointer 221, sz := 1, ze := some [.nilptr], bytes := 8 } := by kernel_rfl
theorem ty17 : tyT Tryz.prog 17 = some { d := Go.TypeDesc.pointer 231, sz := 1, ze := some [.nilptr], bytes := 8 } := by kernel_rfl
theorem ty18 : tyT Tryz.prog 18 = some { d := Go.TypeDesc.struct #[{ name := "typ", type := 17, offset := 0, embedded := false, tag := "", pkgPath := "internal/runtime/maps", byteOffset := 0 }], sz := 1, ze := some [.nilptr], bytes := 8 } := by kernel_rfl
theorem ty19 : tyT Tryz.prog 19 = some { d := Go.TypeDesc.struct #[{ name := "typ", type := 17, offset := 0, embedded := false, tag := "", pkgPath := "internal/runtime/maps", byteOffset := 0 }], sz := 1, ze := some [.nilptr], bytes := 8 } := by kernel_rfl
theorem ty20 : tyT Tryz.prog 20 = some { d := Go.TypeDesc.interface #[], sz := 1, ze := some [.niliface], bytes := 16 } := by kernel_rfl
theorem ty21 : tyT Tryz.prog 21 = some { d := Go.TypeDesc.int (Go.IntKind.i32), sz := 1, ze := some [.int .i32 0], bytes := 4 } := by kernel_rfl
theorem ty22 : tyT Tryz.prog 22 = some { d := Go.TypeDesc.slice 76, sz := 1, ze := some [.nilsl], bytes := 24 } := by kernel_rfl
theorem ty23 : tyT Tryz.prog 23 = some { d := Go.TypeDesc.slice 36, sz := 1, ze := some [.nilsl], bytes := 24 } := by kernel_rfl
theorem ty24 : tyT Tryz.prog 24 = some { d := Go.TypeDesc.slice 56, sz := 1, ze := some [.nilsl], bytes := 24 } := by kernel_rfl
theorem ty25 : tyT Tryz.prog 25 = some { d := Go.TypeDesc.struct #[{ name := "Glyphs", type := 22, offset := 0, embedded := false, tag := "", pkgPath := "", byteOffset := 0 }, { name := "Pages", type := 23, offset := 1, embedded := false, tag := "", pkgPath := "", byteOffset := 24 }, { name := "Cells", type := 24, offset := 2, embedded := false, tag := "", pkgPath := "", byteOffset := 48 }], sz := 3, ze := some [.nilsl, .nilsl, .nilsl], bytes := 72 } := by kernel_rfl
theorem ty26 : tyT Tryz.prog 26 = some { d := Go.TypeDesc.struct #[{ name := "Glyphs", type := 22, offset := 0, embedded := false, tag := "", pkgPath := "", byteOffset := 0 }, { name := "Pages", type := 23, offset := 1, embedded := false, tag := "", pkgPath := "", byteOffset := 24 }, { name := "Cells", type := 24, offset := 2, embedded := false, tag := "", pkgPath := "", byteOffset := 48 }], sz := 3, ze := some [.nilsl, .nilsl, .nilsl], bytes := 72 } := by kernel_rfl
theorem ty27 : tyT Tryz.prog 27 = some { d := Go.TypeDesc.slice 3, sz := 1, ze := some [.nilsl], bytes := 24 } := by kernel_rfl
theorem ty28 : tyT Tryz.prog 28 = some { d := Go.TypeDesc.func #[26] #[4] false, sz := 1, ze := some [.nilfn], bytes := 8 } := by kernel_rfl
theorem ty29 : tyT Tryz.prog 29 = some { d := Go.TypeDesc.func #[] #[4] false, sz := 1, ze := some [.nilfn], bytes := 8 } := by kernel_rfl
theorem ty30 : tyT Tryz.prog 30 = some { d := Go.TypeDesc.pointer 81, sz := 1, ze := some [.nilptr], bytes := 8 } := by kernel_rfl
theorem ty31 : tyT Tryz.prog 31 = some { d := Go.TypeDesc.func #[27] #[30] false, sz := 1, ze := some [.nilfn], bytes := 8 } := by kernel_rfl
theorem ty32 : tyT Tryz.prog 32 = some { d := Go.TypeDesc.slice 26, sz := 1, ze := some [.nilsl], bytes := 24 } := by kernel_rfl
theorem ty33 : tyT Tryz.prog 33 = some { d := Go.TypeDesc.func #[26, 30] #[32] false, sz := 1, ze := some [.nilfn], bytes := 8 } := by kernel_rfl
theorem ty34 : tyT Tryz.prog 34 = some { d := Go.TypeDesc.func #[3] #[3] false, sz := 1, ze := some [.nilfn], bytes := 8 } := by kernel_rfl
theorem ty35 : tyT Tryz.prog 35 = some { d := Go.TypeDesc.func #[26] #[26] false, sz := 1, ze := some [.nilfn], bytes := 8 } := by kernel_rfl
theorem ty36 : tyT Tryz.prog 36 = some { d := Go.TypeDesc.slice 9, sz := 1, ze := some [.nilsl], bytes := 24 } := by kernel_rfl
theorem ty37 : tyT Tryz.prog 37 = some { d := Go.TypeDesc.struct #[{ name := "Page", type := 3, offset := 0, embedded := false, tag := "", pkgPath := "", byteOffset := 0 }, { name := "Turned", type := 4, offset := 1, embedded := false, tag := "", pkgPath := "", byteOffset := 8 }, { name := "Down", type := 3, offset := 2, embedded := false, tag := "", pkgPath := "", byteOffset := 16 }, { name := "Right", type := 3, offset := 3, embedded := false, tag := "", pkgPath := "", byteOffset := 24 }], sz := 4, ze := some [.int .i64 0, .bool false, .int .i64 0, .int .i64 0], bytes := 32 } := by kernel_rfl
theorem ty38 : tyT Tryz.prog 38 = some { d := Go.TypeDesc.struct #[{ name := "Page", type := 3, offset := 0, embedded := false, tag := "", pkgPath := "", byteOffset := 0 }, { name := "Turned", type := 4, offset := 1, embedded := false, tag := "", pkgPath := "", byteOffset := 8 }, { name := "Down", type := 3, offset := 2, embedded := false, tag := "", pkgPath := "", byteOffset := 16 }, { name := "Right", type := 3, offset := 3, embedded := false, tag := "", pkgPath := "", byteOffset := 24 }], sz := 4, ze := some [.int .i64 0, .bool false, .int .i64 0, .int .i64 0], bytes := 32 } := by kernel_rfl
theorem ty39 : tyT Tryz.prog 39 = some { d := Go.TypeDesc.int (Go.IntKind.i64), sz := 1, ze := some [.int .i64 0], bytes := 8 } := by kernel_rfl
theorem ty41 : tyT Tryz.prog 41 = some { d := Go.TypeDesc.func #[26, 3] #[36, 3, 38, 39] false, sz := 1, ze := some [.nilfn], bytes := 8 } := by kernel_rfl
theorem ty42 : tyT Tryz.prog 42 = some { d := Go.TypeDesc.func #[36, 36] #[4] false, sz := 1, ze := some [.nilfn], bytes := 8 } := by kernel_rfl
theorem ty43 : tyT Tryz.prog 43 = some { d := Go.TypeDesc.func #[26, 26] #[4] false, sz := 1, ze := some [.nilfn], bytes := 8 } := by kernel_rfl
theorem ty44 : tyT Tryz.prog 44 = some { d := Go.TypeDesc.func #[26, 3, 27] #[4] false, sz := 1, ze := some [.nilfn], bytes := 8 } := by kernel_rfl
theorem ty45 : tyT Tryz.prog 45 = some { d := Go.TypeDesc.slice 27, sz := 1, ze := some [.nilsl], bytes := 24 } := by kernel_rfl
theorem ty47 : tyT Tryz.prog 47 = some { d := Go.TypeDesc.func #[26] #[45, 39] false, sz := 1, ze := some [.nilfn], bytes := 8 } := by kernel_rfl
theorem ty48 : tyT Tryz.prog 48 = some { d := Go.TypeDesc.func #[45, 45] #[4] false, sz := 1, ze := some [.nilfn], bytes := 8 } := by kernel_rfl
theorem ty49 : tyT Tryz.prog 49 = some { d := Go.TypeDesc.func #[26, 27] #[4] false, sz := 1, ze := some [.nilfn], bytes := 8 } := by kernel_rfl
theorem ty51 : tyT Tryz.prog 51 = some { d := Go.TypeDesc.func #[26, 3, 3] #[3, 3, 39] false, sz := 1, ze := some [.nilfn], bytes := 8 } := by kernel_rfl
theorem ty53 : tyT Tryz.prog 53 = some { d := Go.TypeDesc.func #[26] #[3, 3, 3, 39] false, sz := 1, ze := some [.nilfn], bytes := 8 } := by kernel_rfl
theorem ty54 : tyT Tryz.prog 54 = some { d := Go.TypeDesc.func #[26, 3, 3, 27] #[4] false, sz := 1, ze := some [.nilfn], bytes := 8 } := by kernel_rfl
theorem ty55 : tyT Tryz.prog 55 = some { d := Go.TypeDesc.func #[30, 3] #[38] false, sz := 1, ze := some [.nilfn], bytes := 8 } := by kernel_rfl
theorem ty56 : tyT Tryz.prog 56 = some { d := Go.TypeDesc.slice 86, sz := 1, ze := some [.nilsl], bytes := 24 } := by kernel_rfl
theorem ty57 : tyT Tryz.prog 57 = some { d := Go.TypeDesc.slice 38, sz := 1, ze := some [.nilsl], bytes := 24 } := by kernel_rfl
theorem ty59 : tyT Tryz.prog 59 = some { d := Go.TypeDesc.func #[26, 38, 3, 3] #[3, 39] false, sz := 1, ze := some [.nilfn], bytes := 8 } := by kernel_rfl
theorem ty60 : tyT Tryz.prog 60 = some { d := Go.TypeDesc.func #[3] #[3, 39] false, sz := 1, ze := some [.nilfn], bytes := 8 } := by kernel_rfl
theorem ty61 : tyT Tryz.prog 61 = some { d := Go.TypeDesc.func #[26] #[39] false, sz := 1, ze := some [.nilfn], bytes := 8 } := by kernel_rfl
theorem ty62 : tyT Tryz.prog 62 = some { d := Go.TypeDesc.func #[26, 38, 3, 3, 3, 27] #[4] false, sz := 1, ze := some [.nilfn], bytes := 8 } := by kernel_rfl
theorem ty63 : tyT Tryz.prog 63 = some { d := Go.TypeDesc.func #[26, 38] #[45, 39] false, sz := 1, ze := some [.nilfn], bytes := 8 } := by kernel_rfl
theorem ty65 : tyT Tryz.prog 65 = some { d := Go.TypeDesc.func #[26] #[38, 3, 39] false, sz := 1, ze := some [.nilfn], bytes := 8 } := by kernel_rfl
theorem ty66 : tyT Tryz.prog 66 = some { d := Go.TypeDesc.func #[26, 38, 27] #[4] false, sz := 1, ze := some [.nilfn], bytes := 8 } := by kernel_rfl
theorem ty67 : tyT Tryz.prog 67 = some { d := Go.TypeDesc.func #[26, 3, 3] #[3, 39] false, sz := 1, ze := some [.nilfn], bytes := 8 } := by kernel_rfl
theorem ty69 : tyT Tryz.prog 69 = some { d := Go.TypeDesc.func #[26] #[27, 39] false, sz := 1, ze := some [.nilfn], bytes := 8 } := by kernel_rfl
theorem ty70 : tyT Tryz.prog 70 = some { d := Go.TypeDesc.func #[27, 27] #[4] false, sz := 1, ze := some [.nilfn], bytes := 8 } := by kernel_rfl
theorem ty72 : tyT Tryz.prog 72 = some { d := Go.TypeDesc.func #[26] #[57, 39] false, sz := 1, ze := some [.nilfn], bytes := 8 } := by kernel_rfl
theorem ty73 : tyT Tryz.prog 73 = some { d := Go.TypeDesc.func #[26, 3] #[3, 39] false, sz := 1, ze := some [.nilfn], bytes := 8 } := by kernel_rfl
theorem ty74 : tyT Tryz.prog 74 = some { d := Go.TypeDesc.func #[57, 57] #[4] false, sz := 1, ze := some [.nilfn], bytes := 8 } := by kernel_rfl
theorem ty75 : tyT Tryz.prog 75 = some { d := Go.TypeDesc.struct #[{ name := "Name", type := 9, offset := 0, embedded := false, tag := "", pkgPath := "", byteOffset := 0 }, { name := "Strokes", type := 3, offset := 1, embedded := false, tag := "", pkgPath := "", byteOffset := 16 }], sz := 2, ze := some [.str [], .int .i64 0], bytes := 24 } := by kernel_rfl
theorem ty76 : tyT Tryz.prog 76 = some { d := Go.TypeDesc.struct #[{ name := "Name", type := 9, offset := 0, embedded := false, tag := "", pkgPath := "", byteOffset := 0 }, { name := "Strokes", type := 3, offset := 1, embedded := false, tag := "", pkgPath := "", byteOffset := 16 }], sz := 2, ze := some [.str [], .int .i64 0], bytes := 24 } := by kernel_rfl
theorem ty77 : tyT Tryz.prog 77 = some { d := Go.TypeDesc.func #[] #[26] false, sz := 1, ze := some [.nilfn], bytes := 8 } := by kernel_rfl
theorem ty78 : tyT Tryz.prog 78 = some { d := Go.TypeDesc.func #[3, 3, 3] #[38] false, sz := 1, ze := some [.nilfn], bytes := 8 } := by kernel_rfl
theorem ty79 : tyT Tryz.prog 79 = some { d := Go.TypeDesc.int (Go.IntKind.u64), sz := 1, ze := some [.int .u64 0], bytes := 8 } := by kernel_rfl
theorem ty80 : tyT Tryz.prog 80 = some { d := Go.TypeDesc.struct #[{ name := "rest", type := 27, offset := 0, embedded := false, tag := "", pkgPath := "maculature/maculaturekit", byteOffset := 0 }, { name := "last", type := 79, offset := 1, embedded := false, tag := "", pkgPath := "maculature/maculaturekit", byteOffset := 24 }], sz := 2, ze := some [.nilsl, .int .u64 0], bytes := 32 } := by kernel_rfl
theorem ty81 : tyT Tryz.prog 81 = some { d := Go.TypeDesc.struct #[{ name := "rest", type := 27, offset := 0, embedded := false, tag := "", pkgPath := "maculature/maculaturekit", byteOffset := 0 }, { name := "last", type := 79, offset := 1, embedded := false, tag := "", pkgPath := "maculature/maculaturekit", byteOffset := 24 }], sz := 2, ze := some [.nilsl, .int .u64 0], bytes := 32 } := by kernel_rfl
theorem ty82 : tyT Tryz.prog 82 = some { d := Go.TypeDesc.func #[30, 3, 3, 3, 3] #[26] false, sz := 1, ze := some [.nilfn], bytes := 8 } := by kernel_rfl
theorem ty83 : tyT Tryz.prog 83 = some { d := Go.TypeDesc.func #[3] #[4] false, sz := 1, ze := some [.nilfn], bytes := 8 } := by kernel_rfl
theorem ty84 : tyT Tryz.prog 84 = some { d := Go.TypeDesc.func #[36] #[36] false, sz := 1, ze := some [.nilfn], bytes := 8 } := by kernel_rfl
theorem ty85 : tyT Tryz.prog 85 = some { d := Go.TypeDesc.struct #[{ name := "Seen", type := 3, offset := 0, embedded := false, tag := "", pkgPath := "", byteOffset := 0 }, { name := "Bare", type := 3, offset := 1, embedded := false, tag := "", pkgPath := "", byteOffset := 8 }], sz := 2, ze := some [.int .i64 0, .int .i64 0], bytes := 16 } := by kernel_rfl
theorem ty86 : tyT Tryz.prog 86 = some { d := Go.TypeDesc.struct #[{ name := "Seen", type := 3, offset := 0, embedded := false, tag := "", pkgPath := "", byteOffset := 0 }, { name := "Bare", type := 3, offset := 1, embedded := false, tag := "", pkgPath := "", byteOffset := 8 }], sz := 2, ze := some [.int .i64 0, .int .i64 0], bytes := 16 } := by kernel_rfl
theorem ty87 : tyT Tryz.prog 87 = some { d := Go.TypeDesc.func #[] #[79] false, sz := 1, ze := some [.nilfn], bytes := 8 } := by kernel_rfl
theorem ty88 : tyT Tryz.prog 88 = some { d := Go.TypeDesc.int (Go.IntKind.u64), sz := 1, ze := some [.int .u64 0], bytes := 8 } := by kernel_rfl
theorem ty89 : tyT Tryz.prog 89 = some { d := Go.TypeDesc.map 21 110, sz := 1, ze := some [.nilmap], bytes := 8 } := by kernel_rfl
theorem ty90 : tyT Tryz.prog 90 = some { d := Go.TypeDesc.struct #[{ name := "Board", type := 26, offset := 0, embedded := true, tag := "", pkgPath := "", byteOffset := 0 }, { name := "strokes", type := 89, offset := 3, embedded := false, tag := "", pkgPath := "maculature/offset", byteOffset := 72 }], sz := 4, ze := some [.nilsl, .nilsl, .nilsl, .nilmap], bytes := 80 } := by kernel_rfl
theorem ty91 : tyT Tryz.prog 91 = some { d := Go.TypeDesc.struct #[{ name := "Board", type := 26, offset := 0, embedded := true, tag := "", pkgPath := "", byteOffset := 0 }, { name := "strokes", type := 89, offset := 3, embedded := false, tag := "", pkgPath := "maculature/offset", byteOffset := 72 }], sz := 4, ze := some [.nilsl, .nilsl, .nilsl, .nilmap], bytes := 80 } := by kernel_rfl
theorem ty93 : tyT Tryz.prog 93 = some { d := Go.TypeDesc.func #[26] #[91, 39] false, sz := 1, ze := some [.nilfn], bytes := 8 } := by kernel_rfl
theorem ty94 : tyT Tryz.prog 94 = some { d := Go.TypeDesc.struct #[{ name := "rows", type := 36, offset := 0, embedded := false, tag := "", pkgPath := "maculature/offset", byteOffset := 0 }, { name := "letters", type := 3, offset := 1, embedded := false, tag := "", pkgPath := "maculature/offset", byteOffset := 24 }, { name := "way", type := 38, offset := 2, embedded := false, tag := "", pkgPath := "maculature/offset", byteOffset := 32 }], sz := 6, ze := some [.nilsl, .int .i64 0, .int .i64 0, .bool false, .int .i64 0, .int .i64 0], bytes := 64 } := by kernel_rfl
theorem ty95 : tyT Tryz.prog 95 = some { d := Go.TypeDesc.struct #[{ name := "rows", type := 36, offset := 0, embedded := false, tag := "", pkgPath := "maculature/offset", byteOffset := 0 }, { name := "letters", type := 3, offset := 1, embedded := false, tag := "", pkgPath := "maculature/offset", byteOffset := 24 }, { name := "way", type := 38, offset := 2, embedded := false, tag := "", pkgPath := "maculature/offset", byteOffset := 32 }], sz := 6, ze := some [.nilsl, .int .i64 0, .int .i64 0, .bool false, .int .i64 0, .int .i64 0], bytes := 64 } := by kernel_rfl
theorem ty96 : tyT Tryz.prog 96 = some { d := Go.TypeDesc.func #[95] #[3] false, sz := 1, ze := some [.nilfn], bytes := 8 } := by kernel_rfl
theorem ty97 : tyT Tryz.prog 97 = some { d := Go.TypeDesc.struct #[{ name := "best", type := 95, offset := 0, embedded := false, tag := "", pkgPath := "maculature/offset", byteOffset := 0 }, { name := "faults", type := 3, offset := 6, embedded := false, tag := "", pkgPath := "maculature/offset", byteOffset := 64 }, { name := "some", type := 4, offset := 7, embedded := false, tag := "", pkgPath := "maculature/offset", byteOffset := 72 }, { name := "count", type := 96, offset := 8, embedded := false, tag := "", pkgPath := "maculature/offset", byteOffset := 80 }], sz := 9, ze := some [.nilsl, .int .i64 0, .int .i64 0, .bool false, .int .i64 0, .int .i64 0, .int .i64 0, .bool false, .nilfn], bytes := 88 } := by kernel_rfl
theorem ty98 : tyT Tryz.prog 98 = some { d := Go.TypeDesc.struct #[{ name := "best", type := 95, offset := 0, embedded := false, tag := "", pkgPath := "maculature/offset", byteOffset := 0 }, { name := "faults", type := 3, offset := 6, embedded := false, tag := "", pkgPath := "maculature/offset", byteOffset := 64 }, { name := "some", type := 4, offset := 7, embedded := false, tag := "", pkgPath := "maculature/offset", byteOffset := 72 }, { name := "count", type := 96, offset := 8, embedded := false, tag := "", pkgPath := "maculature/offset", byteOffset := 80 }], sz := 9, ze := some [.nilsl, .int .i64 0, .int .i64 0, .bool false, .int .i64 0, .int .i64 0, .int .i64 0, .bool false, .nilfn], bytes := 88 } := by kernel_rfl
theorem ty99 : tyT Tryz.prog 99 = some { d := Go.TypeDesc.func #[166] #[] false, sz := 1, ze := some [.nilfn], bytes := 8 } := by kernel_rfl
theorem ty100 : tyT Tryz.prog 100 = some { d := Go.TypeDesc.func #[166] #[] false, sz := 1, ze := some [.nilfn], bytes := 8 } := by kernel_rfl
theorem ty101 : tyT Tryz.prog 101 = some { d := Go.TypeDesc.func #[3] #[100] false, sz := 1, ze := some [.nilfn], bytes := 8 } := by kernel_rfl
theorem ty103 : tyT Tryz.prog 103 = some { d := Go.TypeDesc.func #[38] #[95, 4] false, sz := 1, ze := some [.nilfn], bytes := 8 } := by kernel_rfl
theorem ty104 : tyT Tryz.prog 104 = some { d := Go.TypeDesc.func #[95] #[] false, sz := 1, ze := some [.nilfn], bytes := 8 } := by kernel_rfl
theorem ty105 : tyT Tryz.prog 105 = some { d := Go.TypeDesc.func #[26, 38] #[39] false, sz := 1, ze := some [.nilfn], bytes := 8 } := by kernel_rfl
theorem ty106 : tyT Tryz.prog 106 = some { d := Go.TypeDesc.func #[3] #[57] false, sz := 1, ze := some [.nilfn], bytes := 8 } := by kernel_rfl
theorem ty108 : tyT Tryz.prog 108 = some { d := Go.TypeDesc.func #[26, 38] #[36, 3, 4] false, sz := 1, ze := some [.nilfn], bytes := 8 } := by kernel_rfl
theorem ty109 : tyT Tryz.prog 109 = some { d := Go.TypeDesc.map 113 4, sz := 1, ze := some [.nilmap], bytes := 8 } := by kernel_rfl
theorem ty110 : tyT Tryz.prog 110 = some { d := Go.TypeDesc.int (Go.IntKind.i64), sz := 1, ze := some [.int .i64 0], bytes := 8 } := by kernel_rfl
theorem ty111 : tyT Tryz.prog 111 = some { d := Go.TypeDesc.array 4 110, sz := 4, ze := some [.int .i64 0, .int .i64 0, .int .i64 0, .int .i64 0], bytes := 32 } := by kernel_rfl
theorem ty112 : tyT Tryz.prog 112 = some { d := Go.TypeDesc.array 3 111, sz := 12, ze := some [.int .i64 0, .int .i64 0, .int .i64 0, .int .i64 0, .int .i64 0, .int .i64 0, .int .i64 0, .int .i64 0, .int .i64 0, .int .i64 0, .int .i64 0, .int .i64 0], bytes := 96 } := by kernel_rfl
theorem ty113 : tyT Tryz.prog 113 = some { d := Go.TypeDesc.array 3 111, sz := 12, ze := some [.int .i64 0, .int .i64 0, .int .i64 0, .int .i64 0, .int .i64 0, .int .i64 0, .int .i64 0, .int .i64 0, .int .i64 0, .int .i64 0, .int .i64 0, .int .i64 0], bytes := 96 } := by kernel_rfl
theorem ty114 : tyT Tryz.prog 114 = some { d := Go.TypeDesc.func #[26, 38, 38] #[4] false, sz := 1, ze := some [.nilfn], bytes := 8 } := by kernel_rfl
theorem ty115 : tyT Tryz.prog 115 = some { d := Go.TypeDesc.func #[3, 3] #[4] false, sz := 1, ze := some [.nilfn], bytes := 8 } := by kernel_rfl
theorem ty116 : tyT Tryz.prog 116 = some { d := Go.TypeDesc.slice 113, sz := 1, ze := some [.nilsl], bytes := 24 } := by kernel_rfl
theorem ty118 : tyT Tryz.prog 118 = some { d := Go.TypeDesc.func #[] #[57, 116] false, sz := 1, ze := some [.nilfn], bytes := 8 } := by kernel_rfl
theorem ty119 : tyT Tryz.prog 119 = some { d := Go.TypeDesc.func #[26, 3, 3] #[4] false, sz := 1, ze := some [.nilfn], bytes := 8 } := by kernel_rfl
theorem ty120 : tyT Tryz.prog 120 = some { d := Go.TypeDesc.func #[26] #[57] false, sz := 1, ze := some [.nilfn], bytes := 8 } := by kernel_rfl
theorem ty121 : tyT Tryz.prog 121 = some { d := Go.TypeDesc.func #[26, 38, 3, 3] #[3] false, sz := 1, ze := some [.nilfn], bytes := 8 } := by kernel_rfl
theorem ty122 : tyT Tryz.prog 122 = some { d := Go.TypeDesc.array 2 3, sz := 2, ze := some [.int .i64 0, .int .i64 0], bytes := 16 } := by kernel_rfl
theorem ty123 : tyT Tryz.prog 123 = some { d := Go.TypeDesc.map 110 3, sz := 1, ze := some [.nilmap], bytes := 8 } := by kernel_rfl
theorem ty124 : tyT Tryz.prog 124 = some { d := Go.TypeDesc.func #[122] #[3] false, sz := 1, ze := some [.nilfn], bytes := 8 } := by kernel_rfl
theorem ty125 : tyT Tryz.prog 125 = some { d := Go.TypeDesc.struct #[{ name := "best", type := 122, offset := 0, embedded := false, tag := "", pkgPath := "maculature/offset", byteOffset := 0 }, { name := "faults", type := 3, offset := 2, embedded := false, tag := "", pkgPath := "maculature/offset", byteOffset := 16 }, { name := "some", type := 4, offset := 3, embedded := false, tag := "", pkgPath := "maculature/offset", byteOffset := 24 }, { name := "count", type := 124, offset := 4, embedded := false, tag := "", pkgPath := "maculature/offset", byteOffset := 32 }], sz := 5, ze := some [.int .i64 0, .int .i64 0, .int .i64 0, .bool false, .nilfn], bytes := 40 } := by kernel_rfl
theorem ty126 : tyT Tryz.prog 126 = some { d := Go.TypeDesc.struct #[{ name := "best", type := 122, offset := 0, embedded := false, tag := "", pkgPath := "maculature/offset", byteOffset := 0 }, { name := "faults", type := 3, offset := 2, embedded := false, tag := "", pkgPath := "maculature/offset", byteOffset := 16 }, { name := "some", type := 4, offset := 3, embedded := false, tag := "", pkgPath := "maculature/offset", byteOffset := 24 }, { name := "count", type := 124, offset := 4, embedded := false, tag := "", pkgPath := "maculature/offset", byteOffset := 32 }], sz := 5, ze := some [.int .i64 0, .int .i64 0, .int .i64 0, .bool false, .nilfn], bytes := 40 } := by kernel_rfl
theorem ty127 : tyT Tryz.prog 127 = some { d := Go.TypeDesc.func #[122] #[] false, sz := 1, ze := some [.nilfn], bytes := 8 } := by kernel_rfl
theorem ty128 : tyT Tryz.prog 128 = some { d := Go.TypeDesc.func #[26, 57, 3, 3] #[3] false, sz := 1, ze := some [.nilfn], bytes := 8 } := by kernel_rfl
theorem ty129 : tyT Tryz.prog 129 = some { d := Go.TypeDesc.func #[27] #[3] true, sz := 1, ze := some [.nilfn], bytes := 8 } := by kernel_rfl
theorem ty130 : tyT Tryz.prog 130 = some { d := Go.TypeDesc.func #[3, 3] #[3] false, sz := 1, ze := some [.nilfn], bytes := 8 } := by kernel_rfl
theorem ty131 : tyT Tryz.prog 131 = some { d := Go.TypeDesc.func #[38] #[39] false, sz := 1, ze := some [.nilfn], bytes := 8 } := by kernel_rfl
theorem ty132 : tyT Tryz.prog 132 = some { d := Go.TypeDesc.func #[38, 3, 3] #[110] false, sz := 1, ze := some [.nilfn], bytes := 8 } := by kernel_rfl
theorem ty133 : tyT Tryz.prog 133 = some { d := Go.TypeDesc.func #[] #[110] false, sz := 1, ze := some [.nilfn], bytes := 8 } := by kernel_rfl
theorem ty134 : tyT Tryz.prog 134 = some { d := Go.TypeDesc.func #[3, 3, 3] #[4] false, sz := 1, ze := some [.nilfn], bytes := 8 } := by kernel_rfl
theorem ty135 : tyT Tryz.prog 135 = some { d := Go.TypeDesc.func #[138] #[39] false, sz := 1, ze := some [.nilfn], bytes := 8 } := by kernel_rfl
theorem ty136 : tyT Tryz.prog 136 = some { d := Go.TypeDesc.slice 184, sz := 1, ze := some [.nilsl], bytes := 24 } := by kernel_rfl
theorem ty137 : tyT Tryz.prog 137 = some { d := Go.TypeDesc.struct #[{ name := "Glyphs", type := 22, offset := 0, embedded := false, tag := "", pkgPath := "", byteOffset := 0 }, { name := "Lights", type := 45, offset := 1, embedded := false, tag := "", pkgPath := "", byteOffset := 24 }, { name := "Cells", type := 136, offset := 2, embedded := false, tag := "", pkgPath := "", byteOffset := 48 }], sz := 3, ze := some [.nilsl, .nilsl, .nilsl], bytes := 72 } := by kernel_rfl
theorem ty138 : tyT Tryz.prog 138 = some { d := Go.TypeDesc.struct #[{ name := "Glyphs", type := 22, offset := 0, embedded := false, tag := "", pkgPath := "", byteOffset := 0 }, { name := "Lights", type := 45, offset := 1, embedded := false, tag := "", pkgPath := "", byteOffset := 24 }, { name := "Cells", type := 136, offset := 2, embedded := false, tag := "", pkgPath := "", byteOffset := 48 }], sz := 3, ze := some [.nilsl, .nilsl, .nilsl], bytes := 72 } := by kernel_rfl
theorem ty139 : tyT Tryz.prog 139 = some { d := Go.TypeDesc.func #[22, 36] #[39] false, sz := 1, ze := some [.nilfn], bytes := 8 } := by kernel_rfl
theorem ty140 : tyT Tryz.prog 140 = some { d := Go.TypeDesc.func #[24] #[39] false, sz := 1, ze := some [.nilfn], bytes := 8 } := by kernel_rfl
theorem ty141 : tyT Tryz.prog 141 = some { d := Go.TypeDesc.func #[113] #[45] false, sz := 1, ze := some [.nilfn], bytes := 8 } := by kernel_rfl
theorem ty142 : tyT Tryz.prog 142 = some { d := Go.TypeDesc.func #[38] #[113] false, sz := 1, ze := some [.nilfn], bytes := 8 } := by kernel_rfl
theorem ty143 : tyT Tryz.prog 143 = some { d := Go.TypeDesc.func #[26, 38] #[45] false, sz := 1, ze := some [.nilfn], bytes := 8 } := by kernel_rfl
theorem ty144 : tyT Tryz.prog 144 = some { d := Go.TypeDesc.func #[38] #[3] false, sz := 1, ze := some [.nilfn], bytes := 8 } := by kernel_rfl
theorem ty145 : tyT Tryz.prog 145 = some { d := Go.TypeDesc.struct #[{ name := "best", type := 38, offset := 0, embedded := false, tag := "", pkgPath := "maculature/offset", byteOffset := 0 }, { name := "faults", type := 3, offset := 4, embedded := false, tag := "", pkgPath := "maculature/offset", byteOffset := 32 }, { name := "some", type := 4, offset := 5, embedded := false, tag := "", pkgPath := "maculature/offset", byteOffset := 40 }, { name := "count", type := 144, offset := 6, embedded := false, tag := "", pkgPath := "maculature/offset", byteOffset := 48 }], sz := 7, ze := some [.int .i64 0, .bool false, .int .i64 0, .int .i64 0, .int .i64 0, .bool false, .nilfn], bytes := 56 } := by kernel_rfl
theorem ty146 : tyT Tryz.prog 146 = some { d := Go.TypeDesc.struct #[{ name := "best", type := 38, offset := 0, embedded := false, tag := "", pkgPath := "maculature/offset", byteOffset := 0 }, { name := "faults", type := 3, offset := 4, embedded := false, tag := "", pkgPath := "maculature/offset", byteOffset := 32 }, { name := "some", type := 4, offset := 5, embedded := false, tag := "", pkgPath := "maculature/offset", byteOffset := 40 }, { name := "count", type := 144, offset := 6, embedded := false, tag := "", pkgPath := "maculature/offset", byteOffset := 48 }], sz := 7, ze := some [.int .i64 0, .bool false, .int .i64 0, .int .i64 0, .int .i64 0, .bool false, .nilfn], bytes := 56 } := by kernel_rfl
theorem ty147 : tyT Tryz.prog 147 = some { d := Go.TypeDesc.func #[] #[100] false, sz := 1, ze := some [.nilfn], bytes := 8 } := by kernel_rfl
theorem ty148 : tyT Tryz.prog 148 = some { d := Go.TypeDesc.func #[38] #[] false, sz := 1, ze := some [.nilfn], bytes := 8 } := by kernel_rfl
theorem ty149 : tyT Tryz.prog 149 = some { d := Go.TypeDesc.func #[26, 3, 3] #[3] false, sz := 1, ze := some [.nilfn], bytes := 8 } := by kernel_rfl
theorem ty150 : tyT Tryz.prog 150 = some { d := Go.TypeDesc.func #[86] #[4] false, sz := 1, ze := some [.nilfn], bytes := 8 } := by kernel_rfl
theorem ty151 : tyT Tryz.prog 151 = some { d := Go.TypeDesc.func #[24, 153] #[4] false, sz := 1, ze := some [.nilfn], bytes := 8 } := by kernel_rfl
theorem ty152 : tyT Tryz.prog 152 = some { d := Go.TypeDesc.func #[56, 150] #[4] false, sz := 1, ze := some [.nilfn], bytes := 8 } := by kernel_rfl
theorem ty153 : tyT Tryz.prog 153 = some { d := Go.TypeDesc.func #[56] #[4] false, sz := 1, ze := some [.nilfn], bytes := 8 } := by kernel_rfl
theorem ty154 : tyT Tryz.prog 154 = some { d := Go.TypeDesc.func #[] #[27] false, sz := 1, ze := some [.nilfn], bytes := 8 } := by kernel_rfl
theorem ty155 : tyT Tryz.prog 155 = some { d := Go.TypeDesc.func #[57] #[27] false, sz := 1, ze := some [.nilfn], bytes := 8 } := by kernel_rfl
theorem ty156 : tyT Tryz.prog 156 = some { d := Go.TypeDesc.func #[27, 3] #[4] false, sz := 1, ze := some [.nilfn], bytes := 8 } := by kernel_rfl
theorem ty157 : tyT Tryz.prog 157 = some { d := Go.TypeDesc.func #[86, 86, 86, 86] #[26] false, sz := 1, ze := some [.nilfn], bytes := 8 } := by kernel_rfl
theorem ty158 : tyT Tryz.prog 158 = some { d := Go.TypeDesc.func #[30, 26, 38, 38] #[26] false, sz := 1, ze := some [.nilfn], bytes := 8 } := by kernel_rfl
theorem ty159 : tyT Tryz.prog 159 = some { d := Go.TypeDesc.struct #[{ name := "e", type := 39, offset := 0, embedded := false, tag := "", pkgPath := "maculature/offset", byteOffset := 0 }], sz := 1, ze := some [.int .i64 0], bytes := 8 } := by kernel_rfl
theorem ty160 : tyT Tryz.prog 160 = some { d := Go.TypeDesc.struct #[{ name := "e", type := 39, offset := 0, embedded := false, tag := "", pkgPath := "maculature/offset", byteOffset := 0 }], sz := 1, ze := some [.int .i64 0], bytes := 8 } := by kernel_rfl
theorem ty162 : tyT Tryz.prog 162 = some { d := Go.TypeDesc.func #[39] #[] false, sz := 1, ze := some [.nilfn], bytes := 8 } := by kernel_rfl
theorem ty163 : tyT Tryz.prog 163 = some { d := Go.TypeDesc.func #[3, 3] #[39] false, sz := 1, ze := some [.nilfn], bytes := 8 } := by kernel_rfl
theorem ty164 : tyT Tryz.prog 164 = some { d := Go.TypeDesc.func #[36] #[] false, sz := 1, ze := some [.nilfn], bytes := 8 } := by kernel_rfl
theorem ty165 : tyT Tryz.prog 165 = some { d := Go.TypeDesc.func #[24] #[] false, sz := 1, ze := some [.nilfn], bytes := 8 } := by kernel_rfl
theorem ty166 : tyT Tryz.prog 166 = some { d := Go.TypeDesc.func #[38, 113] #[4] false, sz := 1, ze := some [.nilfn], bytes := 8 } := by kernel_rfl
theorem ty167 : tyT Tryz.prog 167 = some { d := Go.TypeDesc.slice 168, sz := 1, ze := some [.nilsl], bytes := 24 } := by kernel_rfl
theorem ty168 : tyT Tryz.prog 168 = some { d := Go.TypeDesc.slice 5, sz := 1, ze := some [.nilsl], bytes := 24 } := by kernel_rfl
theorem ty170 : tyT Tryz.prog 170 = some { d := Go.TypeDesc.func #[38, 3, 3] #[3, 3, 4] false, sz := 1, ze := some [.nilfn], bytes := 8 } := by kernel_rfl
theorem ty172 : tyT Tryz.prog 172 = some { d := Go.TypeDesc.func #[38, 3, 3] #[5, 4] false, sz := 1, ze := some [.nilfn], bytes := 8 } := by kernel_rfl
theorem ty173 : tyT Tryz.prog 173 = some { d := Go.TypeDesc.pointer 98, sz := 1, ze := some [.nilptr], bytes := 8 } := by kernel_rfl
theorem ty174 : tyT Tryz.prog 174 = some { d := Go.TypeDesc.func #[26, 38, 3, 3] #[3, 3, 4] false, sz := 1, ze := some [.nilfn], bytes := 8 } := by kernel_rfl
theorem ty175 : tyT Tryz.prog 175 = some { d := Go.TypeDesc.func #[26, 3, 3, 3] #[4] false, sz := 1, ze := some [.nilfn], bytes := 8 } := by kernel_rfl
theorem ty176 : tyT Tryz.prog 176 = some { d := Go.TypeDesc.func #[26, 38, 3] #[3] false, sz := 1, ze := some [.nilfn], bytes := 8 } := by kernel_rfl
theorem ty178 : tyT Tryz.prog 178 = some { d := Go.TypeDesc.func #[22, 9] #[3, 4] false, sz := 1, ze := some [.nilfn], bytes := 8 } := by kernel_rfl
theorem ty179 : tyT Tryz.prog 179 = some { d := Go.TypeDesc.pointer 126, sz := 1, ze := some [.nilptr], bytes := 8 } := by kernel_rfl
theorem ty180 : tyT Tryz.prog 180 = some { d := Go.TypeDesc.func #[38, 110] #[110] false, sz := 1, ze := some [.nilfn], bytes := 8 } := by kernel_rfl
theorem ty181 : tyT Tryz.prog 181 = some { d := Go.TypeDesc.array 6 110, sz := 6, ze := some [.int .i64 0, .int .i64 0, .int .i64 0, .int .i64 0, .int .i64 0, .int .i64 0], bytes := 48 } := by kernel_rfl
theorem ty182 : tyT Tryz.prog 182 = some { d := Go.TypeDesc.func #[22] #[39] false, sz := 1, ze := some [.nilfn], bytes := 8 } := by kernel_rfl
theorem ty183 : tyT Tryz.prog 183 = some { d := Go.TypeDesc.func #[45] #[39] false, sz := 1, ze := some [.nilfn], bytes := 8 } := by kernel_rfl
theorem ty184 : tyT Tryz.prog 184 = some { d := Go.TypeDesc.slice 187, sz := 1, ze := some [.nilsl], bytes := 24 } := by kernel_rfl
theorem ty185 : tyT Tryz.prog 185 = some { d := Go.TypeDesc.func #[138, 184, 187] #[39] false, sz := 1, ze := some [.nilfn], bytes := 8 } := by kernel_rfl
theorem ty186 : tyT Tryz.prog 186 = some { d := Go.TypeDesc.struct #[{ name := "Light", type := 3, offset := 0, embedded := false, tag := "", pkgPath := "", byteOffset := 0 }, { name := "Seen", type := 3, offset := 1, embedded := false, tag := "", pkgPath := "", byteOffset := 8 }, { name := "Bare", type := 3, offset := 2, embedded := false, tag := "", pkgPath := "", byteOffset := 16 }], sz := 3, ze := some [.int .i64 0, .int .i64 0, .int .i64 0], bytes := 24 } := by kernel_rfl
theorem ty187 : tyT Tryz.prog 187 = some { d := Go.TypeDesc.struct #[{ name := "Light", type := 3, offset := 0, embedded := false, tag := "", pkgPath := "", byteOffset := 0 }, { name := "Seen", type := 3, offset := 1, embedded := false, tag := "", pkgPath := "", byteOffset := 8 }, { name := "Bare", type := 3, offset := 2, embedded := false, tag := "", pkgPath := "", byteOffset := 16 }], sz := 3, ze := some [.int .i64 0, .int .i64 0, .int .i64 0], bytes := 24 } := by kernel_rfl
theorem ty188 : tyT Tryz.prog 188 = some { d := Go.TypeDesc.func #[113, 3, 3] #[4] false, sz := 1, ze := some [.nilfn], bytes := 8 } := by kernel_rfl
theorem ty189 : tyT Tryz.prog 189 = some { d := Go.TypeDesc.pointer 146, sz := 1, ze := some [.nilptr], bytes := 8 } := by kernel_rfl
theorem ty190 : tyT Tryz.prog 190 = some { d := Go.TypeDesc.chan (Go.ChanDir.both) 4, sz := 1, ze := some [.any], bytes := 8 } := by kernel_rfl
theorem ty191 : tyT Tryz.prog 191 = some { d := Go.TypeDesc.func #[113, 113] #[4] false, sz := 1, ze := some [.nilfn], bytes := 8 } := by kernel_rfl
theorem ty192 : tyT Tryz.prog 192 = some { d := Go.TypeDesc.func #[24, 153] #[3] false, sz := 1, ze := some [.nilfn], bytes := 8 } := by kernel_rfl
theorem ty193 : tyT Tryz.prog 193 = some { d := Go.TypeDesc.func #[56, 150] #[3] false, sz := 1, ze := some [.nilfn], bytes := 8 } := by kernel_rfl
theorem ty194 : tyT Tryz.prog 194 = some { d := Go.TypeDesc.func #[27] #[27] false, sz := 1, ze := some [.nilfn], bytes := 8 } := by kernel_rfl
theorem ty195 : tyT Tryz.prog 195 = some { d := Go.TypeDesc.func #[27, 3] #[3] false, sz := 1, ze := some [.nilfn], bytes := 8 } := by kernel_rfl
theorem ty196 : tyT Tryz.prog 196 = some { d := Go.TypeDesc.func #[30, 3] #[22] false, sz := 1, ze := some [.nilfn], bytes := 8 } := by kernel_rfl
theorem ty197 : tyT Tryz.prog 197 = some { d := Go.TypeDesc.func #[30, 22, 3, 3] #[36] false, sz := 1, ze := some [.nilfn], bytes := 8 } := by kernel_rfl
theorem ty198 : tyT Tryz.prog 198 = some { d := Go.TypeDesc.array 3 135, sz := 3, ze := some [.nilfn, .nilfn, .nilfn], bytes := 24 } := by kernel_rfl
theorem ty200 : tyT Tryz.prog 200 = some { d := Go.TypeDesc.func #[110] #[110] false, sz := 1, ze := some [.nilfn], bytes := 8 } := by kernel_rfl
theorem ty201 : tyT Tryz.prog 201 = some { d := Go.TypeDesc.array 2 200, sz := 2, ze := some [.nilfn, .nilfn], bytes := 16 } := by kernel_rfl
theorem ty202 : tyT Tryz.prog 202 = some { d := Go.TypeDesc.func #[3] #[27] false, sz := 1, ze := some [.nilfn], bytes := 8 } := by kernel_rfl
theorem ty203 : tyT Tryz.prog 203 = some { d := Go.TypeDesc.func #[26, 3, 3, 3] #[3] false, sz := 1, ze := some [.nilfn], bytes := 8 } := by kernel_rfl
theorem ty204 : tyT Tryz.prog 204 = some { d := Go.TypeDesc.func #[22, 205] #[4] false, sz := 1, ze := some [.nilfn], bytes := 8 } := by kernel_rfl
theorem ty205 : tyT Tryz.prog 205 = some { d := Go.TypeDesc.func #[76] #[4] false, sz := 1, ze := some [.nilfn], bytes := 8 } := by kernel_rfl
theorem ty206 : tyT Tryz.prog 206 = some { d := Go.TypeDesc.func #[3, 45] #[3] false, sz := 1, ze := some [.nilfn], bytes := 8 } := by kernel_rfl
theorem ty207 : tyT Tryz.prog 207 = some { d := Go.TypeDesc.func #[22, 205] #[3] false, sz := 1, ze := some [.nilfn], bytes := 8 } := by kernel_rfl
theorem ty209 : tyT Tryz.prog 209 = some { d := Go.TypeDesc.func #[138, 184, 187] #[] false, sz := 1, ze := some [.nilfn], bytes := 8 } := by kernel_rfl
theorem ty210 : tyT Tryz.prog 210 = some { d := Go.TypeDesc.int (Go.IntKind.i64), sz := 1, ze := some [.int .i64 0], bytes := 8 } := by kernel_rfl
theorem ty211 : tyT Tryz.prog 211 = some { d := Go.TypeDesc.func #[] #[210] false, sz := 1, ze := some [.nilfn], bytes := 8 } := by kernel_rfl
theorem ty212 : tyT Tryz.prog 212 = some { d := Go.TypeDesc.func #[184, 213] #[4] false, sz := 1, ze := some [.nilfn], bytes := 8 } := by kernel_rfl
theorem ty213 : tyT Tryz.prog 213 = some { d := Go.TypeDesc.func #[187] #[4] false, sz := 1, ze := some [.nilfn], bytes := 8 } := by kernel_rfl
theorem ty214 : tyT Tryz.prog 214 = some { d := Go.TypeDesc.func #[210] #[4] false, sz := 1, ze := some [.nilfn], bytes := 8 } := by kernel_rfl
theorem ty215 : tyT Tryz.prog 215 = some { d := Go.TypeDesc.func #[184, 213] #[3] false, sz := 1, ze := some [.nilfn], bytes := 8 } := by kernel_rfl
theorem ty216 : tyT Tryz.prog 216 = some { d := Go.TypeDesc.func #[] #[9] false, sz := 1, ze := some [.nilfn], bytes := 8 } := by kernel_rfl
theorem ty217 : tyT Tryz.prog 217 = some { d := Go.TypeDesc.struct #[{ name := "_interface", type := 17, offset := 0, embedded := false, tag := "", pkgPath := "runtime", byteOffset := 0 }, { name := "concrete", type := 17, offset := 1, embedded := false, tag := "", pkgPath := "runtime", byteOffset := 8 }, { name := "asserted", type := 17, offset := 2, embedded := false, tag := "", pkgPath := "runtime", byteOffset := 16 }, { name := "missingMethod", type := 9, offset := 3, embedded := false, tag := "", pkgPath := "runtime", byteOffset := 24 }], sz := 4, ze := some [.nilptr, .nilptr, .nilptr, .str []], bytes := 40 } := by kernel_rfl
theorem ty218 : tyT Tryz.prog 218 = some { d := Go.TypeDesc.struct #[{ name := "_interface", type := 17, offset := 0, embedded := false, tag := "", pkgPath := "runtime", byteOffset := 0 }, { name := "concrete", type := 17, offset := 1, embedded := false, tag := "", pkgPath := "runtime", byteOffset := 8 }, { name := "asserted", type := 17, offset := 2, embedded := false, tag := "", pkgPath := "runtime", byteOffset := 16 }, { name := "missingMethod", type := 9, offset := 3, embedded := false, tag := "", pkgPath := "runtime", byteOffset := 24 }], sz := 4, ze := some [.nilptr, .nilptr, .nilptr, .str []], bytes := 40 } := by kernel_rfl
theorem ty219 : tyT Tryz.prog 219 = some { d := Go.TypeDesc.array 0 16, sz := 0, ze := some [], bytes := 0 } := by kernel_rfl
theorem ty220 : tyT Tryz.prog 220 = some { d := Go.TypeDesc.struct #[{ name := "_", type := 219, offset := 0, embedded := false, tag := "", pkgPath := "runtime", byteOffset := 0 }], sz := 0, ze := some [], bytes := 0 } := by kernel_rfl
theorem ty221 : tyT Tryz.prog 221 = some { d := Go.TypeDesc.struct #[{ name := "_", type := 219, offset := 0, embedded := false, tag := "", pkgPath := "runtime", byteOffset := 0 }], sz := 0, ze := some [], bytes := 0 } := by kernel_rfl
theorem ty222 : tyT Tryz.prog 222 = some { d := Go.TypeDesc.func #[] #[3] false, sz := 1, ze := some [.nilfn], bytes := 8 } := by kernel_rfl
theorem ty223 : tyT Tryz.prog 223 = some { d := Go.TypeDesc.int (Go.IntKind.u32), sz := 1, ze := some [.int .u32 0], bytes := 4 } := by kernel_rfl
theorem ty224 : tyT Tryz.prog 224 = some { d := Go.TypeDesc.int (Go.IntKind.u8), sz := 1, ze := some [.int .u8 0], bytes := 1 } := by kernel_rfl
theorem ty225 : tyT Tryz.prog 225 = some { d := Go.TypeDesc.int (Go.IntKind.u8), sz := 1, ze := some [.int .u8 0], bytes := 1 } := by kernel_rfl
theorem ty227 : tyT Tryz.prog 227 = some { d := Go.TypeDesc.pointer 5, sz := 1, ze := some [.nilptr], bytes := 8 } := by kernel_rfl
theorem ty228 : tyT Tryz.prog 228 = some { d := Go.TypeDesc.int (Go.IntKind.i32), sz := 1, ze := some [.int .i32 0], bytes := 4 } := by kernel_rfl
theorem ty229 : tyT Tryz.prog 229 = some { d := Go.TypeDesc.int (Go.IntKind.i32), sz := 1, ze := some [.int .i32 0], bytes := 4 } := by kernel_rfl
theorem ty231 : tyT Tryz.prog 231 = some { d := Go.TypeDesc.struct #[{ name := "Size_", type := 12, offset := 0, embedded := false, tag := "", pkgPath := "", byteOffset := 0 }, { name := "PtrBytes", type := 12, offset := 1, embedded := false, tag := "", pkgPath := "", byteOffset := 8 }, { name := "Hash", type := 223, offset := 2, embedded := false, tag := "", pkgPath := "", byteOffset := 16 }, { name := "TFlag", type := 224, offset := 3, embedded := false, tag := "", pkgPath := "", byteOffset := 20 }, { name := "Align_", type := 5, offset := 4, embedded := false, tag := "", pkgPath := "", byteOffset := 21 }, { name := "FieldAlign_", type := 5, offset := 5, embedded := false, tag := "", pkgPath := "", byteOffset := 22 }, { name := "Kind_", type := 225, offset := 6, embedded := false, tag := "", pkgPath := "", byteOffset := 23 }, { name := "Equal", type := 226, offset := 7, embedded := false, tag := "", pkgPath := "", byteOffset := 24 }, { name := "GCData", type := 227, offset := 8, embedded := false, tag := "", pkgPath := "", byteOffset := 32 }, { name := "Str", type := 228, offset := 9, embedded := false, tag := "", pkgPath := "", byteOffset := 40 }, { name := "PtrToThis", type := 229, offset := 10, embedded := false, tag := "", pkgPath := "", byteOffset := 44 }], sz := 11, ze := some [.int .u64 0, .int .u64 0, .int .u32 0, .int .u8 0, .int .u8 0, .int .u8 0, .int .u8 0, .nilfn, .nilptr, .int .i32 0, .int .i32 0], bytes := 48 } := by kernel_rfl
theorem call2 : callable Tryz.prog 2 = True := eq_true ⟨_, Tryz.func2, rfl, rfl⟩
theorem call3 : callable Tryz.prog 3 = True := eq_true ⟨_, Tryz.func3, rfl, rfl⟩
theorem call4 : callable Tryz.prog 4 = True := eq_true ⟨_, Tryz.func4, rfl, rfl⟩
theorem call5 : callable Tryz.prog 5 = True := eq_true ⟨_, Tryz.func5, rfl, rfl⟩
theorem call6 : callable Tryz.prog 6 = True := eq_true ⟨_, Tryz.func6, rfl, rfl⟩
theorem call7 : callable Tryz.prog 7 = True := eq_true ⟨_, Tryz.func7, rfl, rfl⟩
theorem call8 : callable Tryz.prog 8 = True := eq_true ⟨_, Tryz.func8, rfl, rfl⟩
theorem call9 : callable Tryz.prog 9 = True := eq_true ⟨_, Tryz.func9, rfl, rfl⟩
theorem call10 : callable Tryz.prog 10 = True := eq_true ⟨_, Tryz.func10, rfl, rfl⟩
theorem call11 : callable Tryz.prog 11 = True := eq_true ⟨_, Tryz.func11, rfl, rfl⟩
theorem call12 : callable Tryz.prog 12 = True := eq_true ⟨_, Tryz.func12, rfl, rfl⟩
theorem call13 : callable Tryz.prog 13 = True := eq_true ⟨_, Tryz.func13, rfl, rfl⟩
theorem call14 : callable Tryz.prog 14 = True := eq_true ⟨_, Tryz.func14, rfl, rfl⟩
theorem call15 : callable Tryz.prog 15 = True := eq_true ⟨_, Tryz.func15, rfl, rfl⟩
theorem call16 : callable Tryz.prog 16 = True := eq_true ⟨_, Tryz.func16, rfl, rfl⟩
theorem call17 : callable Tryz.prog 17 = True := eq_true ⟨_, Tryz.func17, rfl, rfl⟩
theorem call18 : callable Tryz.prog 18 = True := eq_true ⟨_, Tryz.func18, rfl, rfl⟩
theorem call19 : callable Tryz.prog 19 = True := eq_true ⟨_, Tryz.func19, rfl, rfl⟩
theorem call20 : callable Tryz.prog 20 = True := eq_true ⟨_, Tryz.func20, rfl, rfl⟩
theorem call21 : callable Tryz.prog 21 = True := eq_true ⟨_, Tryz.func21, rfl, rfl⟩
theorem call22 : callable Tryz.prog 22 = True := eq_true ⟨_, Tryz.func22, rfl, rfl⟩
theorem call23 : callable Tryz.prog 23 = True := eq_true ⟨_, Tryz.func23, rfl, rfl⟩
theorem call24 : callable Tryz.prog 24 = True := eq_true ⟨_, Tryz.func24, rfl, rfl⟩
theorem call25 : callable Tryz.prog 25 = True := eq_true ⟨_, Tryz.func25, rfl, rfl⟩
theorem call26 : callable Tryz.prog 26 = True := eq_true ⟨_, Tryz.func26, rfl, rfl⟩
theorem call27 : callable Tryz.prog 27 = True := eq_true ⟨_, Tryz.func27, rfl, rfl⟩
theorem call28 : callable Tryz.prog 28 = True := eq_true ⟨_, Tryz.func28, rfl, rfl⟩
theorem call29 : callable Tryz.prog 29 = True := eq_true ⟨_, Tryz.func29, rfl, rfl⟩
theorem call30 : callable Tryz.prog 30 = True := eq_true ⟨_, Tryz.func30, rfl, rfl⟩
theorem call31 : callable Tryz.prog 31 = True := eq_true ⟨_, Tryz.func31, rfl, rfl⟩
theorem call32 : callable Tryz.prog 32 = True := eq_true ⟨_, Tryz.func32, rfl, rfl⟩
theorem call33 : callable Tryz.prog 33 = True := eq_true ⟨_, Tryz.func33, rfl, rfl⟩
theorem call34 : callable Tryz.prog 34 = True := eq_true ⟨_, Tryz.func34, rfl, rfl⟩
theorem call35 : callable Tryz.prog 35 = True := eq_true ⟨_, Tryz.func35, rfl, rfl⟩
theorem call36 : callable Tryz.prog 36 = True := eq_true ⟨_, Tryz.func36, rfl, rfl⟩
theorem call37 : callable Tryz.prog 37 = True := eq_true ⟨_, Tryz.func37, rfl, rfl⟩
theorem call38 : callable Tryz.prog 38 = True := eq_true ⟨_, Tryz.func38, rfl, rfl⟩
theorem call39 : callable Tryz.prog 39 = True := eq_true ⟨_, Tryz.func39, rfl, rfl⟩
theorem call40 : callable Tryz.prog 40 = True := eq_true ⟨_, Tryz.func40, rfl, rfl⟩
theorem call41 : callable Tryz.prog 41 = True := eq_true ⟨_, Tryz.func41, rfl, rfl⟩
theorem call42 : callable Tryz.prog 42 = True := eq_true ⟨_, Tryz.func42, rfl, rfl⟩
theorem call43 : callable Tryz.prog 43 = True := eq_true ⟨_, Tryz.func43, rfl, rfl⟩
theorem call44 : callable Tryz.prog 44 = True := eq_true ⟨_, Tryz.func44, rfl, rfl⟩
theorem call45 : callable Tryz.prog 45 = True := eq_true ⟨_, Tryz.func45, rfl, rfl⟩
theorem call46 : callable Tryz.prog 46 = True := eq_true ⟨_, Tryz.func46, rfl, rfl⟩
theorem call47 : callable Tryz.prog 47 = True := eq_true ⟨_, Tryz.func47, rfl, rfl⟩
theorem call48 : callable Tryz.prog 48 = True := eq_true ⟨_, Tryz.func48, rfl, rfl⟩
theorem call49 : callable Tryz.prog 49 = True := eq_true ⟨_, Tryz.func49, rfl, rfl⟩
theorem call50 : callable Tryz.prog 50 = True := eq_true ⟨_, Tryz.func50, rfl, rfl⟩
theorem call51 : callable Tryz.prog 51 = True := eq_true ⟨_, Tryz.func51, rfl, rfl⟩
theorem call52 : callable Tryz.prog 52 = True := eq_true ⟨_, Tryz.func52, rfl, rfl⟩
theorem call53 : callable Tryz.prog 53 = True := eq_true ⟨_, Tryz.func53, rfl, rfl⟩
theorem call54 : callable Tryz.prog 54 = True := eq_true ⟨_, Tryz.func54, rfl, rfl⟩
theorem call55 : callable Tryz.prog 55 = True := eq_true ⟨_, Tryz.func55, rfl, rfl⟩
theorem call56 : callable Tryz.prog 56 = True := eq_true ⟨_, Tryz.func56, rfl, rfl⟩
theorem call57 : callable Tryz.prog 57 = True := eq_true ⟨_, Tryz.func57, rfl, rfl⟩
theorem call58 : callable Tryz.prog 58 = True := eq_true ⟨_, Tryz.func58, rfl, rfl⟩
theorem call59 : callable Tryz.prog 59 = True := eq_true ⟨_, Tryz.func59, rfl, rfl⟩
theorem call60 : callable Tryz.prog 60 = True := eq_true ⟨_, Tryz.func60, rfl, rfl⟩
theorem call61 : callable Tryz.prog 61 = True := eq_true ⟨_, Tryz.func61, rfl, rfl⟩
theorem call62 : callable Tryz.prog 62 = True := eq_true ⟨_, Tryz.func62, rfl, rfl⟩
theorem call63 : callable Tryz.prog 63 = True := eq_true ⟨_, Tryz.func63, rfl, rfl⟩
theorem call64 : callable Tryz.prog 64 = True := eq_true ⟨_, Tryz.func64, rfl, rfl⟩
theorem call65 : callable Tryz.prog 65 = True := eq_true ⟨_, Tryz.func65, rfl, rfl⟩
theorem call66 : callable Tryz.prog 66 = True := eq_true ⟨_, Tryz.func66, rfl, rfl⟩
theorem call67 : callable Tryz.prog 67 = True := eq_true ⟨_, Tryz.func67, rfl, rfl⟩
theorem call68 : callable Tryz.prog 68 = True := eq_true ⟨_, Tryz.func68, rfl, rfl⟩
theorem call69 : callable Tryz.prog 69 = True := eq_true ⟨_, Tryz.func69, rfl, rfl⟩
theorem call70 : callable Tryz.prog 70 = True := eq_true ⟨_, Tryz.func70, rfl, rfl⟩
theorem call71 : callable Tryz.prog 71 = True := eq_true ⟨_, Tryz.func71, rfl, rfl⟩
theorem call72 : callable Tryz.prog 72 = True := eq_true ⟨_, Tryz.func72, rfl, rfl⟩
theorem call73 : callable Tryz.prog 73 = True := eq_true ⟨_, Tryz.func73, rfl, rfl⟩
theorem call74 : callable Tryz.prog 74 = True := eq_true ⟨_, Tryz.func74, rfl, rfl⟩
theorem call75 : callable Tryz.prog 75 = True := eq_true ⟨_, Tryz.func75, rfl, rfl⟩
theorem call76 : callable Tryz.prog 76 = True := eq_true ⟨_, Tryz.func76, rfl, rfl⟩
theorem call77 : callable Tryz.prog 77 = True := eq_true ⟨_, Tryz.func77, rfl, rfl⟩
theorem call78 : callable Tryz.prog 78 = True := eq_true ⟨_, Tryz.func78, rfl, rfl⟩
theorem call79 : callable Tryz.prog 79 = True := eq_true ⟨_, Tryz.func79, rfl, rfl⟩
theorem call80 : callable Tryz.prog 80 = True := eq_true ⟨_, Tryz.func80, rfl, rfl⟩
theorem call81 : callable Tryz.prog 81 = True := eq_true ⟨_, Tryz.func81, rfl, rfl⟩
theorem call82 : callable Tryz.prog 82 = True := eq_true ⟨_, Tryz.func82, rfl, rfl⟩
theorem call83 : callable Tryz.prog 83 = True := eq_true ⟨_, Tryz.func83, rfl, rfl⟩
theorem call84 : callable Tryz.prog 84 = True := eq_true ⟨_, Tryz.func84, rfl, rfl⟩
theorem call85 : callable Tryz.prog 85 = True := eq_true ⟨_, Tryz.func85, rfl, rfl⟩
theorem call86 : callable Tryz.prog 86 = True := eq_true ⟨_, Tryz.func86, rfl, rfl⟩
theorem call87 : callable Tryz.prog 87 = True := eq_true ⟨_, Tryz.func87, rfl, rfl⟩
theorem call88 : callable Tryz.prog 88 = True := eq_true ⟨_, Tryz.func88, rfl, rfl⟩
theorem call89 : callable Tryz.prog 89 = True := eq_true ⟨_, Tryz.func89, rfl, rfl⟩
theorem call90 : callable Tryz.prog 90 = True := eq_true ⟨_, Tryz.func90, rfl, rfl⟩
theorem call91 : callable Tryz.prog 91 = True := eq_true ⟨_, Tryz.func91, rfl, rfl⟩
theorem call92 : callable Tryz.prog 92 = True := eq_true ⟨_, Tryz.func92, rfl, rfl⟩
theorem call93 : callable Tryz.prog 93 = True := eq_true ⟨_, Tryz.func93, rfl, rfl⟩
theorem call94 : callable Tryz.prog 94 = True := eq_true ⟨_, Tryz.func94, rfl, rfl⟩
theorem call95 : callable Tryz.prog 95 = True := eq_true ⟨_, Tryz.func95, rfl, rfl⟩
theorem call96 : callable Tryz.prog 96 = True := eq_true ⟨_, Tryz.func96, rfl, rfl⟩
theorem call97 : callable Tryz.prog 97 = True := eq_true ⟨_, Tryz.func97, rfl, rfl⟩
theorem call98 : callable Tryz.prog 98 = True := eq_true ⟨_, Tryz.func98, rfl, rfl⟩
theorem call99 : callable Tryz.prog 99 = True := eq_true ⟨_, Tryz.func99, rfl, rfl⟩
theorem call100 : callable Tryz.prog 100 = True := eq_true ⟨_, Tryz.func100, rfl, rfl⟩
theorem call101 : callable Tryz.prog 101 = True := eq_true ⟨_, Tryz.func101, rfl, rfl⟩
theorem call102 : callable Tryz.prog 102 = True := eq_true ⟨_, Tryz.func102, rfl, rfl⟩
theorem call103 : callable Tryz.prog 103 = True := eq_true ⟨_, Tryz.func103, rfl, rfl⟩
theorem call104 : callable Tryz.prog 104 = True := eq_true ⟨_, Tryz.func104, rfl, rfl⟩
theorem call105 : callable Tryz.prog 105 = True := eq_true ⟨_, Tryz.func105, rfl, rfl⟩
theorem call106 : callable Tryz.prog 106 = True := eq_true ⟨_, Tryz.func106, rfl, rfl⟩
theorem call107 : callable Tryz.prog 107 = True := eq_true ⟨_, Tryz.func107, rfl, rfl⟩
theorem call108 : callable Tryz.prog 108 = True := eq_true ⟨_, Tryz.func108, rfl, rfl⟩
theorem call109 : callable Tryz.prog 109 = True := eq_true ⟨_, Tryz.func109, rfl, rfl⟩
theorem call110 : callable Tryz.prog 110 = True := eq_true ⟨_, Tryz.func110, rfl, rfl⟩
theorem call111 : callable Tryz.prog 111 = True := eq_true ⟨_, Tryz.func111, rfl, rfl⟩
theorem call112 : callable Tryz.prog 112 = True := eq_true ⟨_, Tryz.func112, rfl, rfl⟩
theorem call113 : callable Tryz.prog 113 = True := eq_true ⟨_, Tryz.func113, rfl, rfl⟩
theorem call114 : callable Tryz.prog 114 = True := eq_true ⟨_, Tryz.func114, rfl, rfl⟩
theorem call115 : callable Tryz.prog 115 = True := eq_true ⟨_, Tryz.func115, rfl, rfl⟩
theorem call116 : callable Tryz.prog 116 = True := eq_true ⟨_, Tryz.func116, rfl, rfl⟩
theorem call117 : callable Tryz.prog 117 = True := eq_true ⟨_, Tryz.func117, rfl, rfl⟩
theorem call118 : callable Tryz.prog 118 = True := eq_true ⟨_, Tryz.func118, rfl, rfl⟩
theorem call119 : callable Tryz.prog 119 = True := eq_true ⟨_, Tryz.func119, rfl, rfl⟩
theorem call120 : callable Tryz.prog 120 = True := eq_true ⟨_, Tryz.func120, rfl, rfl⟩
theorem call121 : callable Tryz.prog 121 = True := eq_true ⟨_, Tryz.func121, rfl, rfl⟩
theorem call122 : callable Tryz.prog 122 = True := eq_true ⟨_, Tryz.func122, rfl, rfl⟩
theorem call123 : callable Tryz.prog 123 = True := eq_true ⟨_, Tryz.func123, rfl, rfl⟩
theorem call124 : callable Tryz.prog 124 = True := eq_true ⟨_, Tryz.func124, rfl, rfl⟩
theorem call125 : callable Tryz.prog 125 = True := eq_true ⟨_, Tryz.func125, rfl, rfl⟩
theorem call126 : callable Tryz.prog 126 = True := eq_true ⟨_, Tryz.func126, rfl, rfl⟩
theorem call127 : callable Tryz.prog 127 = True := eq_true ⟨_, Tryz.func127, rfl, rfl⟩
theorem call128 : callable Tryz.prog 128 = True := eq_true ⟨_, Tryz.func128, rfl, rfl⟩
theorem call129 : callable Tryz.prog 129 = True := eq_true ⟨_, Tryz.func129, rfl, rfl⟩
theorem call130 : callable Tryz.prog 130 = True := eq_true ⟨_, Tryz.func130, rfl, rfl⟩
theorem call131 : callable Tryz.prog 131 = True := eq_true ⟨_, Tryz.func131, rfl, rfl⟩
theorem call132 : callable Tryz.prog 132 = True := eq_true ⟨_, Tryz.func132, rfl, rfl⟩
theorem call133 : callable Tryz.prog 133 = True := eq_true ⟨_, Tryz.func133, rfl, rfl⟩
theorem call134 : callable Tryz.prog 134 = True := eq_true ⟨_, Tryz.func134, rfl, rfl⟩
theorem call135 : callable Tryz.prog 135 = True := eq_true ⟨_, Tryz.func135, rfl, rfl⟩
theorem call136 : callable Tryz.prog 136 = True := eq_true ⟨_, Tryz.func136, rfl, rfl⟩
theorem call137 : callable Tryz.prog 137 = True := eq_true ⟨_, Tryz.func137, rfl, rfl⟩
theorem call138 : callable Tryz.prog 138 = True := eq_true ⟨_, Tryz.func138, rfl, rfl⟩
theorem call139 : callable Tryz.prog 139 = True := eq_true ⟨_, Tryz.func139, rfl, rfl⟩
theorem call140 : callable Tryz.prog 140 = True := eq_true ⟨_, Tryz.func140, rfl, rfl⟩
theorem call141 : callable Tryz.prog 141 = True := eq_true ⟨_, Tryz.func141, rfl, rfl⟩
theorem call142 : callable Tryz.prog 142 = True := eq_true ⟨_, Tryz.func142, rfl, rfl⟩
theorem call143 : callable Tryz.prog 143 = True := eq_true ⟨_, Tryz.func143, rfl, rfl⟩
theorem call144 : callable Tryz.prog 144 = True := eq_true ⟨_, Tryz.func144, rfl, rfl⟩
theorem call145 : callable Tryz.prog 145 = True := eq_true ⟨_, Tryz.func145, rfl, rfl⟩
theorem call146 : callable Tryz.prog 146 = True := eq_true ⟨_, Tryz.func146, rfl, rfl⟩
theorem call147 : callable Tryz.prog 147 = True := eq_true ⟨_, Tryz.func147, rfl, rfl⟩
theorem call148 : callable Tryz.prog 148 = True := eq_true ⟨_, Tryz.func148, rfl, rfl⟩
theorem call149 : callable Tryz.prog 149 = True := eq_true ⟨_, Tryz.func149, rfl, rfl⟩
theorem call150 : callable Tryz.prog 150 = True := eq_true ⟨_, Tryz.func150, rfl, rfl⟩
theorem call151 : callable Tryz.prog 151 = True := eq_true ⟨_, Tryz.func151, rfl, rfl⟩
theorem call152 : callable Tryz.prog 152 = True := eq_true ⟨_, Tryz.func152, rfl, rfl⟩
theorem call153 : callable Tryz.prog 153 = True := eq_true ⟨_, Tryz.func153, rfl, rfl⟩
theorem call154 : callable Tryz.prog 154 = True := eq_true ⟨_, Tryz.func154, rfl, rfl⟩
theorem call155 : callable Tryz.prog 155 = True := eq_true ⟨_, Tryz.func155, rfl, rfl⟩
theorem call156 : callable Tryz.prog 156 = True := eq_true ⟨_, Tryz.func156, rfl, rfl⟩
theorem call157 : callable Tryz.prog 157 = True := eq_true ⟨_, Tryz.func157, rfl, rfl⟩
theorem call158 : callable Tryz.prog 158 = True := eq_true ⟨_, Tryz.func158, rfl, rfl⟩
theorem call159 : callable Tryz.prog 159 = True := eq_true ⟨_, Tryz.func159, rfl, rfl⟩
theorem call160 : callable Tryz.prog 160 = True := eq_true ⟨_, Tryz.func160, rfl, rfl⟩
attribute [go_sem] ty1 ty2 ty3 ty4 ty5 ty6 ty7 ty8 ty9 ty10 ty11 ty12 ty13 ty14 ty15 ty16 ty17 ty18 ty19 ty20 ty21 ty22 ty23 ty24 ty25 ty26 ty27 ty28 ty29 ty30 ty31 ty32 ty33 ty34 ty35 ty36 ty37 ty38 ty39 ty41 ty42 ty43 ty44 ty45 ty47 ty48 ty49 ty51 ty53 ty54 ty55 ty56 ty57 ty59 ty60 ty61 ty62 ty63 ty65 ty66 ty67 ty69 ty70 ty72 ty73 ty74 ty75 ty76 ty77 ty78 ty79 ty80 ty81 ty82 ty83 ty84 ty85 ty86 ty87 ty88 ty89 ty90 ty91 ty93 ty94 ty95 ty96 ty97 ty98 ty99 ty100 ty101 ty103 ty104 ty105 ty106 ty108 ty109 ty110 ty111 ty112 ty113 ty114 ty115 ty116 ty118 ty119 ty120 ty121 ty122 ty123 ty124 ty125 ty126 ty127 ty128 ty129 ty130 ty131 ty132 ty133 ty134 ty135 ty136 ty137 ty138 ty139 ty140 ty141 ty142 ty143 ty144 ty145 ty146 ty147 ty148 ty149 ty150 ty151 ty152 ty153 ty154 ty155 ty156 ty157 ty158 ty159 ty160 ty162 ty163 ty164 ty165 ty166 ty167 ty168 ty170 ty172 ty173 ty174 ty175 ty176 ty178 ty179 ty180 ty181 ty182 ty183 ty184 ty185 ty186 ty187 ty188 ty189 ty190 ty191 ty192 ty193 ty194 ty195 ty196 ty197 ty198 ty200 ty201 ty202 ty203 ty204 ty205 ty206 ty207 ty209 ty210 ty211 ty212 ty213 ty214 ty215 ty216 ty217 ty218 ty219 ty220 ty221 ty222 ty223 ty224 ty225 ty227 ty228 ty229 ty231  call2 call3 call4 call5 call6 call7 call8 call9 call10 call11 call12 call13 call14 call15 call16 call17 call18 call19 call20 call21 call22 call23 call24 call25 call26 call27 call28 call29 call30 call31 call32 call33 call34 call35 call36 call37 call38 call39 call40 call41 call42 call43 call44 call45 call46 call47 call48 call49 call50 call51 call52 call53 call54 call55 call56 call57 call58 call59 call60 call61 call62 call63 call64 call65 call66 call67 call68 call69 call70 call71 call72 call73 call74 call75 call76 call77 call78 call79 call80 call81 call82 call83 call84 call85 call86 call87 call88 call89 call90 call91 call92 call93 call94 call95 call96 call97 call98 call99 call100 call101 call102 call103 call104 call105 call106 call107 call108 call109 call110 call111 call112 call113 call114 call115 call116 call117 call118 call119 call120 call121 call122 call123 call124 call125 call126 call127 call128 call129 call130 call131 call132 call133 call134 call135 call136 call137 call138 call139 call140 call141 call142 call143 call144 call145 call146 call147 call148 call149 call150 call151 call152 call153 call154 call155 call156 call157 call158 call159 call160
attribute [go_sem] Tryz.results2 Tryz.results3 Tryz.results4 Tryz.results5 Tryz.results6 Tryz.results7 Tryz.results8 Tryz.results9 Tryz.results10 Tryz.results11 Tryz.results12 Tryz.results13 Tryz.results14 Tryz.results15 Tryz.results16 Tryz.results17 Tryz.results18 Tryz.results19 Tryz.results20 Tryz.results21 Tryz.results22 Tryz.results23 Tryz.results24 Tryz.results25 Tryz.results26 Tryz.results27 Tryz.results28 Tryz.results29 Tryz.results30 Tryz.results31 Tryz.results32 Tryz.results33 Tryz.results34 Tryz.results35 Tryz.results36 Tryz.results37 Tryz.results38 Tryz.results39 Tryz.results40 Tryz.results41 Tryz.results42 Tryz.results43 Tryz.results44 Tryz.results45 Tryz.results46 Tryz.results47 Tryz.results48 Tryz.results49 Tryz.results50 Tryz.results51 Tryz.results52 Tryz.results53 Tryz.results54 Tryz.results55 Tryz.results56 Tryz.results57 Tryz.results58 Tryz.results59 Tryz.results60 Tryz.results61 Tryz.results62 Tryz.results63 Tryz.results64 Tryz.results65 Tryz.results66 Tryz.results67 Tryz.results68 Tryz.results69 Tryz.results70 Tryz.results71 Tryz.results72 Tryz.results73 Tryz.results74 Tryz.results75 Tryz.results76 Tryz.results77 Tryz.results78 Tryz.results79 Tryz.results80 Tryz.results81 Tryz.results82 Tryz.results83 Tryz.results84 Tryz.results85 Tryz.results86 Tryz.results87 Tryz.results88 Tryz.results89 Tryz.results90 Tryz.results91 Tryz.results92 Tryz.results93 Tryz.results94 Tryz.results95 Tryz.results96 Tryz.results97 Tryz.results98 Tryz.results99 Tryz.results100 Tryz.results101 Tryz.results102 Tryz.results103 Tryz.results104 Tryz.results105 Tryz.results106 Tryz.results107 Tryz.results108 Tryz.results109 Tryz.results110 Tryz.results111 Tryz.results112 Tryz.results113 Tryz.results114 Tryz.results115 Tryz.results116 Tryz.results117 Tryz.results118 Tryz.results119 Tryz.results120 Tryz.results121 Tryz.results122 Tryz.results123 Tryz.results124 Tryz.results125 Tryz.results126 Tryz.results127 Tryz.results128 Tryz.results129 Tryz.results130 Tryz.results131 Tryz.results132 Tryz.results133 Tryz.results134 Tryz.results135 Tryz.results136 Tryz.results137 Tryz.results138 Tryz.results139 Tryz.results140 Tryz.results141 Tryz.results142 Tryz.results143 Tryz.results144 Tryz.results145 Tryz.results146 Tryz.results147 Tryz.results148 Tryz.results149 Tryz.results150 Tryz.results151 Tryz.results152 Tryz.results153 Tryz.results154 Tryz.results155 Tryz.results156 Tryz.results157 Tryz.results158 Tryz.results159 Tryz.results160
attribute [go_sem ↓] reduceIte
attribute [go_sem] reduceCtorEq Int.reduceGT Int.reduceGE Int.reduceEq Int.reduceBEq Int.reduceBNe not_true_eq_false Nat.reduceEqDiff Nat.reduceMod Int.reduceLT Int.reduceLE Int.reduceToNat Int.toNat_natCast Nat.mul_one Int.reduceNeg IntKind.bits Int.natCast_nonneg Int.cast_ofNat_Int
theorem mixed : Tryz.prog.follows .mixedOrders = true := by kernel_rfl
end Go.Mac

/- A part of the logic and of the contracts of the functions that the statement reaches; the statement itself is proved in the last text. -/
import Derived.Test.YtdioclckllbhpaaProg
import Derived.KernelRfl
import Derived.Test.YtdioclckllbhpaaLibMacIT

set_option linter.all false
set_option linter.unusedVariables false
set_option linter.unusedSimpArgs false
set_option linter.unnecessarySimpa false
namespace Go.Mac
open Go Go.Conc Go.Proofs
set_option maxRecDepth 10000
theorem ty1 : tyT Try.prog 1 = some { d := Go.TypeDesc.func #[] #[] false, sz := 1, ze := some [.nilfn], bytes := 8 } := by kernel_rfl
theorem ty2 : tyT Try.prog 2 = some { d := Go.TypeDesc.int (Go.IntKind.i64), sz := 1, ze := some [.int .i64 0], bytes := 8 } := by kernel_rfl
theorem ty3 : tyT Try.prog 3 = some { d := Go.TypeDesc.int (Go.IntKind.i64), sz := 1, ze := some [.int .i64 0], bytes := 8 } := by kernel_rfl
theorem ty4 : tyT Try.prog 4 = some { d := Go.TypeDesc.bool, sz := 1, ze := some [.bool false], bytes := 1 } := by kernel_rfl
theorem ty5 : tyT Try.prog 5 = some { d := Go.TypeDesc.int (Go.IntKind.u8), sz := 1, ze := some [.int .u8 0], bytes := 1 } := by kernel_rfl
theorem ty6 : tyT Try.prog 6 = some { d := Go.TypeDesc.int (Go.IntKind.u8), sz := 1, ze := some [.int .u8 0], bytes := 1 } := by kernel_rfl
theorem ty7 : tyT Try.prog 7 = some { d := Go.TypeDesc.struct #[{ name := "x", type := 2, offset := 0, embedded := false, tag := "", pkgPath := "runtime", byteOffset := 0 }, { name := "y", type := 3, offset := 1, embedded := false, tag := "", pkgPath := "runtime", byteOffset := 8 }, { name := "signed", type := 4, offset := 2, embedded := false, tag := "", pkgPath := "runtime", byteOffset := 16 }, { name := "code", type := 6, offset := 3, embedded := false, tag := "", pkgPath := "runtime", byteOffset := 17 }], sz := 4, ze := some [.int .i64 0, .int .i64 0, .bool false, .int .u8 0], bytes := 24 } := by kernel_rfl
theorem ty8 : tyT Try.prog 8 = some { d := Go.TypeDesc.struct #[{ name := "x", type := 2, offset := 0, embedded := false, tag := "", pkgPath := "runtime", byteOffset := 0 }, { name := "y", type := 3, offset := 1, embedded := false, tag := "", pkgPath := "runtime", byteOffset := 8 }, { name := "signed", type := 4, offset := 2, embedded := false, tag := "", pkgPath := "runtime", byteOffset := 16 }, { name := "code", type := 6, offset := 3, embedded := false, tag := "", pkgPath := "runtime", byteOffset := 17 }], sz := 4, ze := some [.int .i64 0, .int .i64 0, .bool false, .int .u8 0], bytes := 24 } := by kernel_rfl
theorem ty9 : tyT Try.prog 9 = some { d := Go.TypeDesc.string, sz := 1, ze := some [.str []], bytes := 16 } := by kernel_rfl
theorem ty10 : tyT Try.prog 10 = some { d := Go.TypeDesc.string, sz := 1, ze := some [.str []], bytes := 16 } := by kernel_rfl
theorem ty11 : tyT Try.prog 11 = some { d := Go.TypeDesc.string, sz := 1, ze := some [.str []], bytes := 16 } := by kernel_rfl
theorem ty12 : tyT Try.prog 12 = some { d := Go.TypeDesc.int (Go.IntKind.u64), sz := 1, ze := some [.int .u64 0], bytes := 8 } := by kernel_rfl
theorem ty13 : tyT Try.prog 13 = some { d := Go.TypeDesc.struct #[{ name := "msg", type := 9, offset := 0, embedded := false, tag := "", pkgPath := "runtime", byteOffset := 0 }, { name := "addr", type := 12, offset := 1, embedded := false, tag := "", pkgPath := "runtime", byteOffset := 16 }], sz := 2, ze := some [.str [], .int .u64 0], bytes := 24 } := by kernel_rfl
theorem ty14 : tyT Try.prog 14 = some { d := Go.TypeDesc.struct #[{ name := "msg", type := 9, offset := 0, embedded := false, tag := "", pkgPath := "runtime", byteOffset := 0 }, { name := "addr", type := 12, offset := 1, embedded := false, tag := "", pkgPath := "runtime", byteOffset := 16 }], sz := 2, ze := some [.str [], .int .u64 0], bytes := 24 } := by kernel_rfl
theorem ty15 : tyT Try.prog 15 = some { d := Go.TypeDesc.pointer 197, sz := 1, ze := some [.nilptr], bytes := 8 } := by kernel_rfl
theorem ty16 : tyT Try.prog 16 = some { d := Go.TypeDesc.pointer 200, sz := 1, ze := some [.nilptr], bytes := 8 } := by kernel_rfl
theorem ty17 : tyT Try.prog 17 = some { d := Go.TypeDesc.pointer 210, sz := 1, ze := some [.nilptr], bytes := 8 } := by kernel_rfl
theorem ty18 : tyT Try.prog 18 = some { d := Go.TypeDesc.struct #[{ name := "typ", type := 17, offset := 0, embedded := false, tag := "", pkgPath := "internal/runtime/maps", byteOffset := 0 }], sz := 1, ze := some [.nilptr], bytes := 8 } := by kernel_rfl
theorem ty19 : tyT Try.prog 19 = some { d := Go.TypeDesc.struct #[{ name := "typ", type := 17, offset := 0, embedded := false, tag := "", pkgPath := "internal/runtime/maps", byteOffset := 0 }], sz := 1, ze := some [.nilptr], bytes := 8 } := by kernel_rfl
theorem ty20 : tyT Try.prog 20 = some { d := Go.TypeDesc.interface #[], sz := 1, ze := some [.niliface], bytes := 16 } := by kernel_rfl
theorem ty21 : tyT Try.prog 21 = some { d := Go.TypeDesc.int (Go.IntKind.i32), sz := 1, ze := some [.int .i32 0], bytes := 4 } := by kernel_rfl
theorem ty22 : tyT Try.prog 22 = some { d := Go.TypeDesc.slice 3, sz := 1, ze := some [.nilsl], bytes := 24 } := by kernel_rfl
theorem ty23 : tyT Try.prog 23 = some { d := Go.TypeDesc.pointer 89, sz := 1, ze := some [.nilptr], bytes := 8 } := by kernel_rfl
theorem ty24 : tyT Try.prog 24 = some { d := Go.TypeDesc.func #[22] #[23] false, sz := 1, ze := some [.nilfn], bytes := 8 } := by kernel_rfl
theorem ty25 : tyT Try.prog 25 = some { d := Go.TypeDesc.slice 56, sz := 1, ze := some [.nilsl], bytes := 24 } := by kernel_rfl
theorem ty26 : tyT Try.prog 26 = some { d := Go.TypeDesc.slice 51, sz := 1, ze := some [.nilsl], bytes := 24 } := by kernel_rfl
theorem ty27 : tyT Try.prog 27 = some { d := Go.TypeDesc.slice 33, sz := 1, ze := some [.nilsl], bytes := 24 } := by kernel_rfl
theorem ty28 : tyT Try.prog 28 = some { d := Go.TypeDesc.struct #[{ name := "Glyphs", type := 25, offset := 0, embedded := false, tag := "", pkgPath := "", byteOffset := 0 }, { name := "Pages", type := 26, offset := 1, embedded := false, tag := "", pkgPath := "", byteOffset := 24 }, { name := "Cells", type := 27, offset := 2, embedded := false, tag := "", pkgPath := "", byteOffset := 48 }], sz := 3, ze := some [.nilsl, .nilsl, .nilsl], bytes := 72 } := by kernel_rfl
theorem ty29 : tyT Try.prog 29 = some { d := Go.TypeDesc.struct #[{ name := "Glyphs", type := 25, offset := 0, embedded := false, tag := "", pkgPath := "", byteOffset := 0 }, { name := "Pages", type := 26, offset := 1, embedded := false, tag := "", pkgPath := "", byteOffset := 24 }, { name := "Cells", type := 27, offset := 2, embedded := false, tag := "", pkgPath := "", byteOffset := 48 }], sz := 3, ze := some [.nilsl, .nilsl, .nilsl], bytes := 72 } := by kernel_rfl
theorem ty30 : tyT Try.prog 30 = some { d := Go.TypeDesc.func #[23, 3, 3, 3, 3] #[29] false, sz := 1, ze := some [.nilfn], bytes := 8 } := by kernel_rfl
theorem ty31 : tyT Try.prog 31 = some { d := Go.TypeDesc.func #[29] #[29] false, sz := 1, ze := some [.nilfn], bytes := 8 } := by kernel_rfl
theorem ty32 : tyT Try.prog 32 = some { d := Go.TypeDesc.func #[3] #[3] false, sz := 1, ze := some [.nilfn], bytes := 8 } := by kernel_rfl
theorem ty33 : tyT Try.prog 33 = some { d := Go.TypeDesc.slice 35, sz := 1, ze := some [.nilsl], bytes := 24 } := by kernel_rfl
theorem ty34 : tyT Try.prog 34 = some { d := Go.TypeDesc.struct #[{ name := "Seen", type := 3, offset := 0, embedded := false, tag := "", pkgPath := "", byteOffset := 0 }, { name := "Bare", type := 3, offset := 1, embedded := false, tag := "", pkgPath := "", byteOffset := 8 }], sz := 2, ze := some [.int .i64 0, .int .i64 0], bytes := 16 } := by kernel_rfl
theorem ty35 : tyT Try.prog 35 = some { d := Go.TypeDesc.struct #[{ name := "Seen", type := 3, offset := 0, embedded := false, tag := "", pkgPath := "", byteOffset := 0 }, { name := "Bare", type := 3, offset := 1, embedded := false, tag := "", pkgPath := "", byteOffset := 8 }], sz := 2, ze := some [.int .i64 0, .int .i64 0], bytes := 16 } := by kernel_rfl
theorem ty36 : tyT Try.prog 36 = some { d := Go.TypeDesc.func #[3] #[4] false, sz := 1, ze := some [.nilfn], bytes := 8 } := by kernel_rfl
theorem ty37 : tyT Try.prog 37 = some { d := Go.TypeDesc.func #[22] #[3] true, sz := 1, ze := some [.nilfn], bytes := 8 } := by kernel_rfl
theorem ty38 : tyT Try.prog 38 = some { d := Go.TypeDesc.slice 44, sz := 1, ze := some [.nilsl], bytes := 24 } := by kernel_rfl
theorem ty39 : tyT Try.prog 39 = some { d := Go.TypeDesc.int (Go.IntKind.i64), sz := 1, ze := some [.int .i64 0], bytes := 8 } := by kernel_rfl
theorem ty41 : tyT Try.prog 41 = some { d := Go.TypeDesc.func #[29] #[38, 39] false, sz := 1, ze := some [.nilfn], bytes := 8 } := by kernel_rfl
theorem ty42 : tyT Try.prog 42 = some { d := Go.TypeDesc.func #[38, 44] #[4] false, sz := 1, ze := some [.nilfn], bytes := 8 } := by kernel_rfl
theorem ty43 : tyT Try.prog 43 = some { d := Go.TypeDesc.struct #[{ name := "Page", type := 3, offset := 0, embedded := false, tag := "", pkgPath := "", byteOffset := 0 }, { name := "Turned", type := 4, offset := 1, embedded := false, tag := "", pkgPath := "", byteOffset := 8 }, { name := "Down", type := 3, offset := 2, embedded := false, tag := "", pkgPath := "", byteOffset := 16 }, { name := "Right", type := 3, offset := 3, embedded := false, tag := "", pkgPath := "", byteOffset := 24 }], sz := 4, ze := some [.int .i64 0, .bool false, .int .i64 0, .int .i64 0], bytes := 32 } := by kernel_rfl
theorem ty44 : tyT Try.prog 44 = some { d := Go.TypeDesc.struct #[{ name := "Page", type := 3, offset := 0, embedded := false, tag := "", pkgPath := "", byteOffset := 0 }, { name := "Turned", type := 4, offset := 1, embedded := false, tag := "", pkgPath := "", byteOffset := 8 }, { name := "Down", type := 3, offset := 2, embedded := false, tag := "", pkgPath := "", byteOffset := 16 }, { name := "Right", type := 3, offset := 3, embedded := false, tag := "", pkgPath := "", byteOffset := 24 }], sz := 4, ze := some [.int .i64 0, .bool false, .int .i64 0, .int .i64 0], bytes := 32 } := by kernel_rfl
theorem ty45 : tyT Try.prog 45 = some { d := Go.TypeDesc.func #[3] #[38] false, sz := 1, ze := some [.nilfn], bytes := 8 } := by kernel_rfl
theorem ty46 : tyT Try.prog 46 = some { d := Go.TypeDesc.slice 22, sz := 1, ze := some [.nilsl], bytes := 24 } := by kernel_rfl
theorem ty48 : tyT Try.prog 48 = some { d := Go.TypeDesc.func #[29, 44] #[46, 39] false, sz := 1, ze := some [.nilfn], bytes := 8 } := by kernel_rfl
theorem ty49 : tyT Try.prog 49 = some { d := Go.TypeDesc.func #[] #[4] false, sz := 1, ze := some [.nilfn], bytes := 8 } := by kernel_rfl
theorem ty50 : tyT Try.prog 50 = some { d := Go.TypeDesc.func #[22] #[4] false, sz := 1, ze := some [.nilfn], bytes := 8 } := by kernel_rfl
theorem ty51 : tyT Try.prog 51 = some { d := Go.TypeDesc.slice 9, sz := 1, ze := some [.nilsl], bytes := 24 } := by kernel_rfl
theorem ty53 : tyT Try.prog 53 = some { d := Go.TypeDesc.func #[29, 3] #[51, 3, 44, 39] false, sz := 1, ze := some [.nilfn], bytes := 8 } := by kernel_rfl
theorem ty54 : tyT Try.prog 54 = some { d := Go.TypeDesc.func #[51, 51] #[3] false, sz := 1, ze := some [.nilfn], bytes := 8 } := by kernel_rfl
theorem ty55 : tyT Try.prog 55 = some { d := Go.TypeDesc.struct #[{ name := "Name", type := 9, offset := 0, embedded := false, tag := "", pkgPath := "", byteOffset := 0 }, { name := "Strokes", type := 3, offset := 1, embedded := false, tag := "", pkgPath := "", byteOffset := 16 }], sz := 2, ze := some [.str [], .int .i64 0], bytes := 24 } := by kernel_rfl
theorem ty56 : tyT Try.prog 56 = some { d := Go.TypeDesc.struct #[{ name := "Name", type := 9, offset := 0, embedded := false, tag := "", pkgPath := "", byteOffset := 0 }, { name := "Strokes", type := 3, offset := 1, embedded := false, tag := "", pkgPath := "", byteOffset := 16 }], sz := 2, ze := some [.str [], .int .i64 0], bytes := 24 } := by kernel_rfl
theorem ty57 : tyT Try.prog 57 = some { d := Go.TypeDesc.func #[3, 3] #[46] false, sz := 1, ze := some [.nilfn], bytes := 8 } := by kernel_rfl
theorem ty59 : tyT Try.prog 59 = some { d := Go.TypeDesc.func #[3] #[3, 39] false, sz := 1, ze := some [.nilfn], bytes := 8 } := by kernel_rfl
theorem ty60 : tyT Try.prog 60 = some { d := Go.TypeDesc.func #[25, 3] #[9] false, sz := 1, ze := some [.nilfn], bytes := 8 } := by kernel_rfl
theorem ty61 : tyT Try.prog 61 = some { d := Go.TypeDesc.func #[29, 44, 3, 3] #[3, 39] false, sz := 1, ze := some [.nilfn], bytes := 8 } := by kernel_rfl
theorem ty62 : tyT Try.prog 62 = some { d := Go.TypeDesc.func #[29] #[33] false, sz := 1, ze := some [.nilfn], bytes := 8 } := by kernel_rfl
theorem ty63 : tyT Try.prog 63 = some { d := Go.TypeDesc.func #[29, 38] #[46] false, sz := 1, ze := some [.nilfn], bytes := 8 } := by kernel_rfl
theorem ty64 : tyT Try.prog 64 = some { d := Go.TypeDesc.func #[29, 3, 3] #[3, 39] false, sz := 1, ze := some [.nilfn], bytes := 8 } := by kernel_rfl
theorem ty66 : tyT Try.prog 66 = some { d := Go.TypeDesc.func #[29] #[3, 3, 3, 39] false, sz := 1, ze := some [.nilfn], bytes := 8 } := by kernel_rfl
theorem ty67 : tyT Try.prog 67 = some { d := Go.TypeDesc.func #[51] #[51] false, sz := 1, ze := some [.nilfn], bytes := 8 } := by kernel_rfl
theorem ty68 : tyT Try.prog 68 = some { d := Go.TypeDesc.func #[22, 22] #[4] false, sz := 1, ze := some [.nilfn], bytes := 8 } := by kernel_rfl
theorem ty69 : tyT Try.prog 69 = some { d := Go.TypeDesc.func #[29] #[46, 39] false, sz := 1, ze := some [.nilfn], bytes := 8 } := by kernel_rfl
theorem ty70 : tyT Try.prog 70 = some { d := Go.TypeDesc.func #[46, 46] #[4] false, sz := 1, ze := some [.nilfn], bytes := 8 } := by kernel_rfl
theorem ty72 : tyT Try.prog 72 = some { d := Go.TypeDesc.func #[29] #[44, 3, 39] false, sz := 1, ze := some [.nilfn], bytes := 8 } := by kernel_rfl
theorem ty73 : tyT Try.prog 73 = some { d := Go.TypeDesc.func #[23, 3] #[44] false, sz := 1, ze := some [.nilfn], bytes := 8 } := by kernel_rfl
theorem ty74 : tyT Try.prog 74 = some { d := Go.TypeDesc.func #[23, 29, 44, 44] #[29] false, sz := 1, ze := some [.nilfn], bytes := 8 } := by kernel_rfl
theorem ty75 : tyT Try.prog 75 = some { d := Go.TypeDesc.func #[29, 44, 3, 3] #[3] false, sz := 1, ze := some [.nilfn], bytes := 8 } := by kernel_rfl
theorem ty77 : tyT Try.prog 77 = some { d := Go.TypeDesc.func #[29, 3, 3] #[3, 3, 39] false, sz := 1, ze := some [.nilfn], bytes := 8 } := by kernel_rfl
theorem ty79 : tyT Try.prog 79 = some { d := Go.TypeDesc.func #[29] #[22, 39] false, sz := 1, ze := some [.nilfn], bytes := 8 } := by kernel_rfl
theorem ty80 : tyT Try.prog 80 = some { d := Go.TypeDesc.slice 4, sz := 1, ze := some [.nilsl], bytes := 24 } := by kernel_rfl
theorem ty81 : tyT Try.prog 81 = some { d := Go.TypeDesc.func #[29, 3] #[3, 39] false, sz := 1, ze := some [.nilfn], bytes := 8 } := by kernel_rfl
theorem ty82 : tyT Try.prog 82 = some { d := Go.TypeDesc.func #[] #[29] false, sz := 1, ze := some [.nilfn], bytes := 8 } := by kernel_rfl
theorem ty83 : tyT Try.prog 83 = some { d := Go.TypeDesc.func #[29] #[39] false, sz := 1, ze := some [.nilfn], bytes := 8 } := by kernel_rfl
theorem ty84 : tyT Try.prog 84 = some { d := Go.TypeDesc.func #[3, 3, 3] #[44] false, sz := 1, ze := some [.nilfn], bytes := 8 } := by kernel_rfl
theorem ty85 : tyT Try.prog 85 = some { d := Go.TypeDesc.func #[38, 38] #[4] false, sz := 1, ze := some [.nilfn], bytes := 8 } := by kernel_rfl
theorem ty86 : tyT Try.prog 86 = some { d := Go.TypeDesc.func #[51, 51] #[4] false, sz := 1, ze := some [.nilfn], bytes := 8 } := by kernel_rfl
theorem ty87 : tyT Try.prog 87 = some { d := Go.TypeDesc.int (Go.IntKind.u64), sz := 1, ze := some [.int .u64 0], bytes := 8 } := by kernel_rfl
theorem ty88 : tyT Try.prog 88 = some { d := Go.TypeDesc.struct #[{ name := "rest", type := 22, offset := 0, embedded := false, tag := "", pkgPath := "maculature/maculaturekit", byteOffset := 0 }, { name := "last", type := 87, offset := 1, embedded := false, tag := "", pkgPath := "maculature/maculaturekit", byteOffset := 24 }], sz := 2, ze := some [.nilsl, .int .u64 0], bytes := 32 } := by kernel_rfl
theorem ty89 : tyT Try.prog 89 = some { d := Go.TypeDesc.struct #[{ name := "rest", type := 22, offset := 0, embedded := false, tag := "", pkgPath := "maculature/maculaturekit", byteOffset := 0 }, { name := "last", type := 87, offset := 1, embedded := false, tag := "", pkgPath := "maculature/maculaturekit", byteOffset := 24 }], sz := 2, ze := some [.nilsl, .int .u64 0], bytes := 32 } := by kernel_rfl
theorem ty90 : tyT Try.prog 90 = some { d := Go.TypeDesc.func #[] #[87] false, sz := 1, ze := some [.nilfn], bytes := 8 } := by kernel_rfl
theorem ty91 : tyT Try.prog 91 = some { d := Go.TypeDesc.int (Go.IntKind.u64), sz := 1, ze := some [.int .u64 0], bytes := 8 } := by kernel_rfl
theorem ty92 : tyT Try.prog 92 = some { d := Go.TypeDesc.map 21 102, sz := 1, ze := some [.nilmap], bytes := 8 } := by kernel_rfl
theorem ty93 : tyT Try.prog 93 = some { d := Go.TypeDesc.struct #[{ name := "Board", type := 29, offset := 0, embedded := true, tag := "", pkgPath := "", byteOffset := 0 }, { name := "strokes", type := 92, offset := 3, embedded := false, tag := "", pkgPath := "maculature/offset", byteOffset := 72 }], sz := 4, ze := some [.nilsl, .nilsl, .nilsl, .nilmap], bytes := 80 } := by kernel_rfl
theorem ty94 : tyT Try.prog 94 = some { d := Go.TypeDesc.struct #[{ name := "Board", type := 29, offset := 0, embedded := true, tag := "", pkgPath := "", byteOffset := 0 }, { name := "strokes", type := 92, offset := 3, embedded := false, tag := "", pkgPath := "maculature/offset", byteOffset := 72 }], sz := 4, ze := some [.nilsl, .nilsl, .nilsl, .nilmap], bytes := 80 } := by kernel_rfl
theorem ty96 : tyT Try.prog 96 = some { d := Go.TypeDesc.func #[29] #[94, 39] false, sz := 1, ze := some [.nilfn], bytes := 8 } := by kernel_rfl
theorem ty97 : tyT Try.prog 97 = some { d := Go.TypeDesc.slice 105, sz := 1, ze := some [.nilsl], bytes := 24 } := by kernel_rfl
theorem ty99 : tyT Try.prog 99 = some { d := Go.TypeDesc.func #[] #[38, 97] false, sz := 1, ze := some [.nilfn], bytes := 8 } := by kernel_rfl
theorem ty100 : tyT Try.prog 100 = some { d := Go.TypeDesc.func #[44] #[39] false, sz := 1, ze := some [.nilfn], bytes := 8 } := by kernel_rfl
theorem ty101 : tyT Try.prog 101 = some { d := Go.TypeDesc.func #[105] #[46] false, sz := 1, ze := some [.nilfn], bytes := 8 } := by kernel_rfl
theorem ty102 : tyT Try.prog 102 = some { d := Go.TypeDesc.int (Go.IntKind.i64), sz := 1, ze := some [.int .i64 0], bytes := 8 } := by kernel_rfl
theorem ty103 : tyT Try.prog 103 = some { d := Go.TypeDesc.array 4 102, sz := 4, ze := some [.int .i64 0, .int .i64 0, .int .i64 0, .int .i64 0], bytes := 32 } := by kernel_rfl
theorem ty104 : tyT Try.prog 104 = some { d := Go.TypeDesc.array 3 103, sz := 12, ze := some [.int .i64 0, .int .i64 0, .int .i64 0, .int .i64 0, .int .i64 0, .int .i64 0, .int .i64 0, .int .i64 0, .int .i64 0, .int .i64 0, .int .i64 0, .int .i64 0], bytes := 96 } := by kernel_rfl
theorem ty105 : tyT Try.prog 105 = some { d := Go.TypeDesc.array 3 103, sz := 12, ze := some [.int .i64 0, .int .i64 0, .int .i64 0, .int .i64 0, .int .i64 0, .int .i64 0, .int .i64 0, .int .i64 0, .int .i64 0, .int .i64 0, .int .i64 0, .int .i64 0], bytes := 96 } := by kernel_rfl
theorem ty106 : tyT Try.prog 106 = some { d := Go.TypeDesc.func #[44] #[105] false, sz := 1, ze := some [.nilfn], bytes := 8 } := by kernel_rfl
theorem ty107 : tyT Try.prog 107 = some { d := Go.TypeDesc.struct #[{ name := "rows", type := 51, offset := 0, embedded := false, tag := "", pkgPath := "maculature/offset", byteOffset := 0 }, { name := "letters", type := 3, offset := 1, embedded := false, tag := "", pkgPath := "maculature/offset", byteOffset := 24 }, { name := "way", type := 44, offset := 2, embedded := false, tag := "", pkgPath := "maculature/offset", byteOffset := 32 }], sz := 6, ze := some [.nilsl, .int .i64 0, .int .i64 0, .bool false, .int .i64 0, .int .i64 0], bytes := 64 } := by kernel_rfl
theorem ty108 : tyT Try.prog 108 = some { d := Go.TypeDesc.struct #[{ name := "rows", type := 51, offset := 0, embedded := false, tag := "", pkgPath := "maculature/offset", byteOffset := 0 }, { name := "letters", type := 3, offset := 1, embedded := false, tag := "", pkgPath := "maculature/offset", byteOffset := 24 }, { name := "way", type := 44, offset := 2, embedded := false, tag := "", pkgPath := "maculature/offset", byteOffset := 32 }], sz := 6, ze := some [.nilsl, .int .i64 0, .int .i64 0, .bool false, .int .i64 0, .int .i64 0], bytes := 64 } := by kernel_rfl
theorem ty109 : tyT Try.prog 109 = some { d := Go.TypeDesc.func #[108] #[3] false, sz := 1, ze := some [.nilfn], bytes := 8 } := by kernel_rfl
theorem ty110 : tyT Try.prog 110 = some { d := Go.TypeDesc.struct #[{ name := "best", type := 108, offset := 0, embedded := false, tag := "", pkgPath := "maculature/offset", byteOffset := 0 }, { name := "faults", type := 3, offset := 6, embedded := false, tag := "", pkgPath := "maculature/offset", byteOffset := 64 }, { name := "some", type := 4, offset := 7, embedded := false, tag := "", pkgPath := "maculature/offset", byteOffset := 72 }, { name := "count", type := 109, offset := 8, embedded := false, tag := "", pkgPath := "maculature/offset", byteOffset := 80 }], sz := 9, ze := some [.nilsl, .int .i64 0, .int .i64 0, .bool false, .int .i64 0, .int .i64 0, .int .i64 0, .bool false, .nilfn], bytes := 88 } := by kernel_rfl
theorem ty111 : tyT Try.prog 111 = some { d := Go.TypeDesc.struct #[{ name := "best", type := 108, offset := 0, embedded := false, tag := "", pkgPath := "maculature/offset", byteOffset := 0 }, { name := "faults", type := 3, offset := 6, embedded := false, tag := "", pkgPath := "maculature/offset", byteOffset := 64 }, { name := "some", type := 4, offset := 7, embedded := false, tag := "", pkgPath := "maculature/offset", byteOffset := 72 }, { name := "count", type := 109, offset := 8, embedded := false, tag := "", pkgPath := "maculature/offset", byteOffset := 80 }], sz := 9, ze := some [.nilsl, .int .i64 0, .int .i64 0, .bool false, .int .i64 0, .int .i64 0, .int .i64 0, .bool false, .nilfn], bytes := 88 } := by kernel_rfl
theorem ty112 : tyT Try.prog 112 = some { d := Go.TypeDesc.func #[160] #[] false, sz := 1, ze := some [.nilfn], bytes := 8 } := by kernel_rfl
theorem ty113 : tyT Try.prog 113 = some { d := Go.TypeDesc.func #[160] #[] false, sz := 1, ze := some [.nilfn], bytes := 8 } := by kernel_rfl
theorem ty114 : tyT Try.prog 114 = some { d := Go.TypeDesc.func #[3] #[113] false, sz := 1, ze := some [.nilfn], bytes := 8 } := by kernel_rfl
theorem ty116 : tyT Try.prog 116 = some { d := Go.TypeDesc.func #[44] #[108, 4] false, sz := 1, ze := some [.nilfn], bytes := 8 } := by kernel_rfl
theorem ty117 : tyT Try.prog 117 = some { d := Go.TypeDesc.func #[108] #[] false, sz := 1, ze := some [.nilfn], bytes := 8 } := by kernel_rfl
theorem ty118 : tyT Try.prog 118 = some { d := Go.TypeDesc.func #[22] #[22] false, sz := 1, ze := some [.nilfn], bytes := 8 } := by kernel_rfl
theorem ty119 : tyT Try.prog 119 = some { d := Go.TypeDesc.func #[] #[102] false, sz := 1, ze := some [.nilfn], bytes := 8 } := by kernel_rfl
theorem ty120 : tyT Try.prog 120 = some { d := Go.TypeDesc.int (Go.IntKind.i64), sz := 1, ze := some [.int .i64 0], bytes := 8 } := by kernel_rfl
theorem ty121 : tyT Try.prog 121 = some { d := Go.TypeDesc.func #[] #[120] false, sz := 1, ze := some [.nilfn], bytes := 8 } := by kernel_rfl
theorem ty122 : tyT Try.prog 122 = some { d := Go.TypeDesc.func #[23, 3] #[25] false, sz := 1, ze := some [.nilfn], bytes := 8 } := by kernel_rfl
theorem ty123 : tyT Try.prog 123 = some { d := Go.TypeDesc.func #[3, 3] #[3] false, sz := 1, ze := some [.nilfn], bytes := 8 } := by kernel_rfl
theorem ty124 : tyT Try.prog 124 = some { d := Go.TypeDesc.func #[23, 25, 3, 3] #[51] false, sz := 1, ze := some [.nilfn], bytes := 8 } := by kernel_rfl
theorem ty125 : tyT Try.prog 125 = some { d := Go.TypeDesc.func #[3, 46] #[3] false, sz := 1, ze := some [.nilfn], bytes := 8 } := by kernel_rfl
theorem ty126 : tyT Try.prog 126 = some { d := Go.TypeDesc.func #[3, 3] #[4] false, sz := 1, ze := some [.nilfn], bytes := 8 } := by kernel_rfl
theorem ty127 : tyT Try.prog 127 = some { d := Go.TypeDesc.func #[44, 3, 3] #[102] false, sz := 1, ze := some [.nilfn], bytes := 8 } := by kernel_rfl
theorem ty128 : tyT Try.prog 128 = some { d := Go.TypeDesc.array 2 3, sz := 2, ze := some [.int .i64 0, .int .i64 0], bytes := 16 } := by kernel_rfl
theorem ty129 : tyT Try.prog 129 = some { d := Go.TypeDesc.map 102 3, sz := 1, ze := some [.nilmap], bytes := 8 } := by kernel_rfl
theorem ty130 : tyT Try.prog 130 = some { d := Go.TypeDesc.func #[128] #[3] false, sz := 1, ze := some [.nilfn], bytes := 8 } := by kernel_rfl
theorem ty131 : tyT Try.prog 131 = some { d := Go.TypeDesc.struct #[{ name := "best", type := 128, offset := 0, embedded := false, tag := "", pkgPath := "maculature/offset", byteOffset := 0 }, { name := "faults", type := 3, offset := 2, embedded := false, tag := "", pkgPath := "maculature/offset", byteOffset := 16 }, { name := "some", type := 4, offset := 3, embedded := false, tag := "", pkgPath := "maculature/offset", byteOffset := 24 }, { name := "count", type := 130, offset := 4, embedded := false, tag := "", pkgPath := "maculature/offset", byteOffset := 32 }], sz := 5, ze := some [.int .i64 0, .int .i64 0, .int .i64 0, .bool false, .nilfn], bytes := 40 } := by kernel_rfl
theorem ty132 : tyT Try.prog 132 = some { d := Go.TypeDesc.struct #[{ name := "best", type := 128, offset := 0, embedded := false, tag := "", pkgPath := "maculature/offset", byteOffset := 0 }, { name := "faults", type := 3, offset := 2, embedded := false, tag := "", pkgPath := "maculature/offset", byteOffset := 16 }, { name := "some", type := 4, offset := 3, embedded := false, tag := "", pkgPath := "maculature/offset", byteOffset := 24 }, { name := "count", type := 130, offset := 4, embedded := false, tag := "", pkgPath := "maculature/offset", byteOffset := 32 }], sz := 5, ze := some [.int .i64 0, .int .i64 0, .int .i64 0, .bool false, .nilfn], bytes := 40 } := by kernel_rfl
theorem ty133 : tyT Try.prog 133 = some { d := Go.TypeDesc.func #[128] #[] false, sz := 1, ze := some [.nilfn], bytes := 8 } := by kernel_rfl
theorem ty134 : tyT Try.prog 134 = some { d := Go.TypeDesc.map 105 4, sz := 1, ze := some [.nilmap], bytes := 8 } := by kernel_rfl
theorem ty135 : tyT Try.prog 135 = some { d := Go.TypeDesc.func #[44] #[3] false, sz := 1, ze := some [.nilfn], bytes := 8 } := by kernel_rfl
theorem ty136 : tyT Try.prog 136 = some { d := Go.TypeDesc.struct #[{ name := "best", type := 44, offset := 0, embedded := false, tag := "", pkgPath := "maculature/offset", byteOffset := 0 }, { name := "faults", type := 3, offset := 4, embedded := false, tag := "", pkgPath := "maculature/offset", byteOffset := 32 }, { name := "some", type := 4, offset := 5, embedded := false, tag := "", pkgPath := "maculature/offset", byteOffset := 40 }, { name := "count", type := 135, offset := 6, embedded := false, tag := "", pkgPath := "maculature/offset", byteOffset := 48 }], sz := 7, ze := some [.int .i64 0, .bool false, .int .i64 0, .int .i64 0, .int .i64 0, .bool false, .nilfn], bytes := 56 } := by kernel_rfl
theorem ty137 : tyT Try.prog 137 = some { d := Go.TypeDesc.struct #[{ name := "best", type := 44, offset := 0, embedded := false, tag := "", pkgPath := "maculature/offset", byteOffset := 0 }, { name := "faults", type := 3, offset := 4, embedded := false, tag := "", pkgPath := "maculature/offset", byteOffset := 32 }, { name := "some", type := 4, offset := 5, embedded := false, tag := "", pkgPath := "maculature/offset", byteOffset := 40 }, { name := "count", type := 135, offset := 6, embedded := false, tag := "", pkgPath := "maculature/offset", byteOffset := 48 }], sz := 7, ze := some [.int .i64 0, .bool false, .int .i64 0, .int .i64 0, .int .i64 0, .bool false, .nilfn], bytes := 56 } := by kernel_rfl
theorem ty138 : tyT Try.prog 138 = some { d := Go.TypeDesc.func #[] #[113] false, sz := 1, ze := some [.nilfn], bytes := 8 } := by kernel_rfl
theorem ty139 : tyT Try.prog 139 = some { d := Go.TypeDesc.func #[44] #[] false, sz := 1, ze := some [.nilfn], bytes := 8 } := by kernel_rfl
theorem ty140 : tyT Try.prog 140 = some { d := Go.TypeDesc.func #[29, 3, 3, 3] #[3] false, sz := 1, ze := some [.nilfn], bytes := 8 } := by kernel_rfl
theorem ty141 : tyT Try.prog 141 = some { d := Go.TypeDesc.func #[35] #[4] false, sz := 1, ze := some [.nilfn], bytes := 8 } := by kernel_rfl
theorem ty142 : tyT Try.prog 142 = some { d := Go.TypeDesc.func #[27, 144] #[4] false, sz := 1, ze := some [.nilfn], bytes := 8 } := by kernel_rfl
theorem ty143 : tyT Try.prog 143 = some { d := Go.TypeDesc.func #[33, 141] #[4] false, sz := 1, ze := some [.nilfn], bytes := 8 } := by kernel_rfl
theorem ty144 : tyT Try.prog 144 = some { d := Go.TypeDesc.func #[33] #[4] false, sz := 1, ze := some [.nilfn], bytes := 8 } := by kernel_rfl
theorem ty145 : tyT Try.prog 145 = some { d := Go.TypeDesc.func #[] #[22] false, sz := 1, ze := some [.nilfn], bytes := 8 } := by kernel_rfl
theorem ty146 : tyT Try.prog 146 = some { d := Go.TypeDesc.func #[22, 3] #[4] false, sz := 1, ze := some [.nilfn], bytes := 8 } := by kernel_rfl
theorem ty147 : tyT Try.prog 147 = some { d := Go.TypeDesc.func #[35, 35, 35, 35] #[29] false, sz := 1, ze := some [.nilfn], bytes := 8 } := by kernel_rfl
theorem ty148 : tyT Try.prog 148 = some { d := Go.TypeDesc.struct #[{ name := "e", type := 39, offset := 0, embedded := false, tag := "", pkgPath := "maculature/offset", byteOffset := 0 }], sz := 1, ze := some [.int .i64 0], bytes := 8 } := by kernel_rfl
theorem ty149 : tyT Try.prog 149 = some { d := Go.TypeDesc.struct #[{ name := "e", type := 39, offset := 0, embedded := false, tag := "", pkgPath := "maculature/offset", byteOffset := 0 }], sz := 1, ze := some [.int .i64 0], bytes := 8 } := by kernel_rfl
theorem ty151 : tyT Try.prog 151 = some { d := Go.TypeDesc.func #[39] #[] false, sz := 1, ze := some [.nilfn], bytes := 8 } := by kernel_rfl
theorem ty152 : tyT Try.prog 152 = some { d := Go.TypeDesc.func #[155] #[39] false, sz := 1, ze := some [.nilfn], bytes := 8 } := by kernel_rfl
theorem ty153 : tyT Try.prog 153 = some { d := Go.TypeDesc.slice 184, sz := 1, ze := some [.nilsl], bytes := 24 } := by kernel_rfl
theorem ty154 : tyT Try.prog 154 = some { d := Go.TypeDesc.struct #[{ name := "Glyphs", type := 25, offset := 0, embedded := false, tag := "", pkgPath := "", byteOffset := 0 }, { name := "Lights", type := 46, offset := 1, embedded := false, tag := "", pkgPath := "", byteOffset := 24 }, { name := "Cells", type := 153, offset := 2, embedded := false, tag := "", pkgPath := "", byteOffset := 48 }], sz := 3, ze := some [.nilsl, .nilsl, .nilsl], bytes := 72 } := by kernel_rfl
theorem ty155 : tyT Try.prog 155 = some { d := Go.TypeDesc.struct #[{ name := "Glyphs", type := 25, offset := 0, embedded := false, tag := "", pkgPath := "", byteOffset := 0 }, { name := "Lights", type := 46, offset := 1, embedded := false, tag := "", pkgPath := "", byteOffset := 24 }, { name := "Cells", type := 153, offset := 2, embedded := false, tag := "", pkgPath := "", byteOffset := 48 }], sz := 3, ze := some [.nilsl, .nilsl, .nilsl], bytes := 72 } := by kernel_rfl
theorem ty156 : tyT Try.prog 156 = some { d := Go.TypeDesc.func #[3, 3] #[39] false, sz := 1, ze := some [.nilfn], bytes := 8 } := by kernel_rfl
theorem ty157 : tyT Try.prog 157 = some { d := Go.TypeDesc.func #[51] #[] false, sz := 1, ze := some [.nilfn], bytes := 8 } := by kernel_rfl
theorem ty158 : tyT Try.prog 158 = some { d := Go.TypeDesc.func #[27] #[] false, sz := 1, ze := some [.nilfn], bytes := 8 } := by kernel_rfl
theorem ty159 : tyT Try.prog 159 = some { d := Go.TypeDesc.func #[105, 3, 3] #[4] false, sz := 1, ze := some [.nilfn], bytes := 8 } := by kernel_rfl
theorem ty160 : tyT Try.prog 160 = some { d := Go.TypeDesc.func #[44, 105] #[4] false, sz := 1, ze := some [.nilfn], bytes := 8 } := by kernel_rfl
theorem ty161 : tyT Try.prog 161 = some { d := Go.TypeDesc.slice 162, sz := 1, ze := some [.nilsl], bytes := 24 } := by kernel_rfl
theorem ty162 : tyT Try.prog 162 = some { d := Go.TypeDesc.slice 5, sz := 1, ze := some [.nilsl], bytes := 24 } := by kernel_rfl
theorem ty164 : tyT Try.prog 164 = some { d := Go.TypeDesc.func #[44, 3, 3] #[3, 3, 4] false, sz := 1, ze := some [.nilfn], bytes := 8 } := by kernel_rfl
theorem ty166 : tyT Try.prog 166 = some { d := Go.TypeDesc.func #[44, 3, 3] #[5, 4] false, sz := 1, ze := some [.nilfn], bytes := 8 } := by kernel_rfl
theorem ty167 : tyT Try.prog 167 = some { d := Go.TypeDesc.pointer 111, sz := 1, ze := some [.nilptr], bytes := 8 } := by kernel_rfl
theorem ty168 : tyT Try.prog 168 = some { d := Go.TypeDesc.array 6 102, sz := 6, ze := some [.int .i64 0, .int .i64 0, .int .i64 0, .int .i64 0, .int .i64 0, .int .i64 0], bytes := 48 } := by kernel_rfl
theorem ty169 : tyT Try.prog 169 = some { d := Go.TypeDesc.func #[3] #[22] false, sz := 1, ze := some [.nilfn], bytes := 8 } := by kernel_rfl
theorem ty170 : tyT Try.prog 170 = some { d := Go.TypeDesc.func #[44, 102] #[102] false, sz := 1, ze := some [.nilfn], bytes := 8 } := by kernel_rfl
theorem ty171 : tyT Try.prog 171 = some { d := Go.TypeDesc.chan (Go.ChanDir.both) 4, sz := 1, ze := some [.any], bytes := 8 } := by kernel_rfl
theorem ty172 : tyT Try.prog 172 = some { d := Go.TypeDesc.func #[105, 105] #[4] false, sz := 1, ze := some [.nilfn], bytes := 8 } := by kernel_rfl
theorem ty173 : tyT Try.prog 173 = some { d := Go.TypeDesc.pointer 132, sz := 1, ze := some [.nilptr], bytes := 8 } := by kernel_rfl
theorem ty174 : tyT Try.prog 174 = some { d := Go.TypeDesc.pointer 137, sz := 1, ze := some [.nilptr], bytes := 8 } := by kernel_rfl
theorem ty175 : tyT Try.prog 175 = some { d := Go.TypeDesc.func #[27, 144] #[3] false, sz := 1, ze := some [.nilfn], bytes := 8 } := by kernel_rfl
theorem ty176 : tyT Try.prog 176 = some { d := Go.TypeDesc.func #[33, 141] #[3] false, sz := 1, ze := some [.nilfn], bytes := 8 } := by kernel_rfl
theorem ty177 : tyT Try.prog 177 = some { d := Go.TypeDesc.func #[22, 3] #[3] false, sz := 1, ze := some [.nilfn], bytes := 8 } := by kernel_rfl
theorem ty178 : tyT Try.prog 178 = some { d := Go.TypeDesc.array 3 152, sz := 3, ze := some [.nilfn, .nilfn, .nilfn], bytes := 24 } := by kernel_rfl
theorem ty180 : tyT Try.prog 180 = some { d := Go.TypeDesc.func #[102] #[102] false, sz := 1, ze := some [.nilfn], bytes := 8 } := by kernel_rfl
theorem ty181 : tyT Try.prog 181 = some { d := Go.TypeDesc.array 2 180, sz := 2, ze := some [.nilfn, .nilfn], bytes := 16 } := by kernel_rfl
theorem ty182 : tyT Try.prog 182 = some { d := Go.TypeDesc.func #[25, 183] #[4] false, sz := 1, ze := some [.nilfn], bytes := 8 } := by kernel_rfl
theorem ty183 : tyT Try.prog 183 = some { d := Go.TypeDesc.func #[56] #[4] false, sz := 1, ze := some [.nilfn], bytes := 8 } := by kernel_rfl
theorem ty184 : tyT Try.prog 184 = some { d := Go.TypeDesc.slice 186, sz := 1, ze := some [.nilsl], bytes := 24 } := by kernel_rfl
theorem ty185 : tyT Try.prog 185 = some { d := Go.TypeDesc.struct #[{ name := "Light", type := 3, offset := 0, embedded := false, tag := "", pkgPath := "", byteOffset := 0 }, { name := "Seen", type := 3, offset := 1, embedded := false, tag := "", pkgPath := "", byteOffset := 8 }, { name := "Bare", type := 3, offset := 2, embedded := false, tag := "", pkgPath := "", byteOffset := 16 }], sz := 3, ze := some [.int .i64 0, .int .i64 0, .int .i64 0], bytes := 24 } := by kernel_rfl
theorem ty186 : tyT Try.prog 186 = some { d := Go.TypeDesc.struct #[{ name := "Light", type := 3, offset := 0, embedded := false, tag := "", pkgPath := "", byteOffset := 0 }, { name := "Seen", type := 3, offset := 1, embedded := false, tag := "", pkgPath := "", byteOffset := 8 }, { name := "Bare", type := 3, offset := 2, embedded := false, tag := "", pkgPath := "", byteOffset := 16 }], sz := 3, ze := some [.int .i64 0, .int .i64 0, .int .i64 0], bytes := 24 } := by kernel_rfl
theorem ty187 : tyT Try.prog 187 = some { d := Go.TypeDesc.func #[155, 184, 186] #[39] false, sz := 1, ze := some [.nilfn], bytes := 8 } := by kernel_rfl
theorem ty188 : tyT Try.prog 188 = some { d := Go.TypeDesc.func #[25, 183] #[3] false, sz := 1, ze := some [.nilfn], bytes := 8 } := by kernel_rfl
theorem ty190 : tyT Try.prog 190 = some { d := Go.TypeDesc.func #[155, 184, 186] #[] false, sz := 1, ze := some [.nilfn], bytes := 8 } := by kernel_rfl
theorem ty191 : tyT Try.prog 191 = some { d := Go.TypeDesc.func #[184, 192] #[4] false, sz := 1, ze := some [.nilfn], bytes := 8 } := by kernel_rfl
theorem ty192 : tyT Try.prog 192 = some { d := Go.TypeDesc.func #[186] #[4] false, sz := 1, ze := some [.nilfn], bytes := 8 } := by kernel_rfl
theorem ty193 : tyT Try.prog 193 = some { d := Go.TypeDesc.func #[120] #[4] false, sz := 1, ze := some [.nilfn], bytes := 8 } := by kernel_rfl
theorem ty194 : tyT Try.prog 194 = some { d := Go.TypeDesc.func #[184, 192] #[3] false, sz := 1, ze := some [.nilfn], bytes := 8 } := by kernel_rfl
theorem ty195 : tyT Try.prog 195 = some { d := Go.TypeDesc.func #[] #[9] false, sz := 1, ze := some [.nilfn], bytes := 8 } := by kernel_rfl
theorem ty196 : tyT Try.prog 196 = some { d := Go.TypeDesc.struct #[{ name := "_interface", type := 17, offset := 0, embedded := false, tag := "", pkgPath := "runtime", byteOffset := 0 }, { name := "concrete", type := 17, offset := 1, embedded := false, tag := "", pkgPath := "runtime", byteOffset := 8 }, { name := "asserted", type := 17, offset := 2, embedded := false, tag := "", pkgPath := "runtime", byteOffset := 16 }, { name := "missingMethod", type := 9, offset := 3, embedded := false, tag := "", pkgPath := "runtime", byteOffset := 24 }], sz := 4, ze := some [.nilptr, .nilptr, .nilptr, .str []], bytes := 40 } := by kernel_rfl
theorem ty197 : tyT Try.prog 197 = some { d := Go.TypeDesc.struct #[{ name := "_interface", type := 17, offset := 0, embedded := false, tag := "", pkgPath := "runtime", byteOffset := 0 }, { name := "concrete", type := 17, offset := 1, embedded := false, tag := "", pkgPath := "runtime", byteOffset := 8 }, { name := "asserted", type := 17, offset := 2, embedded := false, tag := "", pkgPath := "runtime", byteOffset := 16 }, { name := "missingMethod", type := 9, offset := 3, embedded := false, tag := "", pkgPath := "runtime", byteOffset := 24 }], sz := 4, ze := some [.nilptr, .nilptr, .nilptr, .str []], bytes := 40 } := by kernel_rfl
theorem ty198 : tyT Try.prog 198 = some { d := Go.TypeDesc.array 0 16, sz := 0, ze := some [], bytes := 0 } := by kernel_rfl
theorem ty199 : tyT Try.prog 199 = some { d := Go.TypeDesc.struct #[{ name := "_", type := 198, offset := 0, embedded := false, tag := "", pkgPath := "runtime", byteOffset := 0 }], sz := 0, ze := some [], bytes := 0 } := by kernel_rfl
theorem ty200 : tyT Try.prog 200 = some { d := Go.TypeDesc.struct #[{ name := "_", type := 198, offset := 0, embedded := false, tag := "", pkgPath := "runtime", byteOffset := 0 }], sz := 0, ze := some [], bytes := 0 } := by kernel_rfl
theorem ty201 : tyT Try.prog 201 = some { d := Go.TypeDesc.func #[] #[3] false, sz := 1, ze := some [.nilfn], bytes := 8 } := by kernel_rfl
theorem ty202 : tyT Try.prog 202 = some { d := Go.TypeDesc.int (Go.IntKind.u32), sz := 1, ze := some [.int .u32 0], bytes := 4 } := by kernel_rfl
theorem ty203 : tyT Try.prog 203 = some { d := Go.TypeDesc.int (Go.IntKind.u8), sz := 1, ze := some [.int .u8 0], bytes := 1 } := by kernel_rfl
theorem ty204 : tyT Try.prog 204 = some { d := Go.TypeDesc.int (Go.IntKind.u8), sz := 1, ze := some [.int .u8 0], bytes := 1 } := by kernel_rfl
theorem ty206 : tyT Try.prog 206 = some { d := Go.TypeDesc.pointer 5, sz := 1, ze := some [.nilptr], bytes := 8 } := by kernel_rfl
theorem ty207 : tyT Try.prog 207 = some { d := Go.TypeDesc.int (Go.IntKind.i32), sz := 1, ze := some [.int .i32 0], bytes := 4 } := by kernel_rfl
theorem ty208 : tyT Try.prog 208 = some { d := Go.TypeDesc.int (Go.IntKind.i32), sz := 1, ze := some [.int .i32 0], bytes := 4 } := by kernel_rfl
theorem ty210 : tyT Try.prog 210 = some { d := Go.TypeDesc.struct #[{ name := "Size_", type := 12, offset := 0, embedded := false, tag := "", pkgPath := "", byteOffset := 0 }, { name := "PtrBytes", type := 12, offset := 1, embedded := false, tag := "", pkgPath := "", byteOffset := 8 }, { name := "Hash", type := 202, offset := 2, embedded := false, tag := "", pkgPath := "", byteOffset := 16 }, { name := "TFlag", type := 203, offset := 3, embedded := false, tag := "", pkgPath := "", byteOffset := 20 }, { name := "Align_", type := 5, offset := 4, embedded := false, tag := "", pkgPath := "", byteOffset := 21 }, { name := "FieldAlign_", type := 5, offset := 5, embedded := false, tag := "", pkgPath := "", byteOffset := 22 }, { name := "Kind_", type := 204, offset := 6, embedded := false, tag := "", pkgPath := "", byteOffset := 23 }, { name := "Equal", type := 205, offset := 7, embedded := false, tag := "", pkgPath := "", byteOffset := 24 }, { name := "GCData", type := 206, offset := 8, embedded := false, tag := "", pkgPath := "", byteOffset := 32 }, { name := "Str", type := 207, offset := 9, embedded := false, tag := "", pkgPath := "", byteOffset := 40 }, { name := "PtrToThis", type := 208, offset := 10, embedded := false, tag := "", pkgPath := "", byteOffset := 44 }], sz := 11, ze := some [.int .u64 0, .int .u64 0, .int .u32 0, .int .u8 0, .int .u8 0, .int .u8 0, .int .u8 0, .nilfn, .nilptr, .int .i32 0, .int .i32 0], bytes := 48 } := by kernel_rfl
theorem call2 : callable Try.prog 2 = True := eq_true ⟨_, Try.func2, rfl, rfl⟩
theorem call3 : callable Try.prog 3 = True := eq_true ⟨_, Try.func3, rfl, rfl⟩
theorem call4 : callable Try.prog 4 = True := eq_true ⟨_, Try.func4, rfl, rfl⟩
theorem call5 : callable Try.prog 5 = True := eq_true ⟨_, Try.func5, rfl, rfl⟩
theorem call6 : callable Try.prog 6 = True := eq_true ⟨_, Try.func6, rfl, rfl⟩
theorem call7 : callable Try.prog 7 = True := eq_true ⟨_, Try.func7, rfl, rfl⟩
theorem call8 : callable Try.prog 8 = True := eq_true ⟨_, Try.func8, rfl, rfl⟩
theorem call9 : callable Try.prog 9 = True := eq_true ⟨_, Try.func9, rfl, rfl⟩
theorem call10 : callable Try.prog 10 = True := eq_true ⟨_, Try.func10, rfl, rfl⟩
theorem call11 : callable Try.prog 11 = True := eq_true ⟨_, Try.func11, rfl, rfl⟩
theorem call12 : callable Try.prog 12 = True := eq_true ⟨_, Try.func12, rfl, rfl⟩
theorem call13 : callable Try.prog 13 = True := eq_true ⟨_, Try.func13, rfl, rfl⟩
theorem call14 : callable Try.prog 14 = True := eq_true ⟨_, Try.func14, rfl, rfl⟩
theorem call15 : callable Try.prog 15 = True := eq_true ⟨_, Try.func15, rfl, rfl⟩
theorem call16 : callable Try.prog 16 = True := eq_true ⟨_, Try.func16, rfl, rfl⟩
theorem call17 : callable Try.prog 17 = True := eq_true ⟨_, Try.func17, rfl, rfl⟩
theorem call18 : callable Try.prog 18 = True := eq_true ⟨_, Try.func18, rfl, rfl⟩
theorem call19 : callable Try.prog 19 = True := eq_true ⟨_, Try.func19, rfl, rfl⟩
theorem call20 : callable Try.prog 20 = True := eq_true ⟨_, Try.func20, rfl, rfl⟩
theorem call21 : callable Try.prog 21 = True := eq_true ⟨_, Try.func21, rfl, rfl⟩
theorem call22 : callable Try.prog 22 = True := eq_true ⟨_, Try.func22, rfl, rfl⟩
theorem call23 : callable Try.prog 23 = True := eq_true ⟨_, Try.func23, rfl, rfl⟩
theorem call24 : callable Try.prog 24 = True := eq_true ⟨_, Try.func24, rfl, rfl⟩
theorem call25 : callable Try.prog 25 = True := eq_true ⟨_, Try.func25, rfl, rfl⟩
theorem call26 : callable Try.prog 26 = True := eq_true ⟨_, Try.func26, rfl, rfl⟩
theorem call27 : callable Try.prog 27 = True := eq_true ⟨_, Try.func27, rfl, rfl⟩
theorem call28 : callable Try.prog 28 = True := eq_true ⟨_, Try.func28, rfl, rfl⟩
theorem call29 : callable Try.prog 29 = True := eq_true ⟨_, Try.func29, rfl, rfl⟩
theorem call30 : callable Try.prog 30 = True := eq_true ⟨_, Try.func30, rfl, rfl⟩
theorem call31 : callable Try.prog 31 = True := eq_true ⟨_, Try.func31, rfl, rfl⟩
theorem call32 : callable Try.prog 32 = True := eq_true ⟨_, Try.func32, rfl, rfl⟩
theorem call33 : callable Try.prog 33 = True := eq_true ⟨_, Try.func33, rfl, rfl⟩
theorem call34 : callable Try.prog 34 = True := eq_true ⟨_, Try.func34, rfl, rfl⟩
theorem call35 : callable Try.prog 35 = True := eq_true ⟨_, Try.func35, rfl, rfl⟩
theorem call36 : callable Try.prog 36 = True := eq_true ⟨_, Try.func36, rfl, rfl⟩
theorem call37 : callable Try.prog 37 = True := eq_true ⟨_, Try.func37, rfl, rfl⟩
theorem call38 : callable Try.prog 38 = True := eq_true ⟨_, Try.func38, rfl, rfl⟩
theorem call39 : callable Try.prog 39 = True := eq_true ⟨_, Try.func39, rfl, rfl⟩
theorem call40 : callable Try.prog 40 = True := eq_true ⟨_, Try.func40, rfl, rfl⟩
theorem call41 : callable Try.prog 41 = True := eq_true ⟨_, Try.func41, rfl, rfl⟩
theorem call42 : callable Try.prog 42 = True := eq_true ⟨_, Try.func42, rfl, rfl⟩
theorem call43 : callable Try.prog 43 = True := eq_true ⟨_, Try.func43, rfl, rfl⟩
theorem call44 : callable Try.prog 44 = True := eq_true ⟨_, Try.func44, rfl, rfl⟩
theorem call45 : callable Try.prog 45 = True := eq_true ⟨_, Try.func45, rfl, rfl⟩
theorem call46 : callable Try.prog 46 = True := eq_true ⟨_, Try.func46, rfl, rfl⟩
theorem call47 : callable Try.prog 47 = True := eq_true ⟨_, Try.func47, rfl, rfl⟩
theorem call48 : callable Try.prog 48 = True := eq_true ⟨_, Try.func48, rfl, rfl⟩
theorem call49 : callable Try.prog 49 = True := eq_true ⟨_, Try.func49, rfl, rfl⟩
theorem call50 : callable Try.prog 50 = True := eq_true ⟨_, Try.func50, rfl, rfl⟩
theorem call51 : callable Try.prog 51 = True := eq_true ⟨_, Try.func51, rfl, rfl⟩
theorem call52 : callable Try.prog 52 = True := eq_true ⟨_, Try.func52, rfl, rfl⟩
theorem call53 : callable Try.prog 53 = True := eq_true ⟨_, Try.func53, rfl, rfl⟩
theorem call54 : callable Try.prog 54 = True := eq_true ⟨_, Try.func54, rfl, rfl⟩
theorem call55 : callable Try.prog 55 = True := eq_true ⟨_, Try.func55, rfl, rfl⟩
theorem call56 : callable Try.prog 56 = True := eq_true ⟨_, Try.func56, rfl, rfl⟩
theorem call57 : callable Try.prog 57 = True := eq_true ⟨_, Try.func57, rfl, rfl⟩
theorem call58 : callable Try.prog 58 = True := eq_true ⟨_, Try.func58, rfl, rfl⟩
theorem call59 : callable Try.prog 59 = True := eq_true ⟨_, Try.func59, rfl, rfl⟩
theorem call60 : callable Try.prog 60 = True := eq_true ⟨_, Try.func60, rfl, rfl⟩
theorem call61 : callable Try.prog 61 = True := eq_true ⟨_, Try.func61, rfl, rfl⟩
theorem call62 : callable Try.prog 62 = True := eq_true ⟨_, Try.func62, rfl, rfl⟩
theorem call63 : callable Try.prog 63 = True := eq_true ⟨_, Try.func63, rfl, rfl⟩
theorem call64 : callable Try.prog 64 = True := eq_true ⟨_, Try.func64, rfl, rfl⟩
theorem call65 : callable Try.prog 65 = True := eq_true ⟨_, Try.func65, rfl, rfl⟩
theorem call66 : callable Try.prog 66 = True := eq_true ⟨_, Try.func66, rfl, rfl⟩
theorem call67 : callable Try.prog 67 = True := eq_true ⟨_, Try.func67, rfl, rfl⟩
theorem call68 : callable Try.prog 68 = True := eq_true ⟨_, Try.func68, rfl, rfl⟩
theorem call69 : callable Try.prog 69 = True := eq_true ⟨_, Try.func69, rfl, rfl⟩
theorem call70 : callable Try.prog 70 = True := eq_true ⟨_, Try.func70, rfl, rfl⟩
theorem call71 : callable Try.prog 71 = True := eq_true ⟨_, Try.func71, rfl, rfl⟩
theorem call72 : callable Try.prog 72 = True := eq_true ⟨_, Try.func72, rfl, rfl⟩
theorem call73 : callable Try.prog 73 = True := eq_true ⟨_, Try.func73, rfl, rfl⟩
theorem call74 : callable Try.prog 74 = True := eq_true ⟨_, Try.func74, rfl, rfl⟩
theorem call75 : callable Try.prog 75 = True := eq_true ⟨_, Try.func75, rfl, rfl⟩
theorem call76 : callable Try.prog 76 = True := eq_true ⟨_, Try.func76, rfl, rfl⟩
theorem call77 : callable Try.prog 77 = True := eq_true ⟨_, Try.func77, rfl, rfl⟩
theorem call78 : callable Try.prog 78 = True := eq_true ⟨_, Try.func78, rfl, rfl⟩
theorem call79 : callable Try.prog 79 = True := eq_true ⟨_, Try.func79, rfl, rfl⟩
theorem call80 : callable Try.prog 80 = True := eq_true ⟨_, Try.func80, rfl, rfl⟩
theorem call81 : callable Try.prog 81 = True := eq_true ⟨_, Try.func81, rfl, rfl⟩
theorem call82 : callable Try.prog 82 = True := eq_true ⟨_, Try.func82, rfl, rfl⟩
theorem call83 : callable Try.prog 83 = True := eq_true ⟨_, Try.func83, rfl, rfl⟩
theorem call84 : callable Try.prog 84 = True := eq_true ⟨_, Try.func84, rfl, rfl⟩
theorem call85 : callable Try.prog 85 = True := eq_true ⟨_, Try.func85, rfl, rfl⟩
theorem call86 : callable Try.prog 86 = True := eq_true ⟨_, Try.func86, rfl, rfl⟩
theorem call87 : callable Try.prog 87 = True := eq_true ⟨_, Try.func87, rfl, rfl⟩
theorem call88 : callable Try.prog 88 = True := eq_true ⟨_, Try.func88, rfl, rfl⟩
theorem call89 : callable Try.prog 89 = True := eq_true ⟨_, Try.func89, rfl, rfl⟩
theorem call90 : callable Try.prog 90 = True := eq_true ⟨_, Try.func90, rfl, rfl⟩
theorem call91 : callable Try.prog 91 = True := eq_true ⟨_, Try.func91, rfl, rfl⟩
theorem call92 : callable Try.prog 92 = True := eq_true ⟨_, Try.func92, rfl, rfl⟩
theorem call93 : callable Try.prog 93 = True := eq_true ⟨_, Try.func93, rfl, rfl⟩
theorem call94 : callable Try.prog 94 = True := eq_true ⟨_, Try.func94, rfl, rfl⟩
theorem call95 : callable Try.prog 95 = True := eq_true ⟨_, Try.func95, rfl, rfl⟩
theorem call96 : callable Try.prog 96 = True := eq_true ⟨_, Try.func96, rfl, rfl⟩
theorem call97 : callable Try.prog 97 = True := eq_true ⟨_, Try.func97, rfl, rfl⟩
theorem call98 : callable Try.prog 98 = True := eq_true ⟨_, Try.func98, rfl, rfl⟩
theorem call99 : callable Try.prog 99 = True := eq_true ⟨_, Try.func99, rfl, rfl⟩
theorem call100 : callable Try.prog 100 = True := eq_true ⟨_, Try.func100, rfl, rfl⟩
theorem call101 : callable Try.prog 101 = True := eq_true ⟨_, Try.func101, rfl, rfl⟩
theorem call102 : callable Try.prog 102 = True := eq_true ⟨_, Try.func102, rfl, rfl⟩
theorem call103 : callable Try.prog 103 = True := eq_true ⟨_, Try.func103, rfl, rfl⟩
theorem call104 : callable Try.prog 104 = True := eq_true ⟨_, Try.func104, rfl, rfl⟩
theorem call105 : callable Try.prog 105 = True := eq_true ⟨_, Try.func105, rfl, rfl⟩
theorem call106 : callable Try.prog 106 = True := eq_true ⟨_, Try.func106, rfl, rfl⟩
theorem call107 : callable Try.prog 107 = True := eq_true ⟨_, Try.func107, rfl, rfl⟩
theorem call108 : callable Try.prog 108 = True := eq_true ⟨_, Try.func108, rfl, rfl⟩
theorem call109 : callable Try.prog 109 = True := eq_true ⟨_, Try.func109, rfl, rfl⟩
theorem call110 : callable Try.prog 110 = True := eq_true ⟨_, Try.func110, rfl, rfl⟩
theorem call111 : callable Try.prog 111 = True := eq_true ⟨_, Try.func111, rfl, rfl⟩
theorem call112 : callable Try.prog 112 = True := eq_true ⟨_, Try.func112, rfl, rfl⟩
theorem call113 : callable Try.prog 113 = True := eq_true ⟨_, Try.func113, rfl, rfl⟩
theorem call114 : callable Try.prog 114 = True := eq_true ⟨_, Try.func114, rfl, rfl⟩
theorem call115 : callable Try.prog 115 = True := eq_true ⟨_, Try.func115, rfl, rfl⟩
theorem call116 : callable Try.prog 116 = True := eq_true ⟨_, Try.func116, rfl, rfl⟩
theorem call117 : callable Try.prog 117 = True := eq_true ⟨_, Try.func117, rfl, rfl⟩
theorem call118 : callable Try.prog 118 = True := eq_true ⟨_, Try.func118, rfl, rfl⟩
theorem call119 : callable Try.prog 119 = True := eq_true ⟨_, Try.func119, rfl, rfl⟩
theorem call120 : callable Try.prog 120 = True := eq_true ⟨_, Try.func120, rfl, rfl⟩
theorem call121 : callable Try.prog 121 = True := eq_true ⟨_, Try.func121, rfl, rfl⟩
theorem call122 : callable Try.prog 122 = True := eq_true ⟨_, Try.func122, rfl, rfl⟩
theorem call123 : callable Try.prog 123 = True := eq_true ⟨_, Try.func123, rfl, rfl⟩
theorem call124 : callable Try.prog 124 = True := eq_true ⟨_, Try.func124, rfl, rfl⟩
theorem call125 : callable Try.prog 125 = True := eq_true ⟨_, Try.func125, rfl, rfl⟩
theorem call126 : callable Try.prog 126 = True := eq_true ⟨_, Try.func126, rfl, rfl⟩
theorem call127 : callable Try.prog 127 = True := eq_true ⟨_, Try.func127, rfl, rfl⟩
theorem call128 : callable Try.prog 128 = True := eq_true ⟨_, Try.func128, rfl, rfl⟩
theorem call129 : callable Try.prog 129 = True := eq_true ⟨_, Try.func129, rfl, rfl⟩
theorem call130 : callable Try.prog 130 = True := eq_true ⟨_, Try.func130, rfl, rfl⟩
theorem call131 : callable Try.prog 131 = True := eq_true ⟨_, Try.func131, rfl, rfl⟩
theorem call132 : callable Try.prog 132 = True := eq_true ⟨_, Try.func132, rfl, rfl⟩
attribute [go_sem] ty1 ty2 ty3 ty4 ty5 ty6 ty7 ty8 ty9 ty10 ty11 ty12 ty13 ty14 ty15 ty16 ty17 ty18 ty19 ty20 ty21 ty22 ty23 ty24 ty25 ty26 ty27 ty28 ty29 ty30 ty31 ty32 ty33 ty34 ty35 ty36 ty37 ty38 ty39 ty41 ty42 ty43 ty44 ty45 ty46 ty48 ty49 ty50 ty51 ty53 ty54 ty55 ty56 ty57 ty59 ty60 ty61 ty62 ty63 ty64 ty66 ty67 ty68 ty69 ty70 ty72 ty73 ty74 ty75 ty77 ty79 ty80 ty81 ty82 ty83 ty84 ty85 ty86 ty87 ty88 ty89 ty90 ty91 ty92 ty93 ty94 ty96 ty97 ty99 ty100 ty101 ty102 ty103 ty104 ty105 ty106 ty107 ty108 ty109 ty110 ty111 ty112 ty113 ty114 ty116 ty117 ty118 ty119 ty120 ty121 ty122 ty123 ty124 ty125 ty126 ty127 ty128 ty129 ty130 ty131 ty132 ty133 ty134 ty135 ty136 ty137 ty138 ty139 ty140 ty141 ty142 ty143 ty144 ty145 ty146 ty147 ty148 ty149 ty151 ty152 ty153 ty154 ty155 ty156 ty157 ty158 ty159 ty160 ty161 ty162 ty164 ty166 ty167 ty168 ty169 ty170 ty171 ty172 ty173 ty174 ty175 ty176 ty177 ty178 ty180 ty181 ty182 ty183 ty184 ty185 ty186 ty187 ty188 ty190 ty191 ty192 ty193 ty194 ty195 ty196 ty197 ty198 ty199 ty200 ty201 ty202 ty203 ty204 ty206 ty207 ty208 ty210  call2 call3 call4 call5 call6 call7 call8 call9 call10 call11 call12 call13 call14 call15 call16 call17 call18 call19 call20 call21 call22 call23 call24 call25 call26 call27 call28 call29 call30 call31 call32 call33 call34 call35 call36 call37 call38 call39 call40 call41 call42 call43 call44 call45 call46 call47 call48 call49 call50 call51 call52 call53 call54 call55 call56 call57 call58 call59 call60 call61 call62 call63 call64 call65 call66 call67 call68 call69 call70 call71 call72 call73 call74 call75 call76 call77 call78 call79 call80 call81 call82 call83 call84 call85 call86 call87 call88 call89 call90 call91 call92 call93 call94 call95 call96 call97 call98 call99 call100 call101 call102 call103 call104 call105 call106 call107 call108 call109 call110 call111 call112 call113 call114 call115 call116 call117 call118 call119 call120 call121 call122 call123 call124 call125 call126 call127 call128 call129 call130 call131 call132
attribute [go_sem] Try.results2 Try.results3 Try.results4 Try.results5 Try.results6 Try.results7 Try.results8 Try.results9 Try.results10 Try.results11 Try.results12 Try.results13 Try.results14 Try.results15 Try.results16 Try.results17 Try.results18 Try.results19 Try.results20 Try.results21 Try.results22 Try.results23 Try.results24 Try.results25 Try.results26 Try.results27 Try.results28 Try.results29 Try.results30 Try.results31 Try.results32 Try.results33 Try.results34 Try.results35 Try.results36 Try.results37 Try.results38 Try.results39 Try.results40 Try.results41 Try.results42 Try.results43 Try.results44 Try.results45 Try.results46 Try.results47 Try.results48 Try.results49 Try.results50 Try.results51 Try.results52 Try.results53 Try.results54 Try.results55 Try.results56 Try.results57 Try.results58 Try.results59 Try.results60 Try.results61 Try.results62 Try.results63 Try.results64 Try.results65 Try.results66 Try.results67 Try.results68 Try.results69 Try.results70 Try.results71 Try.results72 Try.results73 Try.results74 Try.results75 Try.results76 Try.results77 Try.results78 Try.results79 Try.results80 Try.results81 Try.results82 Try.results83 Try.results84 Try.results85 Try.results86 Try.results87 Try.results88 Try.results89 Try.results90 Try.results91 Try.results92 Try.results93 Try.results94 Try.results95 Try.results96 Try.results97 Try.results98 Try.results99 Try.results100 Try.results101 Try.results102 Try.results103 Try.results104 Try.results105 Try.results106 Try.results107 Try.results108 Try.results109 Try.results110 Try.results111 Try.results112 Try.results113 Try.results114 Try.results115 Try.results116 Try.results117 Try.results118 Try.results119 Try.results120 Try.results121 Try.results122 Try.results123 Try.results124 Try.results125 Try.results126 Try.results127 Try.results128 Try.results129 Try.results130 Try.results131 Try.results132
attribute [go_sem ↓] reduceIte
attribute [go_sem] reduceCtorEq Int.reduceGT Int.reduceGE Int.reduceEq Int.reduceBEq Int.reduceBNe not_true_eq_false Nat.reduceEqDiff Nat.reduceMod Int.reduceLT Int.reduceLE Int.reduceToNat Int.toNat_natCast Nat.mul_one Int.reduceNeg IntKind.bits Int.natCast_nonneg Int.cast_ofNat_Int
theorem mixed : Try.prog.follows .mixedOrders = true := by kernel_rfl
end Go.Mac

/- The types' rows and the functions' bodies. -/
import Derived.Test.YtelgmdljcbkniaaGreatDoorProg
import Derived.Test.YtelgmdljcbkniaaGreatDoorBM5
namespace Go.Proofs.YtelgmdljcbkniaaGreatDoor.Ti
open Go Go.Proofs Go.Proofs.YtelgmdljcbkniaaGreatDoor.Ai
set_option maxRecDepth 100000
theorem ti1 : Inf Tryz.prog 1 1 8 (.nilFunc) (.func #[] #[] false) := inf (by kernel_rfl) Tryz.underlying1
theorem ti2 : Inf Tryz.prog 2 1 8 (.int .i64 0) (.int .i64) := inf (by kernel_rfl) Tryz.underlying2
theorem ti3 : Inf Tryz.prog 3 1 8 (.int .i64 0) (.int .i64) := inf (by kernel_rfl) Tryz.underlying3
theorem ti4 : Inf Tryz.prog 4 1 1 (.bool false) (.bool) := inf (by kernel_rfl) Tryz.underlying4
theorem ti5 : Inf Tryz.prog 5 1 1 (.int .u8 0) (.int .u8) := inf (by kernel_rfl) Tryz.underlying5
theorem ti6 : Inf Tryz.prog 6 1 1 (.int .u8 0) (.int .u8) := inf (by kernel_rfl) Tryz.underlying6
theorem ti7 : Inf Tryz.prog 7 4 24 (.agg #[.int .i64 0, .int .i64 0, .bool false, .int .u8 0]) (.struct #[{ name := "x", type := 2, offset := 0, embedded := false, tag := "", pkgPath := "runtime", byteOffset := 0 }, { name := "y", type := 3, offset := 1, embedded := false, tag := "", pkgPath := "runtime", byteOffset := 8 }, { name := "signed", type := 4, offset := 2, embedded := false, tag := "", pkgPath := "runtime", byteOffset := 16 }, { name := "code", type := 6, offset := 3, embedded := false, tag := "", pkgPath := "runtime", byteOffset := 17 }]) := inf (by kernel_rfl) Tryz.underlying7
theorem ti8 : Inf Tryz.prog 8 4 24 (.agg #[.int .i64 0, .int .i64 0, .bool false, .int .u8 0]) (.struct #[{ name := "x", type := 2, offset := 0, embedded := false, tag := "", pkgPath := "runtime", byteOffset := 0 }, { name := "y", type := 3, offset := 1, embedded := false, tag := "", pkgPath := "runtime", byteOffset := 8 }, { name := "signed", type := 4, offset := 2, embedded := false, tag := "", pkgPath := "runtime", byteOffset := 16 }, { name := "code", type := 6, offset := 3, embedded := false, tag := "", pkgPath := "runtime", byteOffset := 17 }]) := inf (by kernel_rfl) Tryz.underlying8
theorem ti9 : Inf Tryz.prog 9 1 16 (.string ⟨#[]⟩) (.string) := inf (by kernel_rfl) Tryz.underlying9
theorem ti10 : Inf Tryz.prog 10 1 16 (.string ⟨#[]⟩) (.string) := inf (by kernel_rfl) Tryz.underlying10
theorem ti11 : Inf Tryz.prog 11 1 16 (.string ⟨#[]⟩) (.string) := inf (by kernel_rfl) Tryz.underlying11
theorem ti12 : Inf Tryz.prog 12 1 8 (.int .u64 0) (.int .u64) := inf (by kernel_rfl) Tryz.underlying12
theorem ti13 : Inf Tryz.prog 13 2 24 (.agg #[.string ⟨#[]⟩, .int .u64 0]) (.struct #[{ name := "msg", type := 9, offset := 0, embedded := false, tag := "", pkgPath := "runtime", byteOffset := 0 }, { name := "addr", type := 12, offset := 1, embedded := false, tag := "", pkgPath := "runtime", byteOffset := 16 }]) := inf (by kernel_rfl) Tryz.underlying13
theorem ti14 : Inf Tryz.prog 14 2 24 (.agg #[.string ⟨#[]⟩, .int .u64 0]) (.struct #[{ name := "msg", type := 9, offset := 0, embedded := false, tag := "", pkgPath := "runtime", byteOffset := 0 }, { name := "addr", type := 12, offset := 1, embedded := false, tag := "", pkgPath := "runtime", byteOffset := 16 }]) := inf (by kernel_rfl) Tryz.underlying14
theorem ti15 : Inf Tryz.prog 15 1 8 (.pointer none) (.pointer 249) := inf (by kernel_rfl) Tryz.underlying15
theorem ti16 : Inf Tryz.prog 16 1 8 (.pointer none) (.pointer 252) := inf (by kernel_rfl) Tryz.underlying16
theorem ti17 : Inf Tryz.prog 17 1 8 (.pointer none) (.pointer 261) := inf (by kernel_rfl) Tryz.underlying17
theorem ti18 : Inf Tryz.prog 18 1 8 (.agg #[.pointer none]) (.struct #[{ name := "typ", type := 17, offset := 0, embedded := false, tag := "", pkgPath := "internal/runtime/maps", byteOffset := 0 }]) := inf (by kernel_rfl) Tryz.underlying18
theorem ti19 : Inf Tryz.prog 19 1 8 (.agg #[.pointer none]) (.struct #[{ name := "typ", type := 17, offset := 0, embedded := false, tag := "", pkgPath := "internal/runtime/maps", byteOffset := 0 }]) := inf (by kernel_rfl) Tryz.underlying19
theorem ti21 : Inf Tryz.prog 21 1 4 (.int .i32 0) (.int .i32) := inf (by kernel_rfl) Tryz.underlying21
theorem ti22 : Inf Tryz.prog 22 1 24 (.slice none 0 0) (.slice 93) := inf (by kernel_rfl) Tryz.underlying22
theorem ti23 : Inf Tryz.prog 23 1 24 (.slice none 0 0) (.slice 104) := inf (by kernel_rfl) Tryz.underlying23
theorem ti24 : Inf Tryz.prog 24 1 24 (.slice none 0 0) (.slice 106) := inf (by kernel_rfl) Tryz.underlying24
theorem ti25 : Inf Tryz.prog 25 1 24 (.slice none 0 0) (.slice 108) := inf (by kernel_rfl) Tryz.underlying25
theorem ti26 : Inf Tryz.prog 26 3 72 (.agg #[.slice none 0 0, .slice none 0 0, .slice none 0 0]) (.struct #[{ name := "Pairs", type := 23, offset := 0, embedded := false, tag := "", pkgPath := "", byteOffset := 0 }, { name := "Loads", type := 24, offset := 1, embedded := false, tag := "", pkgPath := "", byteOffset := 24 }, { name := "Caps", type := 25, offset := 2, embedded := false, tag := "", pkgPath := "", byteOffset := 48 }]) := inf (by kernel_rfl) Tryz.underlying26
theorem ti27 : Inf Tryz.prog 27 3 72 (.agg #[.slice none 0 0, .slice none 0 0, .slice none 0 0]) (.struct #[{ name := "Pairs", type := 23, offset := 0, embedded := false, tag := "", pkgPath := "", byteOffset := 0 }, { name := "Loads", type := 24, offset := 1, embedded := false, tag := "", pkgPath := "", byteOffset := 24 }, { name := "Caps", type := 25, offset := 2, embedded := false, tag := "", pkgPath := "", byteOffset := 48 }]) := inf (by kernel_rfl) Tryz.underlying27
theorem ti28 : Inf Tryz.prog 28 4 96 (.agg #[.slice none 0 0, .slice none 0 0, .slice none 0 0, .slice none 0 0]) (.struct #[{ name := "Domains", type := 22, offset := 0, embedded := false, tag := "", pkgPath := "", byteOffset := 0 }, { name := "Rules", type := 27, offset := 1, embedded := false, tag := "", pkgPath := "", byteOffset := 24 }]) := inf (by kernel_rfl) Tryz.underlying28
theorem ti29 : Inf Tryz.prog 29 4 96 (.agg #[.slice none 0 0, .slice none 0 0, .slice none 0 0, .slice none 0 0]) (.struct #[{ name := "Domains", type := 22, offset := 0, embedded := false, tag := "", pkgPath := "", byteOffset := 0 }, { name := "Rules", type := 27, offset := 1, embedded := false, tag := "", pkgPath := "", byteOffset := 24 }]) := inf (by kernel_rfl) Tryz.underlying29
theorem ti30 : Inf Tryz.prog 30 1 24 (.slice none 0 0) (.slice 66) := inf (by kernel_rfl) Tryz.underlying30
theorem ti31 : Inf Tryz.prog 31 1 8 (.nilFunc) (.func #[29, 3, 3] #[4] false) := inf (by kernel_rfl) Tryz.underlying31
theorem ti32 : Inf Tryz.prog 32 1 8 (.nilFunc) (.func #[] #[4] false) := inf (by kernel_rfl) Tryz.underlying32
theorem ti33 : Inf Tryz.prog 33 1 8 (.nilFunc) (.func #[29, 30] #[4] false) := inf (by kernel_rfl) Tryz.underlying33
theorem ti34 : Inf Tryz.prog 34 1 8 (.nilFunc) (.func #[30, 30] #[4] false) := inf (by kernel_rfl) Tryz.underlying34
theorem ti35 : Inf Tryz.prog 35 1 8 (.nilFunc) (.func #[29, 30, 30] #[4] false) := inf (by kernel_rfl) Tryz.underlying35
theorem ti36 : Inf Tryz.prog 36 1 24 (.slice none 0 0) (.slice 30) := inf (by kernel_rfl) Tryz.underlying36
theorem ti37 : Inf Tryz.prog 37 1 8 (.nilFunc) (.func #[29, 36] #[4] false) := inf (by kernel_rfl) Tryz.underlying37
theorem ti38 : Inf Tryz.prog 38 1 8 (.nilFunc) (.func #[29] #[4] false) := inf (by kernel_rfl) Tryz.underlying38
theorem ti39 : Inf Tryz.prog 39 1 8 (.pointer none) (.pointer 60) := inf (by kernel_rfl) Tryz.underlying39
theorem ti41 : Inf Tryz.prog 41 1 8 (.nilFunc) (.func #[29, 36] #[39, 36] false) := inf (by kernel_rfl) Tryz.underlying41
theorem ti42 : Inf Tryz.prog 42 1 8 (.int .i64 0) (.int .i64) := inf (by kernel_rfl) Tryz.underlying42
theorem ti44 : Inf Tryz.prog 44 1 8 (.nilFunc) (.func #[30] #[4, 42] false) := inf (by kernel_rfl) Tryz.underlying44
theorem ti45 : Inf Tryz.prog 45 1 8 (.nilFunc) (.func #[29, 36, 30] #[4] false) := inf (by kernel_rfl) Tryz.underlying45
theorem ti47 : Inf Tryz.prog 47 1 8 (.nilFunc) (.func #[29] #[39, 42] false) := inf (by kernel_rfl) Tryz.underlying47
theorem ti48 : Inf Tryz.prog 48 1 8 (.nilFunc) (.func #[] #[39] false) := inf (by kernel_rfl) Tryz.underlying48
theorem ti49 : Inf Tryz.prog 49 1 8 (.nilFunc) (.func #[120] #[] false) := inf (by kernel_rfl) Tryz.underlying49
theorem ti50 : Inf Tryz.prog 50 1 8 (.nilFunc) (.func #[120] #[] false) := inf (by kernel_rfl) Tryz.underlying50
theorem ti51 : Inf Tryz.prog 51 1 8 (.nilFunc) (.func #[] #[50] false) := inf (by kernel_rfl) Tryz.underlying51
theorem ti52 : Inf Tryz.prog 52 1 8 (.nilFunc) (.func #[30] #[42] false) := inf (by kernel_rfl) Tryz.underlying52
theorem ti53 : Inf Tryz.prog 53 1 8 (.nilFunc) (.func #[] #[3] false) := inf (by kernel_rfl) Tryz.underlying53
theorem ti55 : Inf Tryz.prog 55 1 8 (.nilFunc) (.func #[39] #[36, 4] false) := inf (by kernel_rfl) Tryz.underlying55
theorem ti56 : Inf Tryz.prog 56 1 8 (.nilFunc) (.func #[36, 36] #[4] false) := inf (by kernel_rfl) Tryz.underlying56
theorem ti57 : Inf Tryz.prog 57 1 8 (.nilFunc) (.func #[29, 36, 3] #[4] false) := inf (by kernel_rfl) Tryz.underlying57
theorem ti58 : Inf Tryz.prog 58 1 8 (.pointer none) (.pointer 178) := inf (by kernel_rfl) Tryz.underlying58
theorem ti59 : Inf Tryz.prog 59 7 136 (.agg #[.slice none 0 0, .slice none 0 0, .slice none 0 0, .slice none 0 0, .pointer none, .slice none 0 0, .bool false]) (.struct #[{ name := "p", type := 29, offset := 0, embedded := false, tag := "", pkgPath := "bandplan/nogood", byteOffset := 0 }, { name := "base", type := 58, offset := 4, embedded := false, tag := "", pkgPath := "bandplan/nogood", byteOffset := 96 }, { name := "list", type := 36, offset := 5, embedded := false, tag := "", pkgPath := "bandplan/nogood", byteOffset := 104 }, { name := "empty", type := 4, offset := 6, embedded := false, tag := "", pkgPath := "bandplan/nogood", byteOffset := 128 }]) := inf (by kernel_rfl) Tryz.underlying59
theorem ti60 : Inf Tryz.prog 60 7 136 (.agg #[.slice none 0 0, .slice none 0 0, .slice none 0 0, .slice none 0 0, .pointer none, .slice none 0 0, .bool false]) (.struct #[{ name := "p", type := 29, offset := 0, embedded := false, tag := "", pkgPath := "bandplan/nogood", byteOffset := 0 }, { name := "base", type := 58, offset := 4, embedded := false, tag := "", pkgPath := "bandplan/nogood", byteOffset := 96 }, { name := "list", type := 36, offset := 5, embedded := false, tag := "", pkgPath := "bandplan/nogood", byteOffset := 104 }, { name := "empty", type := 4, offset := 6, embedded := false, tag := "", pkgPath := "bandplan/nogood", byteOffset := 128 }]) := inf (by kernel_rfl) Tryz.underlying60
theorem ti61 : Inf Tryz.prog 61 1 24 (.slice none 0 0) (.slice 39) := inf (by kernel_rfl) Tryz.underlying61
theorem ti63 : Inf Tryz.prog 63 1 8 (.nilFunc) (.func #[30] #[22, 4, 42] false) := inf (by kernel_rfl) Tryz.underlying63
theorem ti64 : Inf Tryz.prog 64 1 8 (.nilFunc) (.func #[] #[29] false) := inf (by kernel_rfl) Tryz.underlying64
theorem ti65 : Inf Tryz.prog 65 2 16 (.agg #[.int .i64 0, .int .i64 0]) (.struct #[{ name := "Station", type := 3, offset := 0, embedded := false, tag := "", pkgPath := "", byteOffset := 0 }, { name := "Channel", type := 3, offset := 1, embedded := false, tag := "", pkgPath := "", byteOffset := 8 }]) := inf (by kernel_rfl) Tryz.underlying65
theorem ti66 : Inf Tryz.prog 66 2 16 (.agg #[.int .i64 0, .int .i64 0]) (.struct #[{ name := "Station", type := 3, offset := 0, embedded := false, tag := "", pkgPath := "", byteOffset := 0 }, { name := "Channel", type := 3, offset := 1, embedded := false, tag := "", pkgPath := "", byteOffset := 8 }]) := inf (by kernel_rfl) Tryz.underlying66
theorem ti67 : Inf Tryz.prog 67 1 8 (.nilFunc) (.func #[30] #[4] false) := inf (by kernel_rfl) Tryz.underlying67
theorem ti68 : Inf Tryz.prog 68 1 24 (.slice none 0 0) (.slice 3) := inf (by kernel_rfl) Tryz.underlying68
theorem ti69 : Inf Tryz.prog 69 2 48 (.agg #[.slice none 0 0, .slice none 0 0]) (.struct #[{ name := "Stations", type := 68, offset := 0, embedded := false, tag := "", pkgPath := "", byteOffset := 0 }, { name := "Lemmas", type := 36, offset := 1, embedded := false, tag := "", pkgPath := "", byteOffset := 24 }]) := inf (by kernel_rfl) Tryz.underlying69
theorem ti70 : Inf Tryz.prog 70 2 48 (.agg #[.slice none 0 0, .slice none 0 0]) (.struct #[{ name := "Stations", type := 68, offset := 0, embedded := false, tag := "", pkgPath := "", byteOffset := 0 }, { name := "Lemmas", type := 36, offset := 1, embedded := false, tag := "", pkgPath := "", byteOffset := 24 }]) := inf (by kernel_rfl) Tryz.underlying70
theorem ti71 : Inf Tryz.prog 71 1 8 (.nilFunc) (.func #[29, 70] #[4] false) := inf (by kernel_rfl) Tryz.underlying71
theorem ti73 : Inf Tryz.prog 73 1 8 (.nilFunc) (.func #[29, 70] #[3, 42] false) := inf (by kernel_rfl) Tryz.underlying73
theorem ti75 : Inf Tryz.prog 75 1 8 (.nilFunc) (.func #[29, 70] #[3, 3] false) := inf (by kernel_rfl) Tryz.underlying75
theorem ti76 : Inf Tryz.prog 76 1 8 (.nilFunc) (.func #[70] #[4] false) := inf (by kernel_rfl) Tryz.underlying76
theorem ti77 : Inf Tryz.prog 77 1 8 (.nilFunc) (.func #[29, 70] #[42] false) := inf (by kernel_rfl) Tryz.underlying77
theorem ti78 : Inf Tryz.prog 78 1 8 (.nilFunc) (.func #[29, 70] #[3] false) := inf (by kernel_rfl) Tryz.underlying78
theorem ti80 : Inf Tryz.prog 80 1 8 (.nilFunc) (.func #[29, 68] #[29, 3] false) := inf (by kernel_rfl) Tryz.underlying80
theorem ti81 : Inf Tryz.prog 81 1 24 (.slice none 0 0) (.slice 5) := inf (by kernel_rfl) Tryz.underlying81
theorem ti82 : Inf Tryz.prog 82 1 8 (.nilFunc) (.func #[70, 3] #[4] false) := inf (by kernel_rfl) Tryz.underlying82
theorem ti84 : Inf Tryz.prog 84 1 8 (.nilFunc) (.func #[81] #[70, 42] false) := inf (by kernel_rfl) Tryz.underlying84
theorem ti86 : Inf Tryz.prog 86 1 8 (.nilFunc) (.func #[81] #[70, 3] false) := inf (by kernel_rfl) Tryz.underlying86
theorem ti87 : Inf Tryz.prog 87 1 8 (.nilFunc) (.func #[70, 70] #[4] false) := inf (by kernel_rfl) Tryz.underlying87
theorem ti89 : Inf Tryz.prog 89 1 8 (.nilFunc) (.func #[70] #[81, 42] false) := inf (by kernel_rfl) Tryz.underlying89
theorem ti90 : Inf Tryz.prog 90 1 8 (.nilFunc) (.func #[70] #[81] false) := inf (by kernel_rfl) Tryz.underlying90
theorem ti91 : Inf Tryz.prog 91 1 8 (.nilFunc) (.func #[70, 81] #[4] false) := inf (by kernel_rfl) Tryz.underlying91
theorem ti92 : Inf Tryz.prog 92 2 32 (.agg #[.int .i64 0, .slice none 0 0]) (.struct #[{ name := "Station", type := 3, offset := 0, embedded := false, tag := "", pkgPath := "", byteOffset := 0 }, { name := "Channels", type := 68, offset := 1, embedded := false, tag := "", pkgPath := "", byteOffset := 8 }]) := inf (by kernel_rfl) Tryz.underlying92
theorem ti93 : Inf Tryz.prog 93 2 32 (.agg #[.int .i64 0, .slice none 0 0]) (.struct #[{ name := "Station", type := 3, offset := 0, embedded := false, tag := "", pkgPath := "", byteOffset := 0 }, { name := "Channels", type := 68, offset := 1, embedded := false, tag := "", pkgPath := "", byteOffset := 8 }]) := inf (by kernel_rfl) Tryz.underlying93
theorem ti94 : Inf Tryz.prog 94 1 8 (.nilFunc) (.func #[22, 22] #[4] false) := inf (by kernel_rfl) Tryz.underlying94
theorem ti95 : Inf Tryz.prog 95 1 8 (.nilFunc) (.func #[39, 30, 4] #[4] false) := inf (by kernel_rfl) Tryz.underlying95
theorem ti96 : Inf Tryz.prog 96 1 8 (.nilFunc) (.func #[68, 68] #[4] false) := inf (by kernel_rfl) Tryz.underlying96
theorem ti97 : Inf Tryz.prog 97 1 8 (.nilFunc) (.func #[29, 3] #[3] false) := inf (by kernel_rfl) Tryz.underlying97
theorem ti98 : Inf Tryz.prog 98 1 8 (.nilFunc) (.func #[68, 3] #[4] false) := inf (by kernel_rfl) Tryz.underlying98
theorem ti99 : Inf Tryz.prog 99 1 8 (.nilFunc) (.func #[30, 66] #[4] false) := inf (by kernel_rfl) Tryz.underlying99
theorem ti100 : Inf Tryz.prog 100 1 8 (.nilFunc) (.func #[36, 3] #[4] false) := inf (by kernel_rfl) Tryz.underlying100
theorem ti101 : Inf Tryz.prog 101 1 8 (.nilFunc) (.func #[27] #[4] false) := inf (by kernel_rfl) Tryz.underlying101
theorem ti102 : Inf Tryz.prog 102 1 8 (.nilFunc) (.func #[3] #[4] false) := inf (by kernel_rfl) Tryz.underlying102
theorem ti103 : Inf Tryz.prog 103 5 40 (.agg #[.int .i64 0, .int .i64 0, .int .i64 0, .int .i64 0, .int .i64 0]) (.struct #[{ name := "A", type := 3, offset := 0, embedded := false, tag := "", pkgPath := "", byteOffset := 0 }, { name := "B", type := 3, offset := 1, embedded := false, tag := "", pkgPath := "", byteOffset := 8 }, { name := "Offset", type := 3, offset := 2, embedded := false, tag := "", pkgPath := "", byteOffset := 16 }, { name := "Low", type := 3, offset := 3, embedded := false, tag := "", pkgPath := "", byteOffset := 24 }, { name := "High", type := 3, offset := 4, embedded := false, tag := "", pkgPath := "", byteOffset := 32 }]) := inf (by kernel_rfl) Tryz.underlying103
theorem ti104 : Inf Tryz.prog 104 5 40 (.agg #[.int .i64 0, .int .i64 0, .int .i64 0, .int .i64 0, .int .i64 0]) (.struct #[{ name := "A", type := 3, offset := 0, embedded := false, tag := "", pkgPath := "", byteOffset := 0 }, { name := "B", type := 3, offset := 1, embedded := false, tag := "", pkgPath := "", byteOffset := 8 }, { name := "Offset", type := 3, offset := 2, embedded := false, tag := "", pkgPath := "", byteOffset := 16 }, { name := "Low", type := 3, offset := 3, embedded := false, tag := "", pkgPath := "", byteOffset := 24 }, { name := "High", type := 3, offset := 4, embedded := false, tag := "", pkgPath := "", byteOffset := 32 }]) := inf (by kernel_rfl) Tryz.underlying104
theorem ti105 : Inf Tryz.prog 105 5 40 (.agg #[.int .i64 0, .int .i64 0, .int .i64 0, .int .i64 0, .int .i64 0]) (.struct #[{ name := "To", type := 3, offset := 0, embedded := false, tag := "", pkgPath := "", byteOffset := 0 }, { name := "From", type := 3, offset := 1, embedded := false, tag := "", pkgPath := "", byteOffset := 8 }, { name := "Weight", type := 3, offset := 2, embedded := false, tag := "", pkgPath := "", byteOffset := 16 }, { name := "Low", type := 3, offset := 3, embedded := false, tag := "", pkgPath := "", byteOffset := 24 }, { name := "High", type := 3, offset := 4, embedded := false, tag := "", pkgPath := "", byteOffset := 32 }]) := inf (by kernel_rfl) Tryz.underlying105
theorem ti106 : Inf Tryz.prog 106 5 40 (.agg #[.int .i64 0, .int .i64 0, .int .i64 0, .int .i64 0, .int .i64 0]) (.struct #[{ name := "To", type := 3, offset := 0, embedded := false, tag := "", pkgPath := "", byteOffset := 0 }, { name := "From", type := 3, offset := 1, embedded := false, tag := "", pkgPath := "", byteOffset := 8 }, { name := "Weight", type := 3, offset := 2, embedded := false, tag := "", pkgPath := "", byteOffset := 16 }, { name := "Low", type := 3, offset := 3, embedded := false, tag := "", pkgPath := "", byteOffset := 24 }, { name := "High", type := 3, offset := 4, embedded := false, tag := "", pkgPath := "", byteOffset := 32 }]) := inf (by kernel_rfl) Tryz.underlying106
theorem ti107 : Inf Tryz.prog 107 4 32 (.agg #[.int .i64 0, .int .i64 0, .int .i64 0, .int .i64 0]) (.struct #[{ name := "Station", type := 3, offset := 0, embedded := false, tag := "", pkgPath := "", byteOffset := 0 }, { name := "Max", type := 3, offset := 1, embedded := false, tag := "", pkgPath := "", byteOffset := 8 }, { name := "Low", type := 3, offset := 2, embedded := false, tag := "", pkgPath := "", byteOffset := 16 }, { name := "High", type := 3, offset := 3, embedded := false, tag := "", pkgPath := "", byteOffset := 24 }]) := inf (by kernel_rfl) Tryz.underlying107
theorem ti108 : Inf Tryz.prog 108 4 32 (.agg #[.int .i64 0, .int .i64 0, .int .i64 0, .int .i64 0]) (.struct #[{ name := "Station", type := 3, offset := 0, embedded := false, tag := "", pkgPath := "", byteOffset := 0 }, { name := "Max", type := 3, offset := 1, embedded := false, tag := "", pkgPath := "", byteOffset := 8 }, { name := "Low", type := 3, offset := 2, embedded := false, tag := "", pkgPath := "", byteOffset := 16 }, { name := "High", type := 3, offset := 3, embedded := false, tag := "", pkgPath := "", byteOffset := 24 }]) := inf (by kernel_rfl) Tryz.underlying108
theorem ti110 : Inf Tryz.prog 110 1 8 (.nilFunc) (.func #[30] #[58, 4] false) := inf (by kernel_rfl) Tryz.underlying110
theorem ti112 : Inf Tryz.prog 112 1 8 (.nilFunc) (.func #[29, 36, 30] #[22, 4] false) := inf (by kernel_rfl) Tryz.underlying112
theorem ti114 : Inf Tryz.prog 114 1 8 (.nilFunc) (.func #[29] #[58, 42] false) := inf (by kernel_rfl) Tryz.underlying114
theorem ti116 : Inf Tryz.prog 116 1 8 (.nilFunc) (.func #[29] #[68, 42] false) := inf (by kernel_rfl) Tryz.underlying116
theorem ti118 : Inf Tryz.prog 118 1 8 (.nilFunc) (.func #[29, 68] #[29, 42] false) := inf (by kernel_rfl) Tryz.underlying118
theorem ti119 : Inf Tryz.prog 119 1 8 (.nilFunc) (.func #[36] #[36] false) := inf (by kernel_rfl) Tryz.underlying119
theorem ti120 : Inf Tryz.prog 120 1 8 (.nilFunc) (.func #[3, 30] #[4] false) := inf (by kernel_rfl) Tryz.underlying120
theorem ti121 : Inf Tryz.prog 121 1 8 (.nilFunc) (.func #[30] #[30] false) := inf (by kernel_rfl) Tryz.underlying121
theorem ti122 : Inf Tryz.prog 122 1 8 (.nilFunc) (.func #[29, 3] #[68, 42] false) := inf (by kernel_rfl) Tryz.underlying122
theorem ti123 : Inf Tryz.prog 123 1 8 (.nilFunc) (.func #[] #[22] false) := inf (by kernel_rfl) Tryz.underlying123
theorem ti124 : Inf Tryz.prog 124 1 8 (.nilFunc) (.func #[3, 3] #[104] false) := inf (by kernel_rfl) Tryz.underlying124
theorem ti125 : Inf Tryz.prog 125 1 8 (.nilFunc) (.func #[68, 3] #[70] false) := inf (by kernel_rfl) Tryz.underlying125
theorem ti126 : Inf Tryz.prog 126 1 8 (.nilFunc) (.func #[70, 3, 42] #[4] false) := inf (by kernel_rfl) Tryz.underlying126
theorem ti127 : Inf Tryz.prog 127 1 8 (.nilFunc) (.func #[29, 70] #[70, 42] false) := inf (by kernel_rfl) Tryz.underlying127
theorem ti128 : Inf Tryz.prog 128 1 8 (.nilFunc) (.func #[29, 36] #[3] false) := inf (by kernel_rfl) Tryz.underlying128
theorem ti130 : Inf Tryz.prog 130 1 8 (.nilFunc) (.func #[30, 68] #[30, 42] false) := inf (by kernel_rfl) Tryz.underlying130
theorem ti131 : Inf Tryz.prog 131 1 8 (.int .u64 0) (.int .u64) := inf (by kernel_rfl) Tryz.underlying131
theorem ti132 : Inf Tryz.prog 132 8 64 (.agg #[.int .u64 0, .int .u64 0, .int .u64 0, .int .u64 0, .int .u64 0, .int .u64 0, .int .u64 0, .int .u64 0]) (.array 8 131) := inf (by kernel_rfl) Tryz.underlying132
theorem ti133 : Inf Tryz.prog 133 8 64 (.agg #[.int .u64 0, .int .u64 0, .int .u64 0, .int .u64 0, .int .u64 0, .int .u64 0, .int .u64 0, .int .u64 0]) (.struct #[{ name := "words", type := 132, offset := 0, embedded := false, tag := "", pkgPath := "bandplan/bitset", byteOffset := 0 }]) := inf (by kernel_rfl) Tryz.underlying133
theorem ti134 : Inf Tryz.prog 134 8 64 (.agg #[.int .u64 0, .int .u64 0, .int .u64 0, .int .u64 0, .int .u64 0, .int .u64 0, .int .u64 0, .int .u64 0]) (.struct #[{ name := "words", type := 132, offset := 0, embedded := false, tag := "", pkgPath := "bandplan/bitset", byteOffset := 0 }]) := inf (by kernel_rfl) Tryz.underlying134
theorem ti136 : Inf Tryz.prog 136 1 8 (.nilFunc) (.func #[68] #[134, 42] true) := inf (by kernel_rfl) Tryz.underlying136
theorem ti137 : Inf Tryz.prog 137 1 8 (.nilFunc) (.func #[68] #[4] false) := inf (by kernel_rfl) Tryz.underlying137
theorem ti138 : Inf Tryz.prog 138 1 8 (.pointer none) (.pointer 199) := inf (by kernel_rfl) Tryz.underlying138
theorem ti139 : Inf Tryz.prog 139 1 8 (.nilFunc) (.func #[81] #[138] false) := inf (by kernel_rfl) Tryz.underlying139
theorem ti140 : Inf Tryz.prog 140 1 8 (.nilFunc) (.func #[3] #[3] false) := inf (by kernel_rfl) Tryz.underlying140
theorem ti141 : Inf Tryz.prog 141 1 8 (.nilFunc) (.func #[] #[42] false) := inf (by kernel_rfl) Tryz.underlying141
theorem ti143 : Inf Tryz.prog 143 1 8 (.nilFunc) (.func #[81] #[3, 81] false) := inf (by kernel_rfl) Tryz.underlying143
theorem ti145 : Inf Tryz.prog 145 1 8 (.nilFunc) (.func #[81, 3] #[68, 81] false) := inf (by kernel_rfl) Tryz.underlying145
theorem ti146 : Inf Tryz.prog 146 1 8 (.agg #[.int .i64 0]) (.struct #[{ name := "first", type := 42, offset := 0, embedded := false, tag := "", pkgPath := "bandplan/wire", byteOffset := 0 }]) := inf (by kernel_rfl) Tryz.underlying146
theorem ti147 : Inf Tryz.prog 147 1 8 (.agg #[.int .i64 0]) (.struct #[{ name := "first", type := 42, offset := 0, embedded := false, tag := "", pkgPath := "bandplan/wire", byteOffset := 0 }]) := inf (by kernel_rfl) Tryz.underlying147
theorem ti148 : Inf Tryz.prog 148 2 32 (.agg #[.int .i64 0, .slice none 0 0]) (.struct #[{ name := "status", type := 147, offset := 0, embedded := true, tag := "", pkgPath := "bandplan/wire", byteOffset := 0 }, { name := "out", type := 81, offset := 1, embedded := false, tag := "", pkgPath := "bandplan/wire", byteOffset := 8 }]) := inf (by kernel_rfl) Tryz.underlying148
theorem ti149 : Inf Tryz.prog 149 2 32 (.agg #[.int .i64 0, .slice none 0 0]) (.struct #[{ name := "status", type := 147, offset := 0, embedded := true, tag := "", pkgPath := "bandplan/wire", byteOffset := 0 }, { name := "out", type := 81, offset := 1, embedded := false, tag := "", pkgPath := "bandplan/wire", byteOffset := 8 }]) := inf (by kernel_rfl) Tryz.underlying149
theorem ti150 : Inf Tryz.prog 150 1 8 (.nilFunc) (.func #[3] #[] false) := inf (by kernel_rfl) Tryz.underlying150
theorem ti151 : Inf Tryz.prog 151 1 8 (.nilFunc) (.func #[] #[81, 42] false) := inf (by kernel_rfl) Tryz.underlying151
theorem ti152 : Inf Tryz.prog 152 1 8 (.nilFunc) (.func #[3] #[81] false) := inf (by kernel_rfl) Tryz.underlying152
theorem ti153 : Inf Tryz.prog 153 1 8 (.nilFunc) (.func #[22, 157, 158] #[4] false) := inf (by kernel_rfl) Tryz.underlying153
theorem ti154 : Inf Tryz.prog 154 1 8 (.nilFunc) (.func #[68, 102, 156] #[4] false) := inf (by kernel_rfl) Tryz.underlying154
theorem ti155 : Inf Tryz.prog 155 1 8 (.nilFunc) (.func #[3, 3] #[4] false) := inf (by kernel_rfl) Tryz.underlying155
theorem ti156 : Inf Tryz.prog 156 1 8 (.nilFunc) (.func #[3, 3] #[3] false) := inf (by kernel_rfl) Tryz.underlying156
theorem ti157 : Inf Tryz.prog 157 1 8 (.nilFunc) (.func #[93] #[4] false) := inf (by kernel_rfl) Tryz.underlying157
theorem ti158 : Inf Tryz.prog 158 1 8 (.nilFunc) (.func #[93, 93] #[3] false) := inf (by kernel_rfl) Tryz.underlying158
theorem ti159 : Inf Tryz.prog 159 512 4096 (.agg (Array.replicate 512 (.int .i64 0))) (.array 512 3) := inf (by kernel_rfl) Tryz.underlying159
theorem ti160 : Inf Tryz.prog 160 1 8 (.nilFunc) (.func #[29] #[159] false) := inf (by kernel_rfl) Tryz.underlying160
theorem ti161 : Inf Tryz.prog 161 1 8 (.nilFunc) (.func #[22, 157] #[3] false) := inf (by kernel_rfl) Tryz.underlying161
theorem ti162 : Inf Tryz.prog 162 1 8 (.nilFunc) (.func #[30, 66] #[3] false) := inf (by kernel_rfl) Tryz.underlying162
theorem ti163 : Inf Tryz.prog 163 1 8 (.nilFunc) (.func #[104] #[68] false) := inf (by kernel_rfl) Tryz.underlying163
theorem ti164 : Inf Tryz.prog 164 1 8 (.nilFunc) (.func #[106] #[68] false) := inf (by kernel_rfl) Tryz.underlying164
theorem ti165 : Inf Tryz.prog 165 1 8 (.nilFunc) (.func #[108] #[68] false) := inf (by kernel_rfl) Tryz.underlying165
theorem ti166 : Inf Tryz.prog 166 1 8 (.nilFunc) (.func #[] #[58] false) := inf (by kernel_rfl) Tryz.underlying166
theorem ti167 : Inf Tryz.prog 167 1 8 (.nilFunc) (.func #[66] #[42] false) := inf (by kernel_rfl) Tryz.underlying167
theorem ti168 : Inf Tryz.prog 168 1 8 (.map none) (.map 3 3) := inf (by kernel_rfl) Tryz.underlying168
theorem ti169 : Inf Tryz.prog 169 1 8 (.nilFunc) (.func #[] #[30] false) := inf (by kernel_rfl) Tryz.underlying169
theorem ti171 : Inf Tryz.prog 171 1 8 (.nilFunc) (.func #[168, 58, 30] #[66, 3] false) := inf (by kernel_rfl) Tryz.underlying171
theorem ti172 : Inf Tryz.prog 172 1 8 (.nilFunc) (.func #[22, 3, 3] #[22] false) := inf (by kernel_rfl) Tryz.underlying172
theorem ti173 : Inf Tryz.prog 173 1 8 (.nilFunc) (.func #[29, 36, 22] #[22, 4] false) := inf (by kernel_rfl) Tryz.underlying173
theorem ti174 : Inf Tryz.prog 174 1 8 (.pointer none) (.pointer 185) := inf (by kernel_rfl) Tryz.underlying174
theorem ti175 : Inf Tryz.prog 175 1 8 (.nilFunc) (.func #[29] #[174] false) := inf (by kernel_rfl) Tryz.underlying175
theorem ti176 : Inf Tryz.prog 176 1 24 (.slice none 0 0) (.slice 131) := inf (by kernel_rfl) Tryz.underlying176
theorem ti177 : Inf Tryz.prog 177 3 40 (.agg #[.pointer none, .slice none 0 0, .bool false]) (.struct #[{ name := "tables", type := 174, offset := 0, embedded := true, tag := "", pkgPath := "bandplan/propagate", byteOffset := 0 }, { name := "left", type := 176, offset := 1, embedded := false, tag := "", pkgPath := "bandplan/propagate", byteOffset := 8 }, { name := "bad", type := 4, offset := 2, embedded := false, tag := "", pkgPath := "bandplan/propagate", byteOffset := 32 }]) := inf (by kernel_rfl) Tryz.underlying177
theorem ti178 : Inf Tryz.prog 178 3 40 (.agg #[.pointer none, .slice none 0 0, .bool false]) (.struct #[{ name := "tables", type := 174, offset := 0, embedded := true, tag := "", pkgPath := "bandplan/propagate", byteOffset := 0 }, { name := "left", type := 176, offset := 1, embedded := false, tag := "", pkgPath := "bandplan/propagate", byteOffset := 8 }, { name := "bad", type := 4, offset := 2, embedded := false, tag := "", pkgPath := "bandplan/propagate", byteOffset := 32 }]) := inf (by kernel_rfl) Tryz.underlying178
theorem ti179 : Inf Tryz.prog 179 1 8 (.nilFunc) (.func #[176] #[176] false) := inf (by kernel_rfl) Tryz.underlying179
theorem ti180 : Inf Tryz.prog 180 1 24 (.slice none 0 0) (.slice 23) := inf (by kernel_rfl) Tryz.underlying180
theorem ti181 : Inf Tryz.prog 181 1 24 (.slice none 0 0) (.slice 24) := inf (by kernel_rfl) Tryz.underlying181
theorem ti182 : Inf Tryz.prog 182 1 24 (.slice none 0 0) (.slice 25) := inf (by kernel_rfl) Tryz.underlying182
theorem ti183 : Inf Tryz.prog 183 1 24 (.slice none 0 0) (.slice 134) := inf (by kernel_rfl) Tryz.underlying183
theorem ti184 : Inf Tryz.prog 184 8 176 (.agg #[.slice none 0 0, .slice none 0 0, .map none, .slice none 0 0, .slice none 0 0, .slice none 0 0, .slice none 0 0, .slice none 0 0]) (.struct #[{ name := "stations", type := 68, offset := 0, embedded := false, tag := "", pkgPath := "bandplan/propagate", byteOffset := 0 }, { name := "full", type := 176, offset := 1, embedded := false, tag := "", pkgPath := "bandplan/propagate", byteOffset := 24 }, { name := "at", type := 168, offset := 2, embedded := false, tag := "", pkgPath := "bandplan/propagate", byteOffset := 48 }, { name := "pairs", type := 180, offset := 3, embedded := false, tag := "", pkgPath := "bandplan/propagate", byteOffset := 56 }, { name := "to", type := 181, offset := 4, embedded := false, tag := "", pkgPath := "bandplan/propagate", byteOffset := 80 }, { name := "from", type := 181, offset := 5, embedded := false, tag := "", pkgPath := "bandplan/propagate", byteOffset := 104 }, { name := "caps", type := 182, offset := 6, embedded := false, tag := "", pkgPath := "bandplan/propagate", byteOffset := 128 }, { name := "near", type := 183, offset := 7, embedded := false, tag := "", pkgPath := "bandplan/propagate", byteOffset := 152 }]) := inf (by kernel_rfl) Tryz.underlying184
theorem ti185 : Inf Tryz.prog 185 8 176 (.agg #[.slice none 0 0, .slice none 0 0, .map none, .slice none 0 0, .slice none 0 0, .slice none 0 0, .slice none 0 0, .slice none 0 0]) (.struct #[{ name := "stations", type := 68, offset := 0, embedded := false, tag := "", pkgPath := "bandplan/propagate", byteOffset := 0 }, { name := "full", type := 176, offset := 1, embedded := false, tag := "", pkgPath := "bandplan/propagate", byteOffset := 24 }, { name := "at", type := 168, offset := 2, embedded := false, tag := "", pkgPath := "bandplan/propagate", byteOffset := 48 }, { name := "pairs", type := 180, offset := 3, embedded := false, tag := "", pkgPath := "bandplan/propagate", byteOffset := 56 }, { name := "to", type := 181, offset := 4, embedded := false, tag := "", pkgPath := "bandplan/propagate", byteOffset := 80 }, { name := "from", type := 181, offset := 5, embedded := false, tag := "", pkgPath := "bandplan/propagate", byteOffset := 104 }, { name := "caps", type := 182, offset := 6, embedded := false, tag := "", pkgPath := "bandplan/propagate", byteOffset := 128 }, { name := "near", type := 183, offset := 7, embedded := false, tag := "", pkgPath := "bandplan/propagate", byteOffset := 152 }]) := inf (by kernel_rfl) Tryz.underlying185
theorem ti186 : Inf Tryz.prog 186 1 8 (.nilFunc) (.func #[3] #[134, 42] false) := inf (by kernel_rfl) Tryz.underlying186
theorem ti187 : Inf Tryz.prog 187 1 8 (.nilFunc) (.func #[68] #[] false) := inf (by kernel_rfl) Tryz.underlying187
theorem ti188 : Inf Tryz.prog 188 1 8 (.nilFunc) (.func #[] #[68] false) := inf (by kernel_rfl) Tryz.underlying188
theorem ti190 : Inf Tryz.prog 190 1 8 (.nilFunc) (.func #[29, 3] #[3, 4] false) := inf (by kernel_rfl) Tryz.underlying190
theorem ti191 : Inf Tryz.prog 191 1 8 (.nilFunc) (.func #[68] #[68] false) := inf (by kernel_rfl) Tryz.underlying191
theorem ti192 : Inf Tryz.prog 192 1 8 (.nilFunc) (.func #[30, 193, 194] #[4] false) := inf (by kernel_rfl) Tryz.underlying192
theorem ti193 : Inf Tryz.prog 193 1 8 (.nilFunc) (.func #[66] #[4] false) := inf (by kernel_rfl) Tryz.underlying193
theorem ti194 : Inf Tryz.prog 194 1 8 (.nilFunc) (.func #[66, 66] #[3] false) := inf (by kernel_rfl) Tryz.underlying194
theorem ti195 : Inf Tryz.prog 195 1 8 (.nilFunc) (.func #[131] #[68] false) := inf (by kernel_rfl) Tryz.underlying195
theorem ti196 : Inf Tryz.prog 196 1 8 (.nilFunc) (.func #[36, 3, 3] #[36] false) := inf (by kernel_rfl) Tryz.underlying196
theorem ti197 : Inf Tryz.prog 197 1 8 (.nilFunc) (.func #[81] #[81] false) := inf (by kernel_rfl) Tryz.underlying197
theorem ti198 : Inf Tryz.prog 198 4 48 (.agg #[.int .i64 0, .slice none 0 0, .int .i64 0, .bool false]) (.struct #[{ name := "status", type := 147, offset := 0, embedded := true, tag := "", pkgPath := "bandplan/wire", byteOffset := 0 }, { name := "in", type := 81, offset := 1, embedded := false, tag := "", pkgPath := "bandplan/wire", byteOffset := 8 }, { name := "at", type := 3, offset := 2, embedded := false, tag := "", pkgPath := "bandplan/wire", byteOffset := 32 }, { name := "open", type := 4, offset := 3, embedded := false, tag := "", pkgPath := "bandplan/wire", byteOffset := 40 }]) := inf (by kernel_rfl) Tryz.underlying198
theorem ti199 : Inf Tryz.prog 199 4 48 (.agg #[.int .i64 0, .slice none 0 0, .int .i64 0, .bool false]) (.struct #[{ name := "status", type := 147, offset := 0, embedded := true, tag := "", pkgPath := "bandplan/wire", byteOffset := 0 }, { name := "in", type := 81, offset := 1, embedded := false, tag := "", pkgPath := "bandplan/wire", byteOffset := 8 }, { name := "at", type := 3, offset := 2, embedded := false, tag := "", pkgPath := "bandplan/wire", byteOffset := 32 }, { name := "open", type := 4, offset := 3, embedded := false, tag := "", pkgPath := "bandplan/wire", byteOffset := 40 }]) := inf (by kernel_rfl) Tryz.underlying199
theorem ti200 : Inf Tryz.prog 200 1 8 (.nilFunc) (.func #[138, 53] #[3] false) := inf (by kernel_rfl) Tryz.underlying200
theorem ti201 : Inf Tryz.prog 201 1 8 (.nilFunc) (.func #[3] #[131] false) := inf (by kernel_rfl) Tryz.underlying201
theorem ti202 : Inf Tryz.prog 202 1 8 (.pointer none) (.pointer 149) := inf (by kernel_rfl) Tryz.underlying202
theorem ti203 : Inf Tryz.prog 203 1 8 (.nilFunc) (.func #[42] #[] false) := inf (by kernel_rfl) Tryz.underlying203
theorem ti204 : Inf Tryz.prog 204 1 8 (.nilFunc) (.func #[81] #[] false) := inf (by kernel_rfl) Tryz.underlying204
theorem ti205 : Inf Tryz.prog 205 1 8 (.nilFunc) (.func #[81, 131] #[81] false) := inf (by kernel_rfl) Tryz.underlying205
theorem ti206 : Inf Tryz.prog 206 1 8 (.nilFunc) (.func #[23, 207, 208] #[4] false) := inf (by kernel_rfl) Tryz.underlying206
theorem ti207 : Inf Tryz.prog 207 1 8 (.nilFunc) (.func #[104] #[4] false) := inf (by kernel_rfl) Tryz.underlying207
theorem ti208 : Inf Tryz.prog 208 1 8 (.nilFunc) (.func #[104, 104] #[3] false) := inf (by kernel_rfl) Tryz.underlying208
theorem ti209 : Inf Tryz.prog 209 1 8 (.nilFunc) (.func #[24, 210, 211] #[4] false) := inf (by kernel_rfl) Tryz.underlying209
theorem ti210 : Inf Tryz.prog 210 1 8 (.nilFunc) (.func #[106] #[4] false) := inf (by kernel_rfl) Tryz.underlying210
theorem ti211 : Inf Tryz.prog 211 1 8 (.nilFunc) (.func #[106, 106] #[3] false) := inf (by kernel_rfl) Tryz.underlying211
theorem ti212 : Inf Tryz.prog 212 1 8 (.nilFunc) (.func #[25, 213, 214] #[4] false) := inf (by kernel_rfl) Tryz.underlying212
theorem ti213 : Inf Tryz.prog 213 1 8 (.nilFunc) (.func #[108] #[4] false) := inf (by kernel_rfl) Tryz.underlying213
theorem ti214 : Inf Tryz.prog 214 1 8 (.nilFunc) (.func #[108, 108] #[3] false) := inf (by kernel_rfl) Tryz.underlying214
theorem ti215 : Inf Tryz.prog 215 1 8 (.nilFunc) (.func #[68, 3] #[3] false) := inf (by kernel_rfl) Tryz.underlying215
theorem ti216 : Inf Tryz.prog 216 1 8 (.nilFunc) (.func #[66, 217] #[42] false) := inf (by kernel_rfl) Tryz.underlying216
theorem ti217 : Inf Tryz.prog 217 1 8 (.nilFunc) (.func #[131, 131] #[131] false) := inf (by kernel_rfl) Tryz.underlying217
theorem ti218 : Inf Tryz.prog 218 1 8 (.nilFunc) (.func #[131] #[3, 4] false) := inf (by kernel_rfl) Tryz.underlying218
theorem ti219 : Inf Tryz.prog 219 1 8 (.nilFunc) (.func #[29, 36, 22, 3, 3] #[4] false) := inf (by kernel_rfl) Tryz.underlying219
theorem ti220 : Inf Tryz.prog 220 1 8 (.nilFunc) (.func #[3, 3] #[] false) := inf (by kernel_rfl) Tryz.underlying220
theorem ti221 : Inf Tryz.prog 221 1 8 (.nilFunc) (.func #[58, 3] #[] false) := inf (by kernel_rfl) Tryz.underlying221
theorem ti222 : Inf Tryz.prog 222 3 24 (.agg #[.nilFunc, .nilFunc, .nilFunc]) (.array 3 221) := inf (by kernel_rfl) Tryz.underlying222
theorem ti223 : Inf Tryz.prog 223 1 8 (.nilFunc) (.func #[102] #[] false) := inf (by kernel_rfl) Tryz.underlying223
theorem ti224 : Inf Tryz.prog 224 1 8 (.nilFunc) (.func #[102] #[] false) := inf (by kernel_rfl) Tryz.underlying224
theorem ti225 : Inf Tryz.prog 225 1 8 (.nilFunc) (.func #[] #[224] false) := inf (by kernel_rfl) Tryz.underlying225
theorem ti226 : Inf Tryz.prog 226 1 8 (.nilFunc) (.func #[134] #[134] false) := inf (by kernel_rfl) Tryz.underlying226
theorem ti227 : Inf Tryz.prog 227 1 8 (.nilFunc) (.func #[224] #[68] false) := inf (by kernel_rfl) Tryz.underlying227
theorem ti228 : Inf Tryz.prog 228 1 8 (.nilFunc) (.func #[22, 3, 229] #[3, 4] false) := inf (by kernel_rfl) Tryz.underlying228
theorem ti229 : Inf Tryz.prog 229 1 8 (.nilFunc) (.func #[93, 3] #[3] false) := inf (by kernel_rfl) Tryz.underlying229
theorem ti230 : Inf Tryz.prog 230 1 8 (.nilFunc) (.func #[131] #[3] false) := inf (by kernel_rfl) Tryz.underlying230
theorem ti231 : Inf Tryz.prog 231 1 8 (.nilFunc) (.func #[] #[5] false) := inf (by kernel_rfl) Tryz.underlying231
theorem ti232 : Inf Tryz.prog 232 1 8 (.pointer none) (.pointer 147) := inf (by kernel_rfl) Tryz.underlying232
theorem ti233 : Inf Tryz.prog 233 1 8 (.int .u64 0) (.int .u64) := inf (by kernel_rfl) Tryz.underlying233
theorem ti234 : Inf Tryz.prog 234 1 8 (.nilFunc) (.func #[68] #[3] true) := inf (by kernel_rfl) Tryz.underlying234
theorem ti235 : Inf Tryz.prog 235 1 8 (.nilFunc) (.func #[3] #[3, 4] false) := inf (by kernel_rfl) Tryz.underlying235
theorem ti236 : Inf Tryz.prog 236 1 8 (.nilFunc) (.func #[22, 30, 3, 3] #[4] false) := inf (by kernel_rfl) Tryz.underlying236
theorem ti237 : Inf Tryz.prog 237 1 8 (.nilFunc) (.func #[29, 22, 3, 3] #[4] false) := inf (by kernel_rfl) Tryz.underlying237
theorem ti238 : Inf Tryz.prog 238 1 8 (.nilFunc) (.func #[3, 3, 3] #[4] false) := inf (by kernel_rfl) Tryz.underlying238
theorem ti239 : Inf Tryz.prog 239 1 8 (.nilFunc) (.func #[3, 3, 3] #[3] false) := inf (by kernel_rfl) Tryz.underlying239
theorem ti240 : Inf Tryz.prog 240 1 8 (.nilFunc) (.func #[68, 224] #[68] false) := inf (by kernel_rfl) Tryz.underlying240
theorem ti241 : Inf Tryz.prog 241 64 64 (.agg #[.int .u8 0, .int .u8 0, .int .u8 0, .int .u8 0, .int .u8 0, .int .u8 0, .int .u8 0, .int .u8 0, .int .u8 0, .int .u8 0, .int .u8 0, .int .u8 0, .int .u8 0, .int .u8 0, .int .u8 0, .int .u8 0, .int .u8 0, .int .u8 0, .int .u8 0, .int .u8 0, .int .u8 0, .int .u8 0, .int .u8 0, .int .u8 0, .int .u8 0, .int .u8 0, .int .u8 0, .int .u8 0, .int .u8 0, .int .u8 0, .int .u8 0, .int .u8 0, .int .u8 0, .int .u8 0, .int .u8 0, .int .u8 0, .int .u8 0, .int .u8 0, .int .u8 0, .int .u8 0, .int .u8 0, .int .u8 0, .int .u8 0, .int .u8 0, .int .u8 0, .int .u8 0, .int .u8 0, .int .u8 0, .int .u8 0, .int .u8 0, .int .u8 0, .int .u8 0, .int .u8 0, .int .u8 0, .int .u8 0, .int .u8 0, .int .u8 0, .int .u8 0, .int .u8 0, .int .u8 0, .int .u8 0, .int .u8 0, .int .u8 0, .int .u8 0]) (.array 64 5) := inf (by kernel_rfl) Tryz.underlying241
theorem ti242 : Inf Tryz.prog 242 1 8 (.nilFunc) (.func #[22, 3, 3] #[4] false) := inf (by kernel_rfl) Tryz.underlying242
theorem ti243 : Inf Tryz.prog 243 1 8 (.nilFunc) (.func #[29, 3, 3, 3] #[4] false) := inf (by kernel_rfl) Tryz.underlying243
theorem ti244 : Inf Tryz.prog 244 1 8 (.nilFunc) (.func #[29, 22, 3, 3, 3] #[3] false) := inf (by kernel_rfl) Tryz.underlying244
theorem ti245 : Inf Tryz.prog 245 1 8 (.nilFunc) (.func #[25, 213] #[4] false) := inf (by kernel_rfl) Tryz.underlying245
theorem ti246 : Inf Tryz.prog 246 1 8 (.nilFunc) (.func #[25, 213] #[3] false) := inf (by kernel_rfl) Tryz.underlying246
theorem ti247 : Inf Tryz.prog 247 1 8 (.nilFunc) (.func #[] #[9] false) := inf (by kernel_rfl) Tryz.underlying247
theorem ti248 : Inf Tryz.prog 248 4 40 (.agg #[.pointer none, .pointer none, .pointer none, .string ⟨#[]⟩]) (.struct #[{ name := "_interface", type := 17, offset := 0, embedded := false, tag := "", pkgPath := "runtime", byteOffset := 0 }, { name := "concrete", type := 17, offset := 1, embedded := false, tag := "", pkgPath := "runtime", byteOffset := 8 }, { name := "asserted", type := 17, offset := 2, embedded := false, tag := "", pkgPath := "runtime", byteOffset := 16 }, { name := "missingMethod", type := 9, offset := 3, embedded := false, tag := "", pkgPath := "runtime", byteOffset := 24 }]) := inf (by kernel_rfl) Tryz.underlying248
theorem ti249 : Inf Tryz.prog 249 4 40 (.agg #[.pointer none, .pointer none, .pointer none, .string ⟨#[]⟩]) (.struct #[{ name := "_interface", type := 17, offset := 0, embedded := false, tag := "", pkgPath := "runtime", byteOffset := 0 }, { name := "concrete", type := 17, offset := 1, embedded := false, tag := "", pkgPath := "runtime", byteOffset := 8 }, { name := "asserted", type := 17, offset := 2, embedded := false, tag := "", pkgPath := "runtime", byteOffset := 16 }, { name := "missingMethod", type := 9, offset := 3, embedded := false, tag := "", pkgPath := "runtime", byteOffset := 24 }]) := inf (by kernel_rfl) Tryz.underlying249
theorem ti250 : Inf Tryz.prog 250 0 0 (.agg #[]) (.array 0 16) := inf (by kernel_rfl) Tryz.underlying250
theorem ti251 : Inf Tryz.prog 251 0 0 (.agg #[]) (.struct #[{ name := "_", type := 250, offset := 0, embedded := false, tag := "", pkgPath := "runtime", byteOffset := 0 }]) := inf (by kernel_rfl) Tryz.underlying251
theorem ti252 : Inf Tryz.prog 252 0 0 (.agg #[]) (.struct #[{ name := "_", type := 250, offset := 0, embedded := false, tag := "", pkgPath := "runtime", byteOffset := 0 }]) := inf (by kernel_rfl) Tryz.underlying252
theorem ti253 : Inf Tryz.prog 253 1 4 (.int .u32 0) (.int .u32) := inf (by kernel_rfl) Tryz.underlying253
theorem ti254 : Inf Tryz.prog 254 1 1 (.int .u8 0) (.int .u8) := inf (by kernel_rfl) Tryz.underlying254
theorem ti255 : Inf Tryz.prog 255 1 1 (.int .u8 0) (.int .u8) := inf (by kernel_rfl) Tryz.underlying255
theorem ti256 : Inf Tryz.prog 256 1 8 (.nilFunc) (.func #[265, 265] #[4] false) := inf (by kernel_rfl) Tryz.underlying256
theorem ti257 : Inf Tryz.prog 257 1 8 (.pointer none) (.pointer 5) := inf (by kernel_rfl) Tryz.underlying257
theorem ti258 : Inf Tryz.prog 258 1 4 (.int .i32 0) (.int .i32) := inf (by kernel_rfl) Tryz.underlying258
theorem ti259 : Inf Tryz.prog 259 1 4 (.int .i32 0) (.int .i32) := inf (by kernel_rfl) Tryz.underlying259
theorem ti260 : Inf Tryz.prog 260 11 48 (.agg #[.int .u64 0, .int .u64 0, .int .u32 0, .int .u8 0, .int .u8 0, .int .u8 0, .int .u8 0, .nilFunc, .pointer none, .int .i32 0, .int .i32 0]) (.struct #[{ name := "Size_", type := 12, offset := 0, embedded := false, tag := "", pkgPath := "", byteOffset := 0 }, { name := "PtrBytes", type := 12, offset := 1, embedded := false, tag := "", pkgPath := "", byteOffset := 8 }, { name := "Hash", type := 253, offset := 2, embedded := false, tag := "", pkgPath := "", byteOffset := 16 }, { name := "TFlag", type := 254, offset := 3, embedded := false, tag := "", pkgPath := "", byteOffset := 20 }, { name := "Align_", type := 5, offset := 4, embedded := false, tag := "", pkgPath := "", byteOffset := 21 }, { name := "FieldAlign_", type := 5, offset := 5, embedded := false, tag := "", pkgPath := "", byteOffset := 22 }, { name := "Kind_", type := 255, offset := 6, embedded := false, tag := "", pkgPath := "", byteOffset := 23 }, { name := "Equal", type := 256, offset := 7, embedded := false, tag := "", pkgPath := "", byteOffset := 24 }, { name := "GCData", type := 257, offset := 8, embedded := false, tag := "", pkgPath := "", byteOffset := 32 }, { name := "Str", type := 258, offset := 9, embedded := false, tag := "", pkgPath := "", byteOffset := 40 }, { name := "PtrToThis", type := 259, offset := 10, embedded := false, tag := "", pkgPath := "", byteOffset := 44 }]) := inf (by kernel_rfl) Tryz.underlying260
theorem ti261 : Inf Tryz.prog 261 11 48 (.agg #[.int .u64 0, .int .u64 0, .int .u32 0, .int .u8 0, .int .u8 0, .int .u8 0, .int .u8 0, .nilFunc, .pointer none, .int .i32 0, .int .i32 0]) (.struct #[{ name := "Size_", type := 12, offset := 0, embedded := false, tag := "", pkgPath := "", byteOffset := 0 }, { name := "PtrBytes", type := 12, offset := 1, embedded := false, tag := "", pkgPath := "", byteOffset := 8 }, { name := "Hash", type := 253, offset := 2, embedded := false, tag := "", pkgPath := "", byteOffset := 16 }, { name := "TFlag", type := 254, offset := 3, embedded := false, tag := "", pkgPath := "", byteOffset := 20 }, { name := "Align_", type := 5, offset := 4, embedded := false, tag := "", pkgPath := "", byteOffset := 21 }, { name := "FieldAlign_", type := 5, offset := 5, embedded := false, tag := "", pkgPath := "", byteOffset := 22 }, { name := "Kind_", type := 255, offset := 6, embedded := false, tag := "", pkgPath := "", byteOffset := 23 }, { name := "Equal", type := 256, offset := 7, embedded := false, tag := "", pkgPath := "", byteOffset := 24 }, { name := "GCData", type := 257, offset := 8, embedded := false, tag := "", pkgPath := "", byteOffset := 32 }, { name := "Str", type := 258, offset := 9, embedded := false, tag := "", pkgPath := "", byteOffset := 40 }, { name := "PtrToThis", type := 259, offset := 10, embedded := false, tag := "", pkgPath := "", byteOffset := 44 }]) := inf (by kernel_rfl) Tryz.underlying261
theorem ti262 : Inf Tryz.prog 262 1 8 (.nilFunc) (.func #[3] #[9] false) := inf (by kernel_rfl) Tryz.underlying262
theorem ti263 : Inf Tryz.prog 263 1 8 (.nilFunc) (.func #[4] #[] false) := inf (by kernel_rfl) Tryz.underlying263
theorem ti264 : Inf Tryz.prog 264 1 8 (.nilFunc) (.func #[9] #[] false) := inf (by kernel_rfl) Tryz.underlying264
noncomputable def i1 : TInfo := ⟨1, 8, .nilFunc, .nilfn, .func #[] #[] false, [], []⟩
noncomputable def i2 : TInfo := ⟨1, 8, .int .i64 0, .int .i64 0, .int .i64, [], []⟩
noncomputable def i3 : TInfo := ⟨1, 8, .int .i64 0, .int .i64 0, .int .i64, [], []⟩
noncomputable def i4 : TInfo := ⟨1, 1, .bool false, .bool false, .bool, [], []⟩
noncomputable def i5 : TInfo := ⟨1, 1, .int .u8 0, .int .u8 0, .int .u8, [], []⟩
noncomputable def i6 : TInfo := ⟨1, 1, .int .u8 0, .int .u8 0, .int .u8, [], []⟩
noncomputable def i7 : TInfo := ⟨4, 24, .agg #[.int .i64 0, .int .i64 0, .bool false, .int .u8 0], .agg [.int .i64 0, .int .i64 0, .bool false, .int .u8 0], .struct #[{ name := "x", type := 2, offset := 0, embedded := false, tag := "", pkgPath := "runtime", byteOffset := 0 }, { name := "y", type := 3, offset := 1, embedded := false, tag := "", pkgPath := "runtime", byteOffset := 8 }, { name := "signed", type := 4, offset := 2, embedded := false, tag := "", pkgPath := "runtime", byteOffset := 16 }, { name := "code", type := 6, offset := 3, embedded := false, tag := "", pkgPath := "runtime", byteOffset := 17 }], [0, 1, 2, 3], [(0, 1), (1, 1), (2, 1), (3, 1)]⟩
noncomputable def i8 : TInfo := ⟨4, 24, .agg #[.int .i64 0, .int .i64 0, .bool false, .int .u8 0], .agg [.int .i64 0, .int .i64 0, .bool false, .int .u8 0], .struct #[{ name := "x", type := 2, offset := 0, embedded := false, tag := "", pkgPath := "runtime", byteOffset := 0 }, { name := "y", type := 3, offset := 1, embedded := false, tag := "", pkgPath := "runtime", byteOffset := 8 }, { name := "signed", type := 4, offset := 2, embedded := false, tag := "", pkgPath := "runtime", byteOffset := 16 }, { name := "code", type := 6, offset := 3, embedded := false, tag := "", pkgPath := "runtime", byteOffset := 17 }], [0, 1, 2, 3], [(0, 1), (1, 1), (2, 1), (3, 1)]⟩
noncomputable def i9 : TInfo := ⟨1, 16, .string ⟨#[]⟩, .str ⟨#[]⟩, .string, [], []⟩
noncomputable def i10 : TInfo := ⟨1, 16, .string ⟨#[]⟩, .str ⟨#[]⟩, .string, [], []⟩
noncomputable def i11 : TInfo := ⟨1, 16, .string ⟨#[]⟩, .str ⟨#[]⟩, .string, [], []⟩
noncomputable def i12 : TInfo := ⟨1, 8, .int .u64 0, .int .u64 0, .int .u64, [], []⟩
noncomputable def i13 : TInfo := ⟨2, 24, .agg #[.string ⟨#[]⟩, .int .u64 0], .agg [.str ⟨#[]⟩, .int .u64 0], .struct #[{ name := "msg", type := 9, offset := 0, embedded := false, tag := "", pkgPath := "runtime", byteOffset := 0 }, { name := "addr", type := 12, offset := 1, embedded := false, tag := "", pkgPath := "runtime", byteOffset := 16 }], [0, 1], [(0, 1), (1, 1)]⟩
noncomputable def i14 : TInfo := ⟨2, 24, .agg #[.string ⟨#[]⟩, .int .u64 0], .agg [.str ⟨#[]⟩, .int .u64 0], .struct #[{ name := "msg", type := 9, offset := 0, embedded := false, tag := "", pkgPath := "runtime", byteOffset := 0 }, { name := "addr", type := 12, offset := 1, embedded := false, tag := "", pkgPath := "runtime", byteOffset := 16 }], [0, 1], [(0, 1), (1, 1)]⟩
noncomputable def i15 : TInfo := ⟨1, 8, .pointer none, .nilp, .pointer 249, [], []⟩
noncomputable def i16 : TInfo := ⟨1, 8, .pointer none, .nilp, .pointer 252, [], []⟩
noncomputable def i17 : TInfo := ⟨1, 8, .pointer none, .nilp, .pointer 261, [], []⟩
noncomputable def i18 : TInfo := ⟨1, 8, .agg #[.pointer none], .agg [.nilp], .struct #[{ name := "typ", type := 17, offset := 0, embedded := false, tag := "", pkgPath := "internal/runtime/maps", byteOffset := 0 }], [0], [(0, 1)]⟩
noncomputable def i19 : TInfo := ⟨1, 8, .agg #[.pointer none], .agg [.nilp], .struct #[{ name := "typ", type := 17, offset := 0, embedded := false, tag := "", pkgPath := "internal/runtime/maps", byteOffset := 0 }], [0], [(0, 1)]⟩
noncomputable def i21 : TInfo := ⟨1, 4, .int .i32 0, .int .i32 0, .int .i32, [], []⟩
noncomputable def i22 : TInfo := ⟨1, 24, .slice none 0 0, .nils, .slice 93, [], []⟩
noncomputable def i23 : TInfo := ⟨1, 24, .slice none 0 0, .nils, .slice 104, [], []⟩
noncomputable def i24 : TInfo := ⟨1, 24, .slice none 0 0, .nils, .slice 106, [], []⟩
noncomputable def i25 : TInfo := ⟨1, 24, .slice none 0 0, .nils, .slice 108, [], []⟩
noncomputable def i26 : TInfo := ⟨3, 72, .agg #[.slice none 0 0, .slice none 0 0, .slice none 0 0], .agg [.nils, .nils, .nils], .struct #[{ name := "Pairs", type := 23, offset := 0, embedded := false, tag := "", pkgPath := "", byteOffset := 0 }, { name := "Loads", type := 24, offset := 1, embedded := false, tag := "", pkgPath := "", byteOffset := 24 }, { name := "Caps", type := 25, offset := 2, embedded := false, tag := "", pkgPath := "", byteOffset := 48 }], [0, 1, 2], [(0, 1), (1, 1), (2, 1)]⟩
noncomputable def i27 : TInfo := ⟨3, 72, .agg #[.slice none 0 0, .slice none 0 0, .slice none 0 0], .agg [.nils, .nils, .nils], .struct #[{ name := "Pairs", type := 23, offset := 0, embedded := false, tag := "", pkgPath := "", byteOffset := 0 }, { name := "Loads", type := 24, offset := 1, embedded := false, tag := "", pkgPath := "", byteOffset := 24 }, { name := "Caps", type := 25, offset := 2, embedded := false, tag := "", pkgPath := "", byteOffset := 48 }], [0, 1, 2], [(0, 1), (1, 1), (2, 1)]⟩
noncomputable def i28 : TInfo := ⟨4, 96, .agg #[.slice none 0 0, .slice none 0 0, .slice none 0 0, .slice none 0 0], .agg [.nils, .nils, .nils, .nils], .struct #[{ name := "Domains", type := 22, offset := 0, embedded := false, tag := "", pkgPath := "", byteOffset := 0 }, { name := "Rules", type := 27, offset := 1, embedded := false, tag := "", pkgPath := "", byteOffset := 24 }], [0, 1], [(0, 1), (1, 3)]⟩
noncomputable def i29 : TInfo := ⟨4, 96, .agg #[.slice none 0 0, .slice none 0 0, .slice none 0 0, .slice none 0 0], .agg [.nils, .nils, .nils, .nils], .struct #[{ name := "Domains", type := 22, offset := 0, embedded := false, tag := "", pkgPath := "", byteOffset := 0 }, { name := "Rules", type := 27, offset := 1, embedded := false, tag := "", pkgPath := "", byteOffset := 24 }], [0, 1], [(0, 1), (1, 3)]⟩
noncomputable def i30 : TInfo := ⟨1, 24, .slice none 0 0, .nils, .slice 66, [], []⟩
noncomputable def i31 : TInfo := ⟨1, 8, .nilFunc, .nilfn, .func #[29, 3, 3] #[4] false, [], []⟩
noncomputable def i32 : TInfo := ⟨1, 8, .nilFunc, .nilfn, .func #[] #[4] false, [], []⟩
noncomputable def i33 : TInfo := ⟨1, 8, .nilFunc, .nilfn, .func #[29, 30] #[4] false, [], []⟩
noncomputable def i34 : TInfo := ⟨1, 8, .nilFunc, .nilfn, .func #[30, 30] #[4] false, [], []⟩
noncomputable def i35 : TInfo := ⟨1, 8, .nilFunc, .nilfn, .func #[29, 30, 30] #[4] false, [], []⟩
noncomputable def i36 : TInfo := ⟨1, 24, .slice none 0 0, .nils, .slice 30, [], []⟩
noncomputable def i37 : TInfo := ⟨1, 8, .nilFunc, .nilfn, .func #[29, 36] #[4] false, [], []⟩
noncomputable def i38 : TInfo := ⟨1, 8, .nilFunc, .nilfn, .func #[29] #[4] false, [], []⟩
noncomputable def i39 : TInfo := ⟨1, 8, .pointer none, .nilp, .pointer 60, [], []⟩
noncomputable def i41 : TInfo := ⟨1, 8, .nilFunc, .nilfn, .func #[29, 36] #[39, 36] false, [], []⟩
noncomputable def i42 : TInfo := ⟨1, 8, .int .i64 0, .int .i64 0, .int .i64, [], []⟩
noncomputable def i44 : TInfo := ⟨1, 8, .nilFunc, .nilfn, .func #[30] #[4, 42] false, [], []⟩
noncomputable def i45 : TInfo := ⟨1, 8, .nilFunc, .nilfn, .func #[29, 36, 30] #[4] false, [], []⟩
noncomputable def i47 : TInfo := ⟨1, 8, .nilFunc, .nilfn, .func #[29] #[39, 42] false, [], []⟩
noncomputable def i48 : TInfo := ⟨1, 8, .nilFunc, .nilfn, .func #[] #[39] false, [], []⟩
noncomputable def i49 : TInfo := ⟨1, 8, .nilFunc, .nilfn, .func #[120] #[] false, [], []⟩
noncomputable def i50 : TInfo := ⟨1, 8, .nilFunc, .nilfn, .func #[120] #[] false, [], []⟩
noncomputable def i51 : TInfo := ⟨1, 8, .nilFunc, .nilfn, .func #[] #[50] false, [], []⟩
noncomputable def i52 : TInfo := ⟨1, 8, .nilFunc, .nilfn, .func #[30] #[42] false, [], []⟩
noncomputable def i53 : TInfo := ⟨1, 8, .nilFunc, .nilfn, .func #[] #[3] false, [], []⟩
noncomputable def i55 : TInfo := ⟨1, 8, .nilFunc, .nilfn, .func #[39] #[36, 4] false, [], []⟩
noncomputable def i56 : TInfo := ⟨1, 8, .nilFunc, .nilfn, .func #[36, 36] #[4] false, [], []⟩
noncomputable def i57 : TInfo := ⟨1, 8, .nilFunc, .nilfn, .func #[29, 36, 3] #[4] false, [], []⟩
noncomputable def i58 : TInfo := ⟨1, 8, .pointer none, .nilp, .pointer 178, [], []⟩
noncomputable def i59 : TInfo := ⟨7, 136, .agg #[.slice none 0 0, .slice none 0 0, .slice none 0 0, .slice none 0 0, .pointer none, .slice none 0 0, .bool false], .agg [.nils, .nils, .nils, .nils, .nilp, .nils, .bool false], .struct #[{ name := "p", type := 29, offset := 0, embedded := false, tag := "", pkgPath := "bandplan/nogood", byteOffset := 0 }, { name := "base", type := 58, offset := 4, embedded := false, tag := "", pkgPath := "bandplan/nogood", byteOffset := 96 }, { name := "list", type := 36, offset := 5, embedded := false, tag := "", pkgPath := "bandplan/nogood", byteOffset := 104 }, { name := "empty", type := 4, offset := 6, embedded := false, tag := "", pkgPath := "bandplan/nogood", byteOffset := 128 }], [0, 4, 5, 6], [(0, 4), (4, 1), (5, 1), (6, 1)]⟩
noncomputable def i60 : TInfo := ⟨7, 136, .agg #[.slice none 0 0, .slice none 0 0, .slice none 0 0, .slice none 0 0, .pointer none, .slice none 0 0, .bool false], .agg [.nils, .nils, .nils, .nils, .nilp, .nils, .bool false], .struct #[{ name := "p", type := 29, offset := 0, embedded := false, tag := "", pkgPath := "bandplan/nogood", byteOffset := 0 }, { name := "base", type := 58, offset := 4, embedded := false, tag := "", pkgPath := "bandplan/nogood", byteOffset := 96 }, { name := "list", type := 36, offset := 5, embedded := false, tag := "", pkgPath := "bandplan/nogood", byteOffset := 104 }, { name := "empty", type := 4, offset := 6, embedded := false, tag := "", pkgPath := "bandplan/nogood", byteOffset := 128 }], [0, 4, 5, 6], [(0, 4), (4, 1), (5, 1), (6, 1)]⟩
noncomputable def i61 : TInfo := ⟨1, 24, .slice none 0 0, .nils, .slice 39, [], []⟩
noncomputable def i63 : TInfo := ⟨1, 8, .nilFunc, .nilfn, .func #[30] #[22, 4, 42] false, [], []⟩
noncomputable def i64 : TInfo := ⟨1, 8, .nilFunc, .nilfn, .func #[] #[29] false, [], []⟩
noncomputable def i65 : TInfo := ⟨2, 16, .agg #[.int .i64 0, .int .i64 0], .agg [.int .i64 0, .int .i64 0], .struct #[{ name := "Station", type := 3, offset := 0, embedded := false, tag := "", pkgPath := "", byteOffset := 0 }, { name := "Channel", type := 3, offset := 1, embedded := false, tag := "", pkgPath := "", byteOffset := 8 }], [0, 1], [(0, 1), (1, 1)]⟩
noncomputable def i66 : TInfo := ⟨2, 16, .agg #[.int .i64 0, .int .i64 0], .agg [.int .i64 0, .int .i64 0], .struct #[{ name := "Station", type := 3, offset := 0, embedded := false, tag := "", pkgPath := "", byteOffset := 0 }, { name := "Channel", type := 3, offset := 1, embedded := false, tag := "", pkgPath := "", byteOffset := 8 }], [0, 1], [(0, 1), (1, 1)]⟩
noncomputable def i67 : TInfo := ⟨1, 8, .nilFunc, .nilfn, .func #[30] #[4] false, [], []⟩
noncomputable def i68 : TInfo := ⟨1, 24, .slice none 0 0, .nils, .slice 3, [], []⟩
noncomputable def i69 : TInfo := ⟨2, 48, .agg #[.slice none 0 0, .slice none 0 0], .agg [.nils, .nils], .struct #[{ name := "Stations", type := 68, offset := 0, embedded := false, tag := "", pkgPath := "", byteOffset := 0 }, { name := "Lemmas", type := 36, offset := 1, embedded := false, tag := "", pkgPath := "", byteOffset := 24 }], [0, 1], [(0, 1), (1, 1)]⟩
noncomputable def i70 : TInfo := ⟨2, 48, .agg #[.slice none 0 0, .slice none 0 0], .agg [.nils, .nils], .struct #[{ name := "Stations", type := 68, offset := 0, embedded := false, tag := "", pkgPath := "", byteOffset := 0 }, { name := "Lemmas", type := 36, offset := 1, embedded := false, tag := "", pkgPath := "", byteOffset := 24 }], [0, 1], [(0, 1), (1, 1)]⟩
noncomputable def i71 : TInfo := ⟨1, 8, .nilFunc, .nilfn, .func #[29, 70] #[4] false, [], []⟩
noncomputable def i73 : TInfo := ⟨1, 8, .nilFunc, .nilfn, .func #[29, 70] #[3, 42] false, [], []⟩
noncomputable def i75 : TInfo := ⟨1, 8, .nilFunc, .nilfn, .func #[29, 70] #[3, 3] false, [], []⟩
noncomputable def i76 : TInfo := ⟨1, 8, .nilFunc, .nilfn, .func #[70] #[4] false, [], []⟩
noncomputable def i77 : TInfo := ⟨1, 8, .nilFunc, .nilfn, .func #[29, 70] #[42] false, [], []⟩
noncomputable def i78 : TInfo := ⟨1, 8, .nilFunc, .nilfn, .func #[29, 70] #[3] false, [], []⟩
noncomputable def i80 : TInfo := ⟨1, 8, .nilFunc, .nilfn, .func #[29, 68] #[29, 3] false, [], []⟩
noncomputable def i81 : TInfo := ⟨1, 24, .slice none 0 0, .nils, .slice 5, [], []⟩
noncomputable def i82 : TInfo := ⟨1, 8, .nilFunc, .nilfn, .func #[70, 3] #[4] false, [], []⟩
noncomputable def i84 : TInfo := ⟨1, 8, .nilFunc, .nilfn, .func #[81] #[70, 42] false, [], []⟩
noncomputable def i86 : TInfo := ⟨1, 8, .nilFunc, .nilfn, .func #[81] #[70, 3] false, [], []⟩
noncomputable def i87 : TInfo := ⟨1, 8, .nilFunc, .nilfn, .func #[70, 70] #[4] false, [], []⟩
noncomputable def i89 : TInfo := ⟨1, 8, .nilFunc, .nilfn, .func #[70] #[81, 42] false, [], []⟩
noncomputable def i90 : TInfo := ⟨1, 8, .nilFunc, .nilfn, .func #[70] #[81] false, [], []⟩
noncomputable def i91 : TInfo := ⟨1, 8, .nilFunc, .nilfn, .func #[70, 81] #[4] false, [], []⟩
noncomputable def i92 : TInfo := ⟨2, 32, .agg #[.int .i64 0, .slice none 0 0], .agg [.int .i64 0, .nils], .struct #[{ name := "Station", type := 3, offset := 0, embedded := false, tag := "", pkgPath := "", byteOffset := 0 }, { name := "Channels", type := 68, offset := 1, embedded := false, tag := "", pkgPath := "", byteOffset := 8 }], [0, 1], [(0, 1), (1, 1)]⟩
noncomputable def i93 : TInfo := ⟨2, 32, .agg #[.int .i64 0, .slice none 0 0], .agg [.int .i64 0, .nils], .struct #[{ name := "Station", type := 3, offset := 0, embedded := false, tag := "", pkgPath := "", byteOffset := 0 }, { name := "Channels", type := 68, offset := 1, embedded := false, tag := "", pkgPath := "", byteOffset := 8 }], [0, 1], [(0, 1), (1, 1)]⟩
noncomputable def i94 : TInfo := ⟨1, 8, .nilFunc, .nilfn, .func #[22, 22] #[4] false, [], []⟩
noncomputable def i95 : TInfo := ⟨1, 8, .nilFunc, .nilfn, .func #[39, 30, 4] #[4] false, [], []⟩
noncomputable def i96 : TInfo := ⟨1, 8, .nilFunc, .nilfn, .func #[68, 68] #[4] false, [], []⟩
noncomputable def i97 : TInfo := ⟨1, 8, .nilFunc, .nilfn, .func #[29, 3] #[3] false, [], []⟩
noncomputable def i98 : TInfo := ⟨1, 8, .nilFunc, .nilfn, .func #[68, 3] #[4] false, [], []⟩
noncomputable def i99 : TInfo := ⟨1, 8, .nilFunc, .nilfn, .func #[30, 66] #[4] false, [], []⟩
noncomputable def i100 : TInfo := ⟨1, 8, .nilFunc, .nilfn, .func #[36, 3] #[4] false, [], []⟩
noncomputable def i101 : TInfo := ⟨1, 8, .nilFunc, .nilfn, .func #[27] #[4] false, [], []⟩
noncomputable def i102 : TInfo := ⟨1, 8, .nilFunc, .nilfn, .func #[3] #[4] false, [], []⟩
noncomputable def i103 : TInfo := ⟨5, 40, .agg #[.int .i64 0, .int .i64 0, .int .i64 0, .int .i64 0, .int .i64 0], .agg [.int .i64 0, .int .i64 0, .int .i64 0, .int .i64 0, .int .i64 0], .struct #[{ name := "A", type := 3, offset := 0, embedded := false, tag := "", pkgPath := "", byteOffset := 0 }, { name := "B", type := 3, offset := 1, embedded := false, tag := "", pkgPath := "", byteOffset := 8 }, { name := "Offset", type := 3, offset := 2, embedded := false, tag := "", pkgPath := "", byteOffset := 16 }, { name := "Low", type := 3, offset := 3, embedded := false, tag := "", pkgPath := "", byteOffset := 24 }, { name := "High", type := 3, offset := 4, embedded := false, tag := "", pkgPath := "", byteOffset := 32 }], [0, 1, 2, 3, 4], [(0, 1), (1, 1), (2, 1), (3, 1), (4, 1)]⟩
noncomputable def i104 : TInfo := ⟨5, 40, .agg #[.int .i64 0, .int .i64 0, .int .i64 0, .int .i64 0, .int .i64 0], .agg [.int .i64 0, .int .i64 0, .int .i64 0, .int .i64 0, .int .i64 0], .struct #[{ name := "A", type := 3, offset := 0, embedded := false, tag := "", pkgPath := "", byteOffset := 0 }, { name := "B", type := 3, offset := 1, embedded := false, tag := "", pkgPath := "", byteOffset := 8 }, { name := "Offset", type := 3, offset := 2, embedded := false, tag := "", pkgPath := "", byteOffset := 16 }, { name := "Low", type := 3, offset := 3, embedded := false, tag := "", pkgPath := "", byteOffset := 24 }, { name := "High", type := 3, offset := 4, embedded := false, tag := "", pkgPath := "", byteOffset := 32 }], [0, 1, 2, 3, 4], [(0, 1), (1, 1), (2, 1), (3, 1), (4, 1)]⟩
noncomputable def i105 : TInfo := ⟨5, 40, .agg #[.int .i64 0, .int .i64 0, .int .i64 0, .int .i64 0, .int .i64 0], .agg [.int .i64 0, .int .i64 0, .int .i64 0, .int .i64 0, .int .i64 0], .struct #[{ name := "To", type := 3, offset := 0, embedded := false, tag := "", pkgPath := "", byteOffset := 0 }, { name := "From", type := 3, offset := 1, embedded := false, tag := "", pkgPath := "", byteOffset := 8 }, { name := "Weight", type := 3, offset := 2, embedded := false, tag := "", pkgPath := "", byteOffset := 16 }, { name := "Low", type := 3, offset := 3, embedded := false, tag := "", pkgPath := "", byteOffset := 24 }, { name := "High", type := 3, offset := 4, embedded := false, tag := "", pkgPath := "", byteOffset := 32 }], [0, 1, 2, 3, 4], [(0, 1), (1, 1), (2, 1), (3, 1), (4, 1)]⟩
noncomputable def i106 : TInfo := ⟨5, 40, .agg #[.int .i64 0, .int .i64 0, .int .i64 0, .int .i64 0, .int .i64 0], .agg [.int .i64 0, .int .i64 0, .int .i64 0, .int .i64 0, .int .i64 0], .struct #[{ name := "To", type := 3, offset := 0, embedded := false, tag := "", pkgPath := "", byteOffset := 0 }, { name := "From", type := 3, offset := 1, embedded := false, tag := "", pkgPath := "", byteOffset := 8 }, { name := "Weight", type := 3, offset := 2, embedded := false, tag := "", pkgPath := "", byteOffset := 16 }, { name := "Low", type := 3, offset := 3, embedded := false, tag := "", pkgPath := "", byteOffset := 24 }, { name := "High", type := 3, offset := 4, embedded := false, tag := "", pkgPath := "", byteOffset := 32 }], [0, 1, 2, 3, 4], [(0, 1), (1, 1), (2, 1), (3, 1), (4, 1)]⟩
noncomputable def i107 : TInfo := ⟨4, 32, .agg #[.int .i64 0, .int .i64 0, .int .i64 0, .int .i64 0], .agg [.int .i64 0, .int .i64 0, .int .i64 0, .int .i64 0], .struct #[{ name := "Station", type := 3, offset := 0, embedded := false, tag := "", pkgPath := "", byteOffset := 0 }, { name := "Max", type := 3, offset := 1, embedded := false, tag := "", pkgPath := "", byteOffset := 8 }, { name := "Low", type := 3, offset := 2, embedded := false, tag := "", pkgPath := "", byteOffset := 16 }, { name := "High", type := 3, offset := 3, embedded := false, tag := "", pkgPath := "", byteOffset := 24 }], [0, 1, 2, 3], [(0, 1), (1, 1), (2, 1), (3, 1)]⟩
noncomputable def i108 : TInfo := ⟨4, 32, .agg #[.int .i64 0, .int .i64 0, .int .i64 0, .int .i64 0], .agg [.int .i64 0, .int .i64 0, .int .i64 0, .int .i64 0], .struct #[{ name := "Station", type := 3, offset := 0, embedded := false, tag := "", pkgPath := "", byteOffset := 0 }, { name := "Max", type := 3, offset := 1, embedded := false, tag := "", pkgPath := "", byteOffset := 8 }, { name := "Low", type := 3, offset := 2, embedded := false, tag := "", pkgPath := "", byteOffset := 16 }, { name := "High", type := 3, offset := 3, embedded := false, tag := "", pkgPath := "", byteOffset := 24 }], [0, 1, 2, 3], [(0, 1), (1, 1), (2, 1), (3, 1)]⟩
noncomputable def i110 : TInfo := ⟨1, 8, .nilFunc, .nilfn, .func #[30] #[58, 4] false, [], []⟩
noncomputable def i112 : TInfo := ⟨1, 8, .nilFunc, .nilfn, .func #[29, 36, 30] #[22, 4] false, [], []⟩
noncomputable def i114 : TInfo := ⟨1, 8, .nilFunc, .nilfn, .func #[29] #[58, 42] false, [], []⟩
noncomputable def i116 : TInfo := ⟨1, 8, .nilFunc, .nilfn, .func #[29] #[68, 42] false, [], []⟩
noncomputable def i118 : TInfo := ⟨1, 8, .nilFunc, .nilfn, .func #[29, 68] #[29, 42] false, [], []⟩
noncomputable def i119 : TInfo := ⟨1, 8, .nilFunc, .nilfn, .func #[36] #[36] false, [], []⟩
noncomputable def i120 : TInfo := ⟨1, 8, .nilFunc, .nilfn, .func #[3, 30] #[4] false, [], []⟩
noncomputable def i121 : TInfo := ⟨1, 8, .nilFunc, .nilfn, .func #[30] #[30] false, [], []⟩
noncomputable def i122 : TInfo := ⟨1, 8, .nilFunc, .nilfn, .func #[29, 3] #[68, 42] false, [], []⟩
noncomputable def i123 : TInfo := ⟨1, 8, .nilFunc, .nilfn, .func #[] #[22] false, [], []⟩
noncomputable def i124 : TInfo := ⟨1, 8, .nilFunc, .nilfn, .func #[3, 3] #[104] false, [], []⟩
noncomputable def i125 : TInfo := ⟨1, 8, .nilFunc, .nilfn, .func #[68, 3] #[70] false, [], []⟩
noncomputable def i126 : TInfo := ⟨1, 8, .nilFunc, .nilfn, .func #[70, 3, 42] #[4] false, [], []⟩
noncomputable def i127 : TInfo := ⟨1, 8, .nilFunc, .nilfn, .func #[29, 70] #[70, 42] false, [], []⟩
noncomputable def i128 : TInfo := ⟨1, 8, .nilFunc, .nilfn, .func #[29, 36] #[3] false, [], []⟩
noncomputable def i130 : TInfo := ⟨1, 8, .nilFunc, .nilfn, .func #[30, 68] #[30, 42] false, [], []⟩
noncomputable def i131 : TInfo := ⟨1, 8, .int .u64 0, .int .u64 0, .int .u64, [], []⟩
noncomputable def i132 : TInfo := ⟨8, 64, .agg #[.int .u64 0, .int .u64 0, .int .u64 0, .int .u64 0, .int .u64 0, .int .u64 0, .int .u64 0, .int .u64 0], .agg [.int .u64 0, .int .u64 0, .int .u64 0, .int .u64 0, .int .u64 0, .int .u64 0, .int .u64 0, .int .u64 0], .array 8 131, [], []⟩
noncomputable def i133 : TInfo := ⟨8, 64, .agg #[.int .u64 0, .int .u64 0, .int .u64 0, .int .u64 0, .int .u64 0, .int .u64 0, .int .u64 0, .int .u64 0], .agg [.int .u64 0, .int .u64 0, .int .u64 0, .int .u64 0, .int .u64 0, .int .u64 0, .int .u64 0, .int .u64 0], .struct #[{ name := "words", type := 132, offset := 0, embedded := false, tag := "", pkgPath := "bandplan/bitset", byteOffset := 0 }], [0], [(0, 8)]⟩
noncomputable def i134 : TInfo := ⟨8, 64, .agg #[.int .u64 0, .int .u64 0, .int .u64 0, .int .u64 0, .int .u64 0, .int .u64 0, .int .u64 0, .int .u64 0], .agg [.int .u64 0, .int .u64 0, .int .u64 0, .int .u64 0, .int .u64 0, .int .u64 0, .int .u64 0, .int .u64 0], .struct #[{ name := "words", type := 132, offset := 0, embedded := false, tag := "", pkgPath := "bandplan/bitset", byteOffset := 0 }], [0], [(0, 8)]⟩
noncomputable def i136 : TInfo := ⟨1, 8, .nilFunc, .nilfn, .func #[68] #[134, 42] true, [], []⟩
noncomputable def i137 : TInfo := ⟨1, 8, .nilFunc, .nilfn, .func #[68] #[4] false, [], []⟩
noncomputable def i138 : TInfo := ⟨1, 8, .pointer none, .nilp, .pointer 199, [], []⟩
noncomputable def i139 : TInfo := ⟨1, 8, .nilFunc, .nilfn, .func #[81] #[138] false, [], []⟩
noncomputable def i140 : TInfo := ⟨1, 8, .nilFunc, .nilfn, .func #[3] #[3] false, [], []⟩
noncomputable def i141 : TInfo := ⟨1, 8, .nilFunc, .nilfn, .func #[] #[42] false, [], []⟩
noncomputable def i143 : TInfo := ⟨1, 8, .nilFunc, .nilfn, .func #[81] #[3, 81] false, [], []⟩
noncomputable def i145 : TInfo := ⟨1, 8, .nilFunc, .nilfn, .func #[81, 3] #[68, 81] false, [], []⟩
noncomputable def i146 : TInfo := ⟨1, 8, .agg #[.int .i64 0], .agg [.int .i64 0], .struct #[{ name := "first", type := 42, offset := 0, embedded := false, tag := "", pkgPath := "bandplan/wire", byteOffset := 0 }], [0], [(0, 1)]⟩
noncomputable def i147 : TInfo := ⟨1, 8, .agg #[.int .i64 0], .agg [.int .i64 0], .struct #[{ name := "first", type := 42, offset := 0, embedded := false, tag := "", pkgPath := "bandplan/wire", byteOffset := 0 }], [0], [(0, 1)]⟩
noncomputable def i148 : TInfo := ⟨2, 32, .agg #[.int .i64 0, .slice none 0 0], .agg [.int .i64 0, .nils], .struct #[{ name := "status", type := 147, offset := 0, embedded := true, tag := "", pkgPath := "bandplan/wire", byteOffset := 0 }, { name := "out", type := 81, offset := 1, embedded := false, tag := "", pkgPath := "bandplan/wire", byteOffset := 8 }], [0, 1], [(0, 1), (1, 1)]⟩
noncomputable def i149 : TInfo := ⟨2, 32, .agg #[.int .i64 0, .slice none 0 0], .agg [.int .i64 0, .nils], .struct #[{ name := "status", type := 147, offset := 0, embedded := true, tag := "", pkgPath := "bandplan/wire", byteOffset := 0 }, { name := "out", type := 81, offset := 1, embedded := false, tag := "", pkgPath := "bandplan/wire", byteOffset := 8 }], [0, 1], [(0, 1), (1, 1)]⟩
noncomputable def i150 : TInfo := ⟨1, 8, .nilFunc, .nilfn, .func #[3] #[] false, [], []⟩
noncomputable def i151 : TInfo := ⟨1, 8, .nilFunc, .nilfn, .func #[] #[81, 42] false, [], []⟩
noncomputable def i152 : TInfo := ⟨1, 8, .nilFunc, .nilfn, .func #[3] #[81] false, [], []⟩
noncomputable def i153 : TInfo := ⟨1, 8, .nilFunc, .nilfn, .func #[22, 157, 158] #[4] false, [], []⟩
noncomputable def i154 : TInfo := ⟨1, 8, .nilFunc, .nilfn, .func #[68, 102, 156] #[4] false, [], []⟩
noncomputable def i155 : TInfo := ⟨1, 8, .nilFunc, .nilfn, .func #[3, 3] #[4] false, [], []⟩
noncomputable def i156 : TInfo := ⟨1, 8, .nilFunc, .nilfn, .func #[3, 3] #[3] false, [], []⟩
noncomputable def i157 : TInfo := ⟨1, 8, .nilFunc, .nilfn, .func #[93] #[4] false, [], []⟩
noncomputable def i158 : TInfo := ⟨1, 8, .nilFunc, .nilfn, .func #[93, 93] #[3] false, [], []⟩
noncomputable def i159 : TInfo := ⟨512, 4096, .agg (Array.replicate 512 (.int .i64 0)), .agg (List.replicate 512 (.int .i64 0)), .array 512 3, [], []⟩
noncomputable def i160 : TInfo := ⟨1, 8, .nilFunc, .nilfn, .func #[29] #[159] false, [], []⟩
noncomputable def i161 : TInfo := ⟨1, 8, .nilFunc, .nilfn, .func #[22, 157] #[3] false, [], []⟩
noncomputable def i162 : TInfo := ⟨1, 8, .nilFunc, .nilfn, .func #[30, 66] #[3] false, [], []⟩
noncomputable def i163 : TInfo := ⟨1, 8, .nilFunc, .nilfn, .func #[104] #[68] false, [], []⟩
noncomputable def i164 : TInfo := ⟨1, 8, .nilFunc, .nilfn, .func #[106] #[68] false, [], []⟩
noncomputable def i165 : TInfo := ⟨1, 8, .nilFunc, .nilfn, .func #[108] #[68] false, [], []⟩
noncomputable def i166 : TInfo := ⟨1, 8, .nilFunc, .nilfn, .func #[] #[58] false, [], []⟩
noncomputable def i167 : TInfo := ⟨1, 8, .nilFunc, .nilfn, .func #[66] #[42] false, [], []⟩
noncomputable def i168 : TInfo := ⟨1, 8, .map none, .nilmap, .map 3 3, [], []⟩
noncomputable def i169 : TInfo := ⟨1, 8, .nilFunc, .nilfn, .func #[] #[30] false, [], []⟩
noncomputable def i171 : TInfo := ⟨1, 8, .nilFunc, .nilfn, .func #[168, 58, 30] #[66, 3] false, [], []⟩
noncomputable def i172 : TInfo := ⟨1, 8, .nilFunc, .nilfn, .func #[22, 3, 3] #[22] false, [], []⟩
noncomputable def i173 : TInfo := ⟨1, 8, .nilFunc, .nilfn, .func #[29, 36, 22] #[22, 4] false, [], []⟩
noncomputable def i174 : TInfo := ⟨1, 8, .pointer none, .nilp, .pointer 185, [], []⟩
noncomputable def i175 : TInfo := ⟨1, 8, .nilFunc, .nilfn, .func #[29] #[174] false, [], []⟩
noncomputable def i176 : TInfo := ⟨1, 24, .slice none 0 0, .nils, .slice 131, [], []⟩
noncomputable def i177 : TInfo := ⟨3, 40, .agg #[.pointer none, .slice none 0 0, .bool false], .agg [.nilp, .nils, .bool false], .struct #[{ name := "tables", type := 174, offset := 0, embedded := true, tag := "", pkgPath := "bandplan/propagate", byteOffset := 0 }, { name := "left", type := 176, offset := 1, embedded := false, tag := "", pkgPath := "bandplan/propagate", byteOffset := 8 }, { name := "bad", type := 4, offset := 2, embedded := false, tag := "", pkgPath := "bandplan/propagate", byteOffset := 32 }], [0, 1, 2], [(0, 1), (1, 1), (2, 1)]⟩
noncomputable def i178 : TInfo := ⟨3, 40, .agg #[.pointer none, .slice none 0 0, .bool false], .agg [.nilp, .nils, .bool false], .struct #[{ name := "tables", type := 174, offset := 0, embedded := true, tag := "", pkgPath := "bandplan/propagate", byteOffset := 0 }, { name := "left", type := 176, offset := 1, embedded := false, tag := "", pkgPath := "bandplan/propagate", byteOffset := 8 }, { name := "bad", type := 4, offset := 2, embedded := false, tag := "", pkgPath := "bandplan/propagate", byteOffset := 32 }], [0, 1, 2], [(0, 1), (1, 1), (2, 1)]⟩
noncomputable def i179 : TInfo := ⟨1, 8, .nilFunc, .nilfn, .func #[176] #[176] false, [], []⟩
noncomputable def i180 : TInfo := ⟨1, 24, .slice none 0 0, .nils, .slice 23, [], []⟩
noncomputable def i181 : TInfo := ⟨1, 24, .slice none 0 0, .nils, .slice 24, [], []⟩
noncomputable def i182 : TInfo := ⟨1, 24, .slice none 0 0, .nils, .slice 25, [], []⟩
noncomputable def i183 : TInfo := ⟨1, 24, .slice none 0 0, .nils, .slice 134, [], []⟩
noncomputable def i184 : TInfo := ⟨8, 176, .agg #[.slice none 0 0, .slice none 0 0, .map none, .slice none 0 0, .slice none 0 0, .slice none 0 0, .slice none 0 0, .slice none 0 0], .agg [.nils, .nils, .nilmap, .nils, .nils, .nils, .nils, .nils], .struct #[{ name := "stations", type := 68, offset := 0, embedded := false, tag := "", pkgPath := "bandplan/propagate", byteOffset := 0 }, { name := "full", type := 176, offset := 1, embedded := false, tag := "", pkgPath := "bandplan/propagate", byteOffset := 24 }, { name := "at", type := 168, offset := 2, embedded := false, tag := "", pkgPath := "bandplan/propagate", byteOffset := 48 }, { name := "pairs", type := 180, offset := 3, embedded := false, tag := "", pkgPath := "bandplan/propagate", byteOffset := 56 }, { name := "to", type := 181, offset := 4, embedded := false, tag := "", pkgPath := "bandplan/propagate", byteOffset := 80 }, { name := "from", type := 181, offset := 5, embedded := false, tag := "", pkgPath := "bandplan/propagate", byteOffset := 104 }, { name := "caps", type := 182, offset := 6, embedded := false, tag := "", pkgPath := "bandplan/propagate", byteOffset := 128 }, { name := "near", type := 183, offset := 7, embedded := false, tag := "", pkgPath := "bandplan/propagate", byteOffset := 152 }], [0, 1, 2, 3, 4, 5, 6, 7], [(0, 1), (1, 1), (2, 1), (3, 1), (4, 1), (5, 1), (6, 1), (7, 1)]⟩
noncomputable def i185 : TInfo := ⟨8, 176, .agg #[.slice none 0 0, .slice none 0 0, .map none, .slice none 0 0, .slice none 0 0, .slice none 0 0, .slice none 0 0, .slice none 0 0], .agg [.nils, .nils, .nilmap, .nils, .nils, .nils, .nils, .nils], .struct #[{ name := "stations", type := 68, offset := 0, embedded := false, tag := "", pkgPath := "bandplan/propagate", byteOffset := 0 }, { name := "full", type := 176, offset := 1, embedded := false, tag := "", pkgPath := "bandplan/propagate", byteOffset := 24 }, { name := "at", type := 168, offset := 2, embedded := false, tag := "", pkgPath := "bandplan/propagate", byteOffset := 48 }, { name := "pairs", type := 180, offset := 3, embedded := false, tag := "", pkgPath := "bandplan/propagate", byteOffset := 56 }, { name := "to", type := 181, offset := 4, embedded := false, tag := "", pkgPath := "bandplan/propagate", byteOffset := 80 }, { name := "from", type := 181, offset := 5, embedded := false, tag := "", pkgPath := "bandplan/propagate", byteOffset := 104 }, { name := "caps", type := 182, offset := 6, embedded := false, tag := "", pkgPath := "bandplan/propagate", byteOffset := 128 }, { name := "near", type := 183, offset := 7, embedded := false, tag := "", pkgPath := "bandplan/propagate", byteOffset := 152 }], [0, 1, 2, 3, 4, 5, 6, 7], [(0, 1), (1, 1), (2, 1), (3, 1), (4, 1), (5, 1), (6, 1), (7, 1)]⟩
noncomputable def i186 : TInfo := ⟨1, 8, .nilFunc, .nilfn, .func #[3] #[134, 42] false, [], []⟩
noncomputable def i187 : TInfo := ⟨1, 8, .nilFunc, .nilfn, .func #[68] #[] false, [], []⟩
noncomputable def i188 : TInfo := ⟨1, 8, .nilFunc, .nilfn, .func #[] #[68] false, [], []⟩
noncomputable def i190 : TInfo := ⟨1, 8, .nilFunc, .nilfn, .func #[29, 3] #[3, 4] false, [], []⟩
noncomputable def i191 : TInfo := ⟨1, 8, .nilFunc, .nilfn, .func #[68] #[68] false, [], []⟩
noncomputable def i192 : TInfo := ⟨1, 8, .nilFunc, .nilfn, .func #[30, 193, 194] #[4] false, [], []⟩
noncomputable def i193 : TInfo := ⟨1, 8, .nilFunc, .nilfn, .func #[66] #[4] false, [], []⟩
noncomputable def i194 : TInfo := ⟨1, 8, .nilFunc, .nilfn, .func #[66, 66] #[3] false, [], []⟩
noncomputable def i195 : TInfo := ⟨1, 8, .nilFunc, .nilfn, .func #[131] #[68] false, [], []⟩
noncomputable def i196 : TInfo := ⟨1, 8, .nilFunc, .nilfn, .func #[36, 3, 3] #[36] false, [], []⟩
noncomputable def i197 : TInfo := ⟨1, 8, .nilFunc, .nilfn, .func #[81] #[81] false, [], []⟩
noncomputable def i198 : TInfo := ⟨4, 48, .agg #[.int .i64 0, .slice none 0 0, .int .i64 0, .bool false], .agg [.int .i64 0, .nils, .int .i64 0, .bool false], .struct #[{ name := "status", type := 147, offset := 0, embedded := true, tag := "", pkgPath := "bandplan/wire", byteOffset := 0 }, { name := "in", type := 81, offset := 1, embedded := false, tag := "", pkgPath := "bandplan/wire", byteOffset := 8 }, { name := "at", type := 3, offset := 2, embedded := false, tag := "", pkgPath := "bandplan/wire", byteOffset := 32 }, { name := "open", type := 4, offset := 3, embedded := false, tag := "", pkgPath := "bandplan/wire", byteOffset := 40 }], [0, 1, 2, 3], [(0, 1), (1, 1), (2, 1), (3, 1)]⟩
noncomputable def i199 : TInfo := ⟨4, 48, .agg #[.int .i64 0, .slice none 0 0, .int .i64 0, .bool false], .agg [.int .i64 0, .nils, .int .i64 0, .bool false], .struct #[{ name := "status", type := 147, offset := 0, embedded := true, tag := "", pkgPath := "bandplan/wire", byteOffset := 0 }, { name := "in", type := 81, offset := 1, embedded := false, tag := "", pkgPath := "bandplan/wire", byteOffset := 8 }, { name := "at", type := 3, offset := 2, embedded := false, tag := "", pkgPath := "bandplan/wire", byteOffset := 32 }, { name := "open", type := 4, offset := 3, embedded := false, tag := "", pkgPath := "bandplan/wire", byteOffset := 40 }], [0, 1, 2, 3], [(0, 1), (1, 1), (2, 1), (3, 1)]⟩
noncomputable def i200 : TInfo := ⟨1, 8, .nilFunc, .nilfn, .func #[138, 53] #[3] false, [], []⟩
noncomputable def i201 : TInfo := ⟨1, 8, .nilFunc, .nilfn, .func #[3] #[131] false, [], []⟩
noncomputable def i202 : TInfo := ⟨1, 8, .pointer none, .nilp, .pointer 149, [], []⟩
noncomputable def i203 : TInfo := ⟨1, 8, .nilFunc, .nilfn, .func #[42] #[] false, [], []⟩
noncomputable def i204 : TInfo := ⟨1, 8, .nilFunc, .nilfn, .func #[81] #[] false, [], []⟩
noncomputable def i205 : TInfo := ⟨1, 8, .nilFunc, .nilfn, .func #[81, 131] #[81] false, [], []⟩
noncomputable def i206 : TInfo := ⟨1, 8, .nilFunc, .nilfn, .func #[23, 207, 208] #[4] false, [], []⟩
noncomputable def i207 : TInfo := ⟨1, 8, .nilFunc, .nilfn, .func #[104] #[4] false, [], []⟩
noncomputable def i208 : TInfo := ⟨1, 8, .nilFunc, .nilfn, .func #[104, 104] #[3] false, [], []⟩
noncomputable def i209 : TInfo := ⟨1, 8, .nilFunc, .nilfn, .func #[24, 210, 211] #[4] false, [], []⟩
noncomputable def i210 : TInfo := ⟨1, 8, .nilFunc, .nilfn, .func #[106] #[4] false, [], []⟩
noncomputable def i211 : TInfo := ⟨1, 8, .nilFunc, .nilfn, .func #[106, 106] #[3] false, [], []⟩
noncomputable def i212 : TInfo := ⟨1, 8, .nilFunc, .nilfn, .func #[25, 213, 214] #[4] false, [], []⟩
noncomputable def i213 : TInfo := ⟨1, 8, .nilFunc, .nilfn, .func #[108] #[4] false, [], []⟩
noncomputable def i214 : TInfo := ⟨1, 8, .nilFunc, .nilfn, .func #[108, 108] #[3] false, [], []⟩
noncomputable def i215 : TInfo := ⟨1, 8, .nilFunc, .nilfn, .func #[68, 3] #[3] false, [], []⟩
noncomputable def i216 : TInfo := ⟨1, 8, .nilFunc, .nilfn, .func #[66, 217] #[42] false, [], []⟩
noncomputable def i217 : TInfo := ⟨1, 8, .nilFunc, .nilfn, .func #[131, 131] #[131] false, [], []⟩
noncomputable def i218 : TInfo := ⟨1, 8, .nilFunc, .nilfn, .func #[131] #[3, 4] false, [], []⟩
noncomputable def i219 : TInfo := ⟨1, 8, .nilFunc, .nilfn, .func #[29, 36, 22, 3, 3] #[4] false, [], []⟩
noncomputable def i220 : TInfo := ⟨1, 8, .nilFunc, .nilfn, .func #[3, 3] #[] false, [], []⟩
noncomputable def i221 : TInfo := ⟨1, 8, .nilFunc, .nilfn, .func #[58, 3] #[] false, [], []⟩
noncomputable def i222 : TInfo := ⟨3, 24, .agg #[.nilFunc, .nilFunc, .nilFunc], .agg [.nilfn, .nilfn, .nilfn], .array 3 221, [], []⟩
noncomputable def i223 : TInfo := ⟨1, 8, .nilFunc, .nilfn, .func #[102] #[] false, [], []⟩
noncomputable def i224 : TInfo := ⟨1, 8, .nilFunc, .nilfn, .func #[102] #[] false, [], []⟩
noncomputable def i225 : TInfo := ⟨1, 8, .nilFunc, .nilfn, .func #[] #[224] false, [], []⟩
noncomputable def i226 : TInfo := ⟨1, 8, .nilFunc, .nilfn, .func #[134] #[134] false, [], []⟩
noncomputable def i227 : TInfo := ⟨1, 8, .nilFunc, .nilfn, .func #[224] #[68] false, [], []⟩
noncomputable def i228 : TInfo := ⟨1, 8, .nilFunc, .nilfn, .func #[22, 3, 229] #[3, 4] false, [], []⟩
noncomputable def i229 : TInfo := ⟨1, 8, .nilFunc, .nilfn, .func #[93, 3] #[3] false, [], []⟩
noncomputable def i230 : TInfo := ⟨1, 8, .nilFunc, .nilfn, .func #[131] #[3] false, [], []⟩
noncomputable def i231 : TInfo := ⟨1, 8, .nilFunc, .nilfn, .func #[] #[5] false, [], []⟩
noncomputable def i232 : TInfo := ⟨1, 8, .pointer none, .nilp, .pointer 147, [], []⟩
noncomputable def i233 : TInfo := ⟨1, 8, .int .u64 0, .int .u64 0, .int .u64, [], []⟩
noncomputable def i234 : TInfo := ⟨1, 8, .nilFunc, .nilfn, .func #[68] #[3] true, [], []⟩
noncomputable def i235 : TInfo := ⟨1, 8, .nilFunc, .nilfn, .func #[3] #[3, 4] false, [], []⟩
noncomputable def i236 : TInfo := ⟨1, 8, .nilFunc, .nilfn, .func #[22, 30, 3, 3] #[4] false, [], []⟩
noncomputable def i237 : TInfo := ⟨1, 8, .nilFunc, .nilfn, .func #[29, 22, 3, 3] #[4] false, [], []⟩
noncomputable def i238 : TInfo := ⟨1, 8, .nilFunc, .nilfn, .func #[3, 3, 3] #[4] false, [], []⟩
noncomputable def i239 : TInfo := ⟨1, 8, .nilFunc, .nilfn, .func #[3, 3, 3] #[3] false, [], []⟩
noncomputable def i240 : TInfo := ⟨1, 8, .nilFunc, .nilfn, .func #[68, 224] #[68] false, [], []⟩
noncomputable def i241 : TInfo := ⟨64, 64, .agg #[.int .u8 0, .int .u8 0, .int .u8 0, .int .u8 0, .int .u8 0, .int .u8 0, .int .u8 0, .int .u8 0, .int .u8 0, .int .u8 0, .int .u8 0, .int .u8 0, .int .u8 0, .int .u8 0, .int .u8 0, .int .u8 0, .int .u8 0, .int .u8 0, .int .u8 0, .int .u8 0, .int .u8 0, .int .u8 0, .int .u8 0, .int .u8 0, .int .u8 0, .int .u8 0, .int .u8 0, .int .u8 0, .int .u8 0, .int .u8 0, .int .u8 0, .int .u8 0, .int .u8 0, .int .u8 0, .int .u8 0, .int .u8 0, .int .u8 0, .int .u8 0, .int .u8 0, .int .u8 0, .int .u8 0, .int .u8 0, .int .u8 0, .int .u8 0, .int .u8 0, .int .u8 0, .int .u8 0, .int .u8 0, .int .u8 0, .int .u8 0, .int .u8 0, .int .u8 0, .int .u8 0, .int .u8 0, .int .u8 0, .int .u8 0, .int .u8 0, .int .u8 0, .int .u8 0, .int .u8 0, .int .u8 0, .int .u8 0, .int .u8 0, .int .u8 0], .agg [.int .u8 0, .int .u8 0, .int .u8 0, .int .u8 0, .int .u8 0, .int .u8 0, .int .u8 0, .int .u8 0, .int .u8 0, .int .u8 0, .int .u8 0, .int .u8 0, .int .u8 0, .int .u8 0, .int .u8 0, .int .u8 0, .int .u8 0, .int .u8 0, .int .u8 0, .int .u8 0, .int .u8 0, .int .u8 0, .int .u8 0, .int .u8 0, .int .u8 0, .int .u8 0, .int .u8 0, .int .u8 0, .int .u8 0, .int .u8 0, .int .u8 0, .int .u8 0, .int .u8 0, .int .u8 0, .int .u8 0, .int .u8 0, .int .u8 0, .int .u8 0, .int .u8 0, .int .u8 0, .int .u8 0, .int .u8 0, .int .u8 0, .int .u8 0, .int .u8 0, .int .u8 0, .int .u8 0, .int .u8 0, .int .u8 0, .int .u8 0, .int .u8 0, .int .u8 0, .int .u8 0, .int .u8 0, .int .u8 0, .int .u8 0, .int .u8 0, .int .u8 0, .int .u8 0, .int .u8 0, .int .u8 0, .int .u8 0, .int .u8 0, .int .u8 0], .array 64 5, [], []⟩
noncomputable def i242 : TInfo := ⟨1, 8, .nilFunc, .nilfn, .func #[22, 3, 3] #[4] false, [], []⟩
noncomputable def i243 : TInfo := ⟨1, 8, .nilFunc, .nilfn, .func #[29, 3, 3, 3] #[4] false, [], []⟩
noncomputable def i244 : TInfo := ⟨1, 8, .nilFunc, .nilfn, .func #[29, 22, 3, 3, 3] #[3] false, [], []⟩
noncomputable def i245 : TInfo := ⟨1, 8, .nilFunc, .nilfn, .func #[25, 213] #[4] false, [], []⟩
noncomputable def i246 : TInfo := ⟨1, 8, .nilFunc, .nilfn, .func #[25, 213] #[3] false, [], []⟩
noncomputable def i247 : TInfo := ⟨1, 8, .nilFunc, .nilfn, .func #[] #[9] false, [], []⟩
noncomputable def i248 : TInfo := ⟨4, 40, .agg #[.pointer none, .pointer none, .pointer none, .string ⟨#[]⟩], .agg [.nilp, .nilp, .nilp, .str ⟨#[]⟩], .struct #[{ name := "_interface", type := 17, offset := 0, embedded := false, tag := "", pkgPath := "runtime", byteOffset := 0 }, { name := "concrete", type := 17, offset := 1, embedded := false, tag := "", pkgPath := "runtime", byteOffset := 8 }, { name := "asserted", type := 17, offset := 2, embedded := false, tag := "", pkgPath := "runtime", byteOffset := 16 }, { name := "missingMethod", type := 9, offset := 3, embedded := false, tag := "", pkgPath := "runtime", byteOffset := 24 }], [0, 1, 2, 3], [(0, 1), (1, 1), (2, 1), (3, 1)]⟩
noncomputable def i249 : TInfo := ⟨4, 40, .agg #[.pointer none, .pointer none, .pointer none, .string ⟨#[]⟩], .agg [.nilp, .nilp, .nilp, .str ⟨#[]⟩], .struct #[{ name := "_interface", type := 17, offset := 0, embedded := false, tag := "", pkgPath := "runtime", byteOffset := 0 }, { name := "concrete", type := 17, offset := 1, embedded := false, tag := "", pkgPath := "runtime", byteOffset := 8 }, { name := "asserted", type := 17, offset := 2, embedded := false, tag := "", pkgPath := "runtime", byteOffset := 16 }, { name := "missingMethod", type := 9, offset := 3, embedded := false, tag := "", pkgPath := "runtime", byteOffset := 24 }], [0, 1, 2, 3], [(0, 1), (1, 1), (2, 1), (3, 1)]⟩
noncomputable def i250 : TInfo := ⟨0, 0, .agg #[], .agg [], .array 0 16, [], []⟩
noncomputable def i251 : TInfo := ⟨0, 0, .agg #[], .agg [], .struct #[{ name := "_", type := 250, offset := 0, embedded := false, tag := "", pkgPath := "runtime", byteOffset := 0 }], [], [(0, 0)]⟩
noncomputable def i252 : TInfo := ⟨0, 0, .agg #[], .agg [], .struct #[{ name := "_", type := 250, offset := 0, embedded := false, tag := "", pkgPath := "runtime", byteOffset := 0 }], [], [(0, 0)]⟩
noncomputable def i253 : TInfo := ⟨1, 4, .int .u32 0, .int .u32 0, .int .u32, [], []⟩
noncomputable def i254 : TInfo := ⟨1, 1, .int .u8 0, .int .u8 0, .int .u8, [], []⟩
noncomputable def i255 : TInfo := ⟨1, 1, .int .u8 0, .int .u8 0, .int .u8, [], []⟩
noncomputable def i256 : TInfo := ⟨1, 8, .nilFunc, .nilfn, .func #[265, 265] #[4] false, [], []⟩
noncomputable def i257 : TInfo := ⟨1, 8, .pointer none, .nilp, .pointer 5, [], []⟩
noncomputable def i258 : TInfo := ⟨1, 4, .int .i32 0, .int .i32 0, .int .i32, [], []⟩
noncomputable def i259 : TInfo := ⟨1, 4, .int .i32 0, .int .i32 0, .int .i32, [], []⟩
noncomputable def i260 : TInfo := ⟨11, 48, .agg #[.int .u64 0, .int .u64 0, .int .u32 0, .int .u8 0, .int .u8 0, .int .u8 0, .int .u8 0, .nilFunc, .pointer none, .int .i32 0, .int .i32 0], .agg [.int .u64 0, .int .u64 0, .int .u32 0, .int .u8 0, .int .u8 0, .int .u8 0, .int .u8 0, .nilfn, .nilp, .int .i32 0, .int .i32 0], .struct #[{ name := "Size_", type := 12, offset := 0, embedded := false, tag := "", pkgPath := "", byteOffset := 0 }, { name := "PtrBytes", type := 12, offset := 1, embedded := false, tag := "", pkgPath := "", byteOffset := 8 }, { name := "Hash", type := 253, offset := 2, embedded := false, tag := "", pkgPath := "", byteOffset := 16 }, { name := "TFlag", type := 254, offset := 3, embedded := false, tag := "", pkgPath := "", byteOffset := 20 }, { name := "Align_", type := 5, offset := 4, embedded := false, tag := "", pkgPath := "", byteOffset := 21 }, { name := "FieldAlign_", type := 5, offset := 5, embedded := false, tag := "", pkgPath := "", byteOffset := 22 }, { name := "Kind_", type := 255, offset := 6, embedded := false, tag := "", pkgPath := "", byteOffset := 23 }, { name := "Equal", type := 256, offset := 7, embedded := false, tag := "", pkgPath := "", byteOffset := 24 }, { name := "GCData", type := 257, offset := 8, embedded := false, tag := "", pkgPath := "", byteOffset := 32 }, { name := "Str", type := 258, offset := 9, embedded := false, tag := "", pkgPath := "", byteOffset := 40 }, { name := "PtrToThis", type := 259, offset := 10, embedded := false, tag := "", pkgPath := "", byteOffset := 44 }], [0, 1, 2, 3, 4, 5, 6, 7, 8, 9, 10], [(0, 1), (1, 1), (2, 1), (3, 1), (4, 1), (5, 1), (6, 1), (7, 1), (8, 1), (9, 1), (10, 1)]⟩
noncomputable def i261 : TInfo := ⟨11, 48, .agg #[.int .u64 0, .int .u64 0, .int .u32 0, .int .u8 0, .int .u8 0, .int .u8 0, .int .u8 0, .nilFunc, .pointer none, .int .i32 0, .int .i32 0], .agg [.int .u64 0, .int .u64 0, .int .u32 0, .int .u8 0, .int .u8 0, .int .u8 0, .int .u8 0, .nilfn, .nilp, .int .i32 0, .int .i32 0], .struct #[{ name := "Size_", type := 12, offset := 0, embedded := false, tag := "", pkgPath := "", byteOffset := 0 }, { name := "PtrBytes", type := 12, offset := 1, embedded := false, tag := "", pkgPath := "", byteOffset := 8 }, { name := "Hash", type := 253, offset := 2, embedded := false, tag := "", pkgPath := "", byteOffset := 16 }, { name := "TFlag", type := 254, offset := 3, embedded := false, tag := "", pkgPath := "", byteOffset := 20 }, { name := "Align_", type := 5, offset := 4, embedded := false, tag := "", pkgPath := "", byteOffset := 21 }, { name := "FieldAlign_", type := 5, offset := 5, embedded := false, tag := "", pkgPath := "", byteOffset := 22 }, { name := "Kind_", type := 255, offset := 6, embedded := false, tag := "", pkgPath := "", byteOffset := 23 }, { name := "Equal", type := 256, offset := 7, embedded := false, tag := "", pkgPath := "", byteOffset := 24 }, { name := "GCData", type := 257, offset := 8, embedded := false, tag := "", pkgPath := "", byteOffset := 32 }, { name := "Str", type := 258, offset := 9, embedded := false, tag := "", pkgPath := "", byteOffset := 40 }, { name := "PtrToThis", type := 259, offset := 10, embedded := false, tag := "", pkgPath := "", byteOffset := 44 }], [0, 1, 2, 3, 4, 5, 6, 7, 8, 9, 10], [(0, 1), (1, 1), (2, 1), (3, 1), (4, 1), (5, 1), (6, 1), (7, 1), (8, 1), (9, 1), (10, 1)]⟩
noncomputable def i262 : TInfo := ⟨1, 8, .nilFunc, .nilfn, .func #[3] #[9] false, [], []⟩
noncomputable def i263 : TInfo := ⟨1, 8, .nilFunc, .nilfn, .func #[4] #[] false, [], []⟩
noncomputable def i264 : TInfo := ⟨1, 8, .nilFunc, .nilfn, .func #[9] #[] false, [], []⟩
theorem o1 : TOk Tryz.prog 1 i1 where
  inf := ti1
  zav := ⟨by kernel_rfl, by kernel_rfl, by kernel_rfl, by kernel_rfl⟩
  offs := fun j off h => by simp [i1] at h
  pl := fun h => absurd rfl h
theorem o2 : TOk Tryz.prog 2 i2 where
  inf := ti2
  zav := ⟨by kernel_rfl, by kernel_rfl, by kernel_rfl, by kernel_rfl⟩
  offs := fun j off h => by simp [i2] at h
  pl := fun h => absurd rfl h
theorem o3 : TOk Tryz.prog 3 i3 where
  inf := ti3
  zav := ⟨by kernel_rfl, by kernel_rfl, by kernel_rfl, by kernel_rfl⟩
  offs := fun j off h => by simp [i3] at h
  pl := fun h => absurd rfl h
theorem o4 : TOk Tryz.prog 4 i4 where
  inf := ti4
  zav := ⟨by kernel_rfl, by kernel_rfl, by kernel_rfl, by kernel_rfl⟩
  offs := fun j off h => by simp [i4] at h
  pl := fun h => absurd rfl h
theorem o5 : TOk Tryz.prog 5 i5 where
  inf := ti5
  zav := ⟨by kernel_rfl, by kernel_rfl, by kernel_rfl, by kernel_rfl⟩
  offs := fun j off h => by simp [i5] at h
  pl := fun h => absurd rfl h
theorem o6 : TOk Tryz.prog 6 i6 where
  inf := ti6
  zav := ⟨by kernel_rfl, by kernel_rfl, by kernel_rfl, by kernel_rfl⟩
  offs := fun j off h => by simp [i6] at h
  pl := fun h => absurd rfl h
theorem o7 : TOk Tryz.prog 7 i7 where
  inf := ti7
  zav := ⟨by kernel_rfl, by kernel_rfl, by kernel_rfl, by kernel_rfl⟩
  offs := fun j off h => match j, h with
    | 0, h => by cases h; exact ⟨_, _, _, _, _, _, rfl, rfl, rfl, ti2, rfl⟩
    | 1, h => by cases h; exact ⟨_, _, _, _, _, _, rfl, rfl, rfl, ti3, rfl⟩
    | 2, h => by cases h; exact ⟨_, _, _, _, _, _, rfl, rfl, rfl, ti4, rfl⟩
    | 3, h => by cases h; exact ⟨_, _, _, _, _, _, rfl, rfl, rfl, ti6, rfl⟩
    | _ + 4, h => by simp [i7] at h
  pl := fun _ => ⟨_, rfl, fun w => by kernel_rfl⟩
theorem o8 : TOk Tryz.prog 8 i8 where
  inf := ti8
  zav := ⟨by kernel_rfl, by kernel_rfl, by kernel_rfl, by kernel_rfl⟩
  offs := fun j off h => match j, h with
    | 0, h => by cases h; exact ⟨_, _, _, _, _, _, rfl, rfl, rfl, ti2, rfl⟩
    | 1, h => by cases h; exact ⟨_, _, _, _, _, _, rfl, rfl, rfl, ti3, rfl⟩
    | 2, h => by cases h; exact ⟨_, _, _, _, _, _, rfl, rfl, rfl, ti4, rfl⟩
    | 3, h => by cases h; exact ⟨_, _, _, _, _, _, rfl, rfl, rfl, ti6, rfl⟩
    | _ + 4, h => by simp [i8] at h
  pl := fun _ => ⟨_, rfl, fun w => by kernel_rfl⟩
theorem o9 : TOk Tryz.prog 9 i9 where
  inf := ti9
  zav := ⟨by kernel_rfl, by kernel_rfl, by kernel_rfl, by kernel_rfl⟩
  offs := fun j off h => by simp [i9] at h
  pl := fun h => absurd rfl h
theorem o10 : TOk Tryz.prog 10 i10 where
  inf := ti10
  zav := ⟨by kernel_rfl, by kernel_rfl, by kernel_rfl, by kernel_rfl⟩
  offs := fun j off h => by simp [i10] at h
  pl := fun h => absurd rfl h
theorem o11 : TOk Tryz.prog 11 i11 where
  inf := ti11
  zav := ⟨by kernel_rfl, by kernel_rfl, by kernel_rfl, by kernel_rfl⟩
  offs := fun j off h => by simp [i11] at h
  pl := fun h => absurd rfl h
theorem o12 : TOk Tryz.prog 12 i12 where
  inf := ti12
  zav := ⟨by kernel_rfl, by kernel_rfl, by kernel_rfl, by kernel_rfl⟩
  offs := fun j off h => by simp [i12] at h
  pl := fun h => absurd rfl h
theorem o13 : TOk Tryz.prog 13 i13 where
  inf := ti13
  zav := ⟨by kernel_rfl, by kernel_rfl, by kernel_rfl, by kernel_rfl⟩
  offs := fun j off h => match j, h with
    | 0, h => by cases h; exact ⟨_, _, _, _, _, _, rfl, rfl, rfl, ti9, rfl⟩
    | 1, h => by cases h; exact ⟨_, _, _, _, _, _, rfl, rfl, rfl, ti12, rfl⟩
    | _ + 2, h => by simp [i13] at h
  pl := fun _ => ⟨_, rfl, fun w => by kernel_rfl⟩
theorem o14 : TOk Tryz.prog 14 i14 where
  inf := ti14
  zav := ⟨by kernel_rfl, by kernel_rfl, by kernel_rfl, by kernel_rfl⟩
  offs := fun j off h => match j, h with
    | 0, h => by cases h; exact ⟨_, _, _, _, _, _, rfl, rfl, rfl, ti9, rfl⟩
    | 1, h => by cases h; exact ⟨_, _, _, _, _, _, rfl, rfl, rfl, ti12, rfl⟩
    | _ + 2, h => by simp [i14] at h
  pl := fun _ => ⟨_, rfl, fun w => by kernel_rfl⟩
theorem o15 : TOk Tryz.prog 15 i15 where
  inf := ti15
  zav := ⟨by kernel_rfl, by kernel_rfl, by kernel_rfl, by kernel_rfl⟩
  offs := fun j off h => by simp [i15] at h
  pl := fun h => absurd rfl h
theorem o16 : TOk Tryz.prog 16 i16 where
  inf := ti16
  zav := ⟨by kernel_rfl, by kernel_rfl, by kernel_rfl, by kernel_rfl⟩
  offs := fun j off h => by simp [i16] at h
  pl := fun h => absurd rfl h
theorem o17 : TOk Tryz.prog 17 i17 where
  inf := ti17
  zav := ⟨by kernel_rfl, by kernel_rfl, by kernel_rfl, by kernel_rfl⟩
  offs := fun j off h => by simp [i17] at h
  pl := fun h => absurd rfl h
theorem o18 : TOk Tryz.prog 18 i18 where
  inf := ti18
  zav := ⟨by kernel_rfl, by kernel_rfl, by kernel_rfl, by kernel_rfl⟩
  offs := fun j off h => match j, h with
    | 0, h => by cases h; exact ⟨_, _, _, _, _, _, rfl, rfl, rfl, ti17, rfl⟩
    | _ + 1, h => by simp [i18] at h
  pl := fun _ => ⟨_, rfl, fun w => by kernel_rfl⟩
theorem o19 : TOk Tryz.prog 19 i19 where
  inf := ti19
  zav := ⟨by kernel_rfl, by kernel_rfl, by kernel_rfl, by kernel_rfl⟩
  offs := fun j off h => match j, h with
    | 0, h => by cases h; exact ⟨_, _, _, _, _, _, rfl, rfl, rfl, ti17, rfl⟩
    | _ + 1, h => by simp [i19] at h
  pl := fun _ => ⟨_, rfl, fun w => by kernel_rfl⟩
theorem o21 : TOk Tryz.prog 21 i21 where
  inf := ti21
  zav := ⟨by kernel_rfl, by kernel_rfl, by kernel_rfl, by kernel_rfl⟩
  offs := fun j off h => by simp [i21] at h
  pl := fun h => absurd rfl h
theorem o22 : TOk Tryz.prog 22 i22 where
  inf := ti22
  zav := ⟨by kernel_rfl, by kernel_rfl, by kernel_rfl, by kernel_rfl⟩
  offs := fun j off h => by simp [i22] at h
  pl := fun h => absurd rfl h
theorem o23 : TOk Tryz.prog 23 i23 where
  inf := ti23
  zav := ⟨by kernel_rfl, by kernel_rfl, by kernel_rfl, by kernel_rfl⟩
  offs := fun j off h => by simp [i23] at h
  pl := fun h => absurd rfl h
theorem o24 : TOk Tryz.prog 24 i24 where
  inf := ti24
  zav := ⟨by kernel_rfl, by kernel_rfl, by kernel_rfl, by kernel_rfl⟩
  offs := fun j off h => by simp [i24] at h
  pl := fun h => absurd rfl h
theorem o25 : TOk Tryz.prog 25 i25 where
  inf := ti25
  zav := ⟨by kernel_rfl, by kernel_rfl, by kernel_rfl, by kernel_rfl⟩
  offs := fun j off h => by simp [i25] at h
  pl := fun h => absurd rfl h
theorem o26 : TOk Tryz.prog 26 i26 where
  inf := ti26
  zav := ⟨by kernel_rfl, by kernel_rfl, by kernel_rfl, by kernel_rfl⟩
  offs := fun j off h => match j, h with
    | 0, h => by cases h; exact ⟨_, _, _, _, _, _, rfl, rfl, rfl, ti23, rfl⟩
    | 1, h => by cases h; exact ⟨_, _, _, _, _, _, rfl, rfl, rfl, ti24, rfl⟩
    | 2, h => by cases h; exact ⟨_, _, _, _, _, _, rfl, rfl, rfl, ti25, rfl⟩
    | _ + 3, h => by simp [i26] at h
  pl := fun _ => ⟨_, rfl, fun w => by kernel_rfl⟩
theorem o27 : TOk Tryz.prog 27 i27 where
  inf := ti27
  zav := ⟨by kernel_rfl, by kernel_rfl, by kernel_rfl, by kernel_rfl⟩
  offs := fun j off h => match j, h with
    | 0, h => by cases h; exact ⟨_, _, _, _, _, _, rfl, rfl, rfl, ti23, rfl⟩
    | 1, h => by cases h; exact ⟨_, _, _, _, _, _, rfl, rfl, rfl, ti24, rfl⟩
    | 2, h => by cases h; exact ⟨_, _, _, _, _, _, rfl, rfl, rfl, ti25, rfl⟩
    | _ + 3, h => by simp [i27] at h
  pl := fun _ => ⟨_, rfl, fun w => by kernel_rfl⟩
theorem o28 : TOk Tryz.prog 28 i28 where
  inf := ti28
  zav := ⟨by kernel_rfl, by kernel_rfl, by kernel_rfl, by kernel_rfl⟩
  offs := fun j off h => match j, h with
    | 0, h => by cases h; exact ⟨_, _, _, _, _, _, rfl, rfl, rfl, ti22, rfl⟩
    | 1, h => by cases h; exact ⟨_, _, _, _, _, _, rfl, rfl, rfl, ti27, rfl⟩
    | _ + 2, h => by simp [i28] at h
  pl := fun _ => ⟨_, rfl, fun w => by kernel_rfl⟩
theorem o29 : TOk Tryz.prog 29 i29 where
  inf := ti29
  zav := ⟨by kernel_rfl, by kernel_rfl, by kernel_rfl, by kernel_rfl⟩
  offs := fun j off h => match j, h with
    | 0, h => by cases h; exact ⟨_, _, _, _, _, _, rfl, rfl, rfl, ti22, rfl⟩
    | 1, h => by cases h; exact ⟨_, _, _, _, _, _, rfl, rfl, rfl, ti27, rfl⟩
    | _ + 2, h => by simp [i29] at h
  pl := fun _ => ⟨_, rfl, fun w => by kernel_rfl⟩
theorem o30 : TOk Tryz.prog 30 i30 where
  inf := ti30
  zav := ⟨by kernel_rfl, by kernel_rfl, by kernel_rfl, by kernel_rfl⟩
  offs := fun j off h => by simp [i30] at h
  pl := fun h => absurd rfl h
theorem o31 : TOk Tryz.prog 31 i31 where
  inf := ti31
  zav := ⟨by kernel_rfl, by kernel_rfl, by kernel_rfl, by kernel_rfl⟩
  offs := fun j off h => by simp [i31] at h
  pl := fun h => absurd rfl h
theorem o32 : TOk Tryz.prog 32 i32 where
  inf := ti32
  zav := ⟨by kernel_rfl, by kernel_rfl, by kernel_rfl, by kernel_rfl⟩
  offs := fun j off h => by simp [i32] at h
  pl := fun h => absurd rfl h
theorem o33 : TOk Tryz.prog 33 i33 where
  inf := ti33
  zav := ⟨by kernel_rfl, by kernel_rfl, by kernel_rfl, by kernel_rfl⟩
  offs := fun j off h => by simp [i33] at h
  pl := fun h => absurd rfl h
theorem o34 : TOk Tryz.prog 34 i34 where
  inf := ti34
  zav := ⟨by kernel_rfl, by kernel_rfl, by kernel_rfl, by kernel_rfl⟩
  offs := fun j off h => by simp [i34] at h
  pl := fun h => absurd rfl h
theorem o35 : TOk Tryz.prog 35 i35 where
  inf := ti35
  zav := ⟨by kernel_rfl, by kernel_rfl, by kernel_rfl, by kernel_rfl⟩
  offs := fun j off h => by simp [i35] at h
  pl := fun h => absurd rfl h
theorem o36 : TOk Tryz.prog 36 i36 where
  inf := ti36
  zav := ⟨by kernel_rfl, by kernel_rfl, by kernel_rfl, by kernel_rfl⟩
  offs := fun j off h => by simp [i36] at h
  pl := fun h => absurd rfl h
theorem o37 : TOk Tryz.prog 37 i37 where
  inf := ti37
  zav := ⟨by kernel_rfl, by kernel_rfl, by kernel_rfl, by kernel_rfl⟩
  offs := fun j off h => by simp [i37] at h
  pl := fun h => absurd rfl h
theorem o38 : TOk Tryz.prog 38 i38 where
  inf := ti38
  zav := ⟨by kernel_rfl, by kernel_rfl, by kernel_rfl, by kernel_rfl⟩
  offs := fun j off h => by simp [i38] at h
  pl := fun h => absurd rfl h
theorem o39 : TOk Tryz.prog 39 i39 where
  inf := ti39
  zav := ⟨by kernel_rfl, by kernel_rfl, by kernel_rfl, by kernel_rfl⟩
  offs := fun j off h => by simp [i39] at h
  pl := fun h => absurd rfl h
theorem o41 : TOk Tryz.prog 41 i41 where
  inf := ti41
  zav := ⟨by kernel_rfl, by kernel_rfl, by kernel_rfl, by kernel_rfl⟩
  offs := fun j off h => by simp [i41] at h
  pl := fun h => absurd rfl h
theorem o42 : TOk Tryz.prog 42 i42 where
  inf := ti42
  zav := ⟨by kernel_rfl, by kernel_rfl, by kernel_rfl, by kernel_rfl⟩
  offs := fun j off h => by simp [i42] at h
  pl := fun h => absurd rfl h
theorem o44 : TOk Tryz.prog 44 i44 where
  inf := ti44
  zav := ⟨by kernel_rfl, by kernel_rfl, by kernel_rfl, by kernel_rfl⟩
  offs := fun j off h => by simp [i44] at h
  pl := fun h => absurd rfl h
theorem o45 : TOk Tryz.prog 45 i45 where
  inf := ti45
  zav := ⟨by kernel_rfl, by kernel_rfl, by kernel_rfl, by kernel_rfl⟩
  offs := fun j off h => by simp [i45] at h
  pl := fun h => absurd rfl h
theorem o47 : TOk Tryz.prog 47 i47 where
  inf := ti47
  zav := ⟨by kernel_rfl, by kernel_rfl, by kernel_rfl, by kernel_rfl⟩
  offs := fun j off h => by simp [i47] at h
  pl := fun h => absurd rfl h
theorem o48 : TOk Tryz.prog 48 i48 where
  inf := ti48
  zav := ⟨by kernel_rfl, by kernel_rfl, by kernel_rfl, by kernel_rfl⟩
  offs := fun j off h => by simp [i48] at h
  pl := fun h => absurd rfl h
theorem o49 : TOk Tryz.prog 49 i49 where
  inf := ti49
  zav := ⟨by kernel_rfl, by kernel_rfl, by kernel_rfl, by kernel_rfl⟩
  offs := fun j off h => by simp [i49] at h
  pl := fun h => absurd rfl h
theorem o50 : TOk Tryz.prog 50 i50 where
  inf := ti50
  zav := ⟨by kernel_rfl, by kernel_rfl, by kernel_rfl, by kernel_rfl⟩
  offs := fun j off h => by simp [i50] at h
  pl := fun h => absurd rfl h
theorem o51 : TOk Tryz.prog 51 i51 where
  inf := ti51
  zav := ⟨by kernel_rfl, by kernel_rfl, by kernel_rfl, by kernel_rfl⟩
  offs := fun j off h => by simp [i51] at h
  pl := fun h => absurd rfl h
theorem o52 : TOk Tryz.prog 52 i52 where
  inf := ti52
  zav := ⟨by kernel_rfl, by kernel_rfl, by kernel_rfl, by kernel_rfl⟩
  offs := fun j off h => by simp [i52] at h
  pl := fun h => absurd rfl h
theorem o53 : TOk Tryz.prog 53 i53 where
  inf := ti53
  zav := ⟨by kernel_rfl, by kernel_rfl, by kernel_rfl, by kernel_rfl⟩
  offs := fun j off h => by simp [i53] at h
  pl := fun h => absurd rfl h
theorem o55 : TOk Tryz.prog 55 i55 where
  inf := ti55
  zav := ⟨by kernel_rfl, by kernel_rfl, by kernel_rfl, by kernel_rfl⟩
  offs := fun j off h => by simp [i55] at h
  pl := fun h => absurd rfl h
theorem o56 : TOk Tryz.prog 56 i56 where
  inf := ti56
  zav := ⟨by kernel_rfl, by kernel_rfl, by kernel_rfl, by kernel_rfl⟩
  offs := fun j off h => by simp [i56] at h
  pl := fun h => absurd rfl h
theorem o57 : TOk Tryz.prog 57 i57 where
  inf := ti57
  zav := ⟨by kernel_rfl, by kernel_rfl, by kernel_rfl, by kernel_rfl⟩
  offs := fun j off h => by simp [i57] at h
  pl := fun h => absurd rfl h
theorem o58 : TOk Tryz.prog 58 i58 where
  inf := ti58
  zav := ⟨by kernel_rfl, by kernel_rfl, by kernel_rfl, by kernel_rfl⟩
  offs := fun j off h => by simp [i58] at h
  pl := fun h => absurd rfl h
theorem o59 : TOk Tryz.prog 59 i59 where
  inf := ti59
  zav := ⟨by kernel_rfl, by kernel_rfl, by kernel_rfl, by kernel_rfl⟩
  offs := fun j off h => match j, h with
    | 0, h => by cases h; exact ⟨_, _, _, _, _, _, rfl, rfl, rfl, ti29, rfl⟩
    | 1, h => by cases h; exact ⟨_, _, _, _, _, _, rfl, rfl, rfl, ti58, rfl⟩
    | 2, h => by cases h; exact ⟨_, _, _, _, _, _, rfl, rfl, rfl, ti36, rfl⟩
    | 3, h => by cases h; exact ⟨_, _, _, _, _, _, rfl, rfl, rfl, ti4, rfl⟩
    | _ + 4, h => by simp [i59] at h
  pl := fun _ => ⟨_, rfl, fun w => by kernel_rfl⟩
theorem o60 : TOk Tryz.prog 60 i60 where
  inf := ti60
  zav := ⟨by kernel_rfl, by kernel_rfl, by kernel_rfl, by kernel_rfl⟩
  offs := fun j off h => match j, h with
    | 0, h => by cases h; exact ⟨_, _, _, _, _, _, rfl, rfl, rfl, ti29, rfl⟩
    | 1, h => by cases h; exact ⟨_, _, _, _, _, _, rfl, rfl, rfl, ti58, rfl⟩
    | 2, h => by cases h; exact ⟨_, _, _, _, _, _, rfl, rfl, rfl, ti36, rfl⟩
    | 3, h => by cases h; exact ⟨_, _, _, _, _, _, rfl, rfl, rfl, ti4, rfl⟩
    | _ + 4, h => by simp [i60] at h
  pl := fun _ => ⟨_, rfl, fun w => by kernel_rfl⟩
theorem o61 : TOk Tryz.prog 61 i61 where
  inf := ti61
  zav := ⟨by kernel_rfl, by kernel_rfl, by kernel_rfl, by kernel_rfl⟩
  offs := fun j off h => by simp [i61] at h
  pl := fun h => absurd rfl h
theorem o63 : TOk Tryz.prog 63 i63 where
  inf := ti63
  zav := ⟨by kernel_rfl, by kernel_rfl, by kernel_rfl, by kernel_rfl⟩
  offs := fun j off h => by simp [i63] at h
  pl := fun h => absurd rfl h
theorem o64 : TOk Tryz.prog 64 i64 where
  inf := ti64
  zav := ⟨by kernel_rfl, by kernel_rfl, by kernel_rfl, by kernel_rfl⟩
  offs := fun j off h => by simp [i64] at h
  pl := fun h => absurd rfl h
theorem o65 : TOk Tryz.prog 65 i65 where
  inf := ti65
  zav := ⟨by kernel_rfl, by kernel_rfl, by kernel_rfl, by kernel_rfl⟩
  offs := fun j off h => match j, h with
    | 0, h => by cases h; exact ⟨_, _, _, _, _, _, rfl, rfl, rfl, ti3, rfl⟩
    | 1, h => by cases h; exact ⟨_, _, _, _, _, _, rfl, rfl, rfl, ti3, rfl⟩
    | _ + 2, h => by simp [i65] at h
  pl := fun _ => ⟨_, rfl, fun w => by kernel_rfl⟩
theorem o66 : TOk Tryz.prog 66 i66 where
  inf := ti66
  zav := ⟨by kernel_rfl, by kernel_rfl, by kernel_rfl, by kernel_rfl⟩
  offs := fun j off h => match j, h with
    | 0, h => by cases h; exact ⟨_, _, _, _, _, _, rfl, rfl, rfl, ti3, rfl⟩
    | 1, h => by cases h; exact ⟨_, _, _, _, _, _, rfl, rfl, rfl, ti3, rfl⟩
    | _ + 2, h => by simp [i66] at h
  pl := fun _ => ⟨_, rfl, fun w => by kernel_rfl⟩
theorem o67 : TOk Tryz.prog 67 i67 where
  inf := ti67
  zav := ⟨by kernel_rfl, by kernel_rfl, by kernel_rfl, by kernel_rfl⟩
  offs := fun j off h => by simp [i67] at h
  pl := fun h => absurd rfl h
theorem o68 : TOk Tryz.prog 68 i68 where
  inf := ti68
  zav := ⟨by kernel_rfl, by kernel_rfl, by kernel_rfl, by kernel_rfl⟩
  offs := fun j off h => by simp [i68] at h
  pl := fun h => absurd rfl h
theorem o69 : TOk Tryz.prog 69 i69 where
  inf := ti69
  zav := ⟨by kernel_rfl, by kernel_rfl, by kernel_rfl, by kernel_rfl⟩
  offs := fun j off h => match j, h with
    | 0, h => by cases h; exact ⟨_, _, _, _, _, _, rfl, rfl, rfl, ti68, rfl⟩
    | 1, h => by cases h; exact ⟨_, _, _, _, _, _, rfl, rfl, rfl, ti36, rfl⟩
    | _ + 2, h => by simp [i69] at h
  pl := fun _ => ⟨_, rfl, fun w => by kernel_rfl⟩
theorem o70 : TOk Tryz.prog 70 i70 where
  inf := ti70
  zav := ⟨by kernel_rfl, by kernel_rfl, by kernel_rfl, by kernel_rfl⟩
  offs := fun j off h => match j, h with
    | 0, h => by cases h; exact ⟨_, _, _, _, _, _, rfl, rfl, rfl, ti68, rfl⟩
    | 1, h => by cases h; exact ⟨_, _, _, _, _, _, rfl, rfl, rfl, ti36, rfl⟩
    | _ + 2, h => by simp [i70] at h
  pl := fun _ => ⟨_, rfl, fun w => by kernel_rfl⟩
theorem o71 : TOk Tryz.prog 71 i71 where
  inf := ti71
  zav := ⟨by kernel_rfl, by kernel_rfl, by kernel_rfl, by kernel_rfl⟩
  offs := fun j off h => by simp [i71] at h
  pl := fun h => absurd rfl h
theorem o73 : TOk Tryz.prog 73 i73 where
  inf := ti73
  zav := ⟨by kernel_rfl, by kernel_rfl, by kernel_rfl, by kernel_rfl⟩
  offs := fun j off h => by simp [i73] at h
  pl := fun h => absurd rfl h
theorem o75 : TOk Tryz.prog 75 i75 where
  inf := ti75
  zav := ⟨by kernel_rfl, by kernel_rfl, by kernel_rfl, by kernel_rfl⟩
  offs := fun j off h => by simp [i75] at h
  pl := fun h => absurd rfl h
theorem o76 : TOk Tryz.prog 76 i76 where
  inf := ti76
  zav := ⟨by kernel_rfl, by kernel_rfl, by kernel_rfl, by kernel_rfl⟩
  offs := fun j off h => by simp [i76] at h
  pl := fun h => absurd rfl h
theorem o77 : TOk Tryz.prog 77 i77 where
  inf := ti77
  zav := ⟨by kernel_rfl, by kernel_rfl, by kernel_rfl, by kernel_rfl⟩
  offs := fun j off h => by simp [i77] at h
  pl := fun h => absurd rfl h
theorem o78 : TOk Tryz.prog 78 i78 where
  inf := ti78
  zav := ⟨by kernel_rfl, by kernel_rfl, by kernel_rfl, by kernel_rfl⟩
  offs := fun j off h => by simp [i78] at h
  pl := fun h => absurd rfl h
theorem o80 : TOk Tryz.prog 80 i80 where
  inf := ti80
  zav := ⟨by kernel_rfl, by kernel_rfl, by kernel_rfl, by kernel_rfl⟩
  offs := fun j off h => by simp [i80] at h
  pl := fun h => absurd rfl h
theorem o81 : TOk Tryz.prog 81 i81 where
  inf := ti81
  zav := ⟨by kernel_rfl, by kernel_rfl, by kernel_rfl, by kernel_rfl⟩
  offs := fun j off h => by simp [i81] at h
  pl := fun h => absurd rfl h
theorem o82 : TOk Tryz.prog 82 i82 where
  inf := ti82
  zav := ⟨by kernel_rfl, by kernel_rfl, by kernel_rfl, by kernel_rfl⟩
  offs := fun j off h => by simp [i82] at h
  pl := fun h => absurd rfl h
theorem o84 : TOk Tryz.prog 84 i84 where
  inf := ti84
  zav := ⟨by kernel_rfl, by kernel_rfl, by kernel_rfl, by kernel_rfl⟩
  offs := fun j off h => by simp [i84] at h
  pl := fun h => absurd rfl h
theorem o86 : TOk Tryz.prog 86 i86 where
  inf := ti86
  zav := ⟨by kernel_rfl, by kernel_rfl, by kernel_rfl, by kernel_rfl⟩
  offs := fun j off h => by simp [i86] at h
  pl := fun h => absurd rfl h
theorem o87 : TOk Tryz.prog 87 i87 where
  inf := ti87
  zav := ⟨by kernel_rfl, by kernel_rfl, by kernel_rfl, by kernel_rfl⟩
  offs := fun j off h => by simp [i87] at h
  pl := fun h => absurd rfl h
theorem o89 : TOk Tryz.prog 89 i89 where
  inf := ti89
  zav := ⟨by kernel_rfl, by kernel_rfl, by kernel_rfl, by kernel_rfl⟩
  offs := fun j off h => by simp [i89] at h
  pl := fun h => absurd rfl h
theorem o90 : TOk Tryz.prog 90 i90 where
  inf := ti90
  zav := ⟨by kernel_rfl, by kernel_rfl, by kernel_rfl, by kernel_rfl⟩
  offs := fun j off h => by simp [i90] at h
  pl := fun h => absurd rfl h
theorem o91 : TOk Tryz.prog 91 i91 where
  inf := ti91
  zav := ⟨by kernel_rfl, by kernel_rfl, by kernel_rfl, by kernel_rfl⟩
  offs := fun j off h => by simp [i91] at h
  pl := fun h => absurd rfl h
theorem o92 : TOk Tryz.prog 92 i92 where
  inf := ti92
  zav := ⟨by kernel_rfl, by kernel_rfl, by kernel_rfl, by kernel_rfl⟩
  offs := fun j off h => match j, h with
    | 0, h => by cases h; exact ⟨_, _, _, _, _, _, rfl, rfl, rfl, ti3, rfl⟩
    | 1, h => by cases h; exact ⟨_, _, _, _, _, _, rfl, rfl, rfl, ti68, rfl⟩
    | _ + 2, h => by simp [i92] at h
  pl := fun _ => ⟨_, rfl, fun w => by kernel_rfl⟩
theorem o93 : TOk Tryz.prog 93 i93 where
  inf := ti93
  zav := ⟨by kernel_rfl, by kernel_rfl, by kernel_rfl, by kernel_rfl⟩
  offs := fun j off h => match j, h with
    | 0, h => by cases h; exact ⟨_, _, _, _, _, _, rfl, rfl, rfl, ti3, rfl⟩
    | 1, h => by cases h; exact ⟨_, _, _, _, _, _, rfl, rfl, rfl, ti68, rfl⟩
    | _ + 2, h => by simp [i93] at h
  pl := fun _ => ⟨_, rfl, fun w => by kernel_rfl⟩
theorem o94 : TOk Tryz.prog 94 i94 where
  inf := ti94
  zav := ⟨by kernel_rfl, by kernel_rfl, by kernel_rfl, by kernel_rfl⟩
  offs := fun j off h => by simp [i94] at h
  pl := fun h => absurd rfl h
theorem o95 : TOk Tryz.prog 95 i95 where
  inf := ti95
  zav := ⟨by kernel_rfl, by kernel_rfl, by kernel_rfl, by kernel_rfl⟩
  offs := fun j off h => by simp [i95] at h
  pl := fun h => absurd rfl h
theorem o96 : TOk Tryz.prog 96 i96 where
  inf := ti96
  zav := ⟨by kernel_rfl, by kernel_rfl, by kernel_rfl, by kernel_rfl⟩
  offs := fun j off h => by simp [i96] at h
  pl := fun h => absurd rfl h
theorem o97 : TOk Tryz.prog 97 i97 where
  inf := ti97
  zav := ⟨by kernel_rfl, by kernel_rfl, by kernel_rfl, by kernel_rfl⟩
  offs := fun j off h => by simp [i97] at h
  pl := fun h => absurd rfl h
theorem o98 : TOk Tryz.prog 98 i98 where
  inf := ti98
  zav := ⟨by kernel_rfl, by kernel_rfl, by kernel_rfl, by kernel_rfl⟩
  offs := fun j off h => by simp [i98] at h
  pl := fun h => absurd rfl h
theorem o99 : TOk Tryz.prog 99 i99 where
  inf := ti99
  zav := ⟨by kernel_rfl, by kernel_rfl, by kernel_rfl, by kernel_rfl⟩
  offs := fun j off h => by simp [i99] at h
  pl := fun h => absurd rfl h
theorem o100 : TOk Tryz.prog 100 i100 where
  inf := ti100
  zav := ⟨by kernel_rfl, by kernel_rfl, by kernel_rfl, by kernel_rfl⟩
  offs := fun j off h => by simp [i100] at h
  pl := fun h => absurd rfl h
theorem o101 : TOk Tryz.prog 101 i101 where
  inf := ti101
  zav := ⟨by kernel_rfl, by kernel_rfl, by kernel_rfl, by kernel_rfl⟩
  offs := fun j off h => by simp [i101] at h
  pl := fun h => absurd rfl h
theorem o102 : TOk Tryz.prog 102 i102 where
  inf := ti102
  zav := ⟨by kernel_rfl, by kernel_rfl, by kernel_rfl, by kernel_rfl⟩
  offs := fun j off h => by simp [i102] at h
  pl := fun h => absurd rfl h
theorem o103 : TOk Tryz.prog 103 i103 where
  inf := ti103
  zav := ⟨by kernel_rfl, by kernel_rfl, by kernel_rfl, by kernel_rfl⟩
  offs := fun j off h => match j, h with
    | 0, h => by cases h; exact ⟨_, _, _, _, _, _, rfl, rfl, rfl, ti3, rfl⟩
    | 1, h => by cases h; exact ⟨_, _, _, _, _, _, rfl, rfl, rfl, ti3, rfl⟩
    | 2, h => by cases h; exact ⟨_, _, _, _, _, _, rfl, rfl, rfl, ti3, rfl⟩
    | 3, h => by cases h; exact ⟨_, _, _, _, _, _, rfl, rfl, rfl, ti3, rfl⟩
    | 4, h => by cases h; exact ⟨_, _, _, _, _, _, rfl, rfl, rfl, ti3, rfl⟩
    | _ + 5, h => by simp [i103] at h
  pl := fun _ => ⟨_, rfl, fun w => by kernel_rfl⟩
theorem o104 : TOk Tryz.prog 104 i104 where
  inf := ti104
  zav := ⟨by kernel_rfl, by kernel_rfl, by kernel_rfl, by kernel_rfl⟩
  offs := fun j off h => match j, h with
    | 0, h => by cases h; exact ⟨_, _, _, _, _, _, rfl, rfl, rfl, ti3, rfl⟩
    | 1, h => by cases h; exact ⟨_, _, _, _, _, _, rfl, rfl, rfl, ti3, rfl⟩
    | 2, h => by cases h; exact ⟨_, _, _, _, _, _, rfl, rfl, rfl, ti3, rfl⟩
    | 3, h => by cases h; exact ⟨_, _, _, _, _, _, rfl, rfl, rfl, ti3, rfl⟩
    | 4, h => by cases h; exact ⟨_, _, _, _, _, _, rfl, rfl, rfl, ti3, rfl⟩
    | _ + 5, h => by simp [i104] at h
  pl := fun _ => ⟨_, rfl, fun w => by kernel_rfl⟩
theorem o105 : TOk Tryz.prog 105 i105 where
  inf := ti105
  zav := ⟨by kernel_rfl, by kernel_rfl, by kernel_rfl, by kernel_rfl⟩
  offs := fun j off h => match j, h with
    | 0, h => by cases h; exact ⟨_, _, _, _, _, _, rfl, rfl, rfl, ti3, rfl⟩
    | 1, h => by cases h; exact ⟨_, _, _, _, _, _, rfl, rfl, rfl, ti3, rfl⟩
    | 2, h => by cases h; exact ⟨_, _, _, _, _, _, rfl, rfl, rfl, ti3, rfl⟩
    | 3, h => by cases h; exact ⟨_, _, _, _, _, _, rfl, rfl, rfl, ti3, rfl⟩
    | 4, h => by cases h; exact ⟨_, _, _, _, _, _, rfl, rfl, rfl, ti3, rfl⟩
    | _ + 5, h => by simp [i105] at h
  pl := fun _ => ⟨_, rfl, fun w => by kernel_rfl⟩
theorem o106 : TOk Tryz.prog 106 i106 where
  inf := ti106
  zav := ⟨by kernel_rfl, by kernel_rfl, by kernel_rfl, by kernel_rfl⟩
  offs := fun j off h => match j, h with
    | 0, h => by cases h; exact ⟨_, _, _, _, _, _, rfl, rfl, rfl, ti3, rfl⟩
    | 1, h => by cases h; exact ⟨_, _, _, _, _, _, rfl, rfl, rfl, ti3, rfl⟩
    | 2, h => by cases h; exact ⟨_, _, _, _, _, _, rfl, rfl, rfl, ti3, rfl⟩
    | 3, h => by cases h; exact ⟨_, _, _, _, _, _, rfl, rfl, rfl, ti3, rfl⟩
    | 4, h => by cases h; exact ⟨_, _, _, _, _, _, rfl, rfl, rfl, ti3, rfl⟩
    | _ + 5, h => by simp [i106] at h
  pl := fun _ => ⟨_, rfl, fun w => by kernel_rfl⟩
theorem o107 : TOk Tryz.prog 107 i107 where
  inf := ti107
  zav := ⟨by kernel_rfl, by kernel_rfl, by kernel_rfl, by kernel_rfl⟩
  offs := fun j off h => match j, h with
    | 0, h => by cases h; exact ⟨_, _, _, _, _, _, rfl, rfl, rfl, ti3, rfl⟩
    | 1, h => by cases h; exact ⟨_, _, _, _, _, _, rfl, rfl, rfl, ti3, rfl⟩
    | 2, h => by cases h; exact ⟨_, _, _, _, _, _, rfl, rfl, rfl, ti3, rfl⟩
    | 3, h => by cases h; exact ⟨_, _, _, _, _, _, rfl, rfl, rfl, ti3, rfl⟩
    | _ + 4, h => by simp [i107] at h
  pl := fun _ => ⟨_, rfl, fun w => by kernel_rfl⟩
theorem o108 : TOk Tryz.prog 108 i108 where
  inf := ti108
  zav := ⟨by kernel_rfl, by kernel_rfl, by kernel_rfl, by kernel_rfl⟩
  offs := fun j off h => match j, h with
    | 0, h => by cases h; exact ⟨_, _, _, _, _, _, rfl, rfl, rfl, ti3, rfl⟩
    | 1, h => by cases h; exact ⟨_, _, _, _, _, _, rfl, rfl, rfl, ti3, rfl⟩
    | 2, h => by cases h; exact ⟨_, _, _, _, _, _, rfl, rfl, rfl, ti3, rfl⟩
    | 3, h => by cases h; exact ⟨_, _, _, _, _, _, rfl, rfl, rfl, ti3, rfl⟩
    | _ + 4, h => by simp [i108] at h
  pl := fun _ => ⟨_, rfl, fun w => by kernel_rfl⟩
theorem o110 : TOk Tryz.prog 110 i110 where
  inf := ti110
  zav := ⟨by kernel_rfl, by kernel_rfl, by kernel_rfl, by kernel_rfl⟩
  offs := fun j off h => by simp [i110] at h
  pl := fun h => absurd rfl h
theorem o112 : TOk Tryz.prog 112 i112 where
  inf := ti112
  zav := ⟨by kernel_rfl, by kernel_rfl, by kernel_rfl, by kernel_rfl⟩
  offs := fun j off h => by simp [i112] at h
  pl := fun h => absurd rfl h
theorem o114 : TOk Tryz.prog 114 i114 where
  inf := ti114
  zav := ⟨by kernel_rfl, by kernel_rfl, by kernel_rfl, by kernel_rfl⟩
  offs := fun j off h => by simp [i114] at h
  pl := fun h => absurd rfl h
theorem o116 : TOk Tryz.prog 116 i116 where
  inf := ti116
  zav := ⟨by kernel_rfl, by kernel_rfl, by kernel_rfl, by kernel_rfl⟩
  offs := fun j off h => by simp [i116] at h
  pl := fun h => absurd rfl h
theorem o118 : TOk Tryz.prog 118 i118 where
  inf := ti118
  zav := ⟨by kernel_rfl, by kernel_rfl, by kernel_rfl, by kernel_rfl⟩
  offs := fun j off h => by simp [i118] at h
  pl := fun h => absurd rfl h
theorem o119 : TOk Tryz.prog 119 i119 where
  inf := ti119
  zav := ⟨by kernel_rfl, by kernel_rfl, by kernel_rfl, by kernel_rfl⟩
  offs := fun j off h => by simp [i119] at h
  pl := fun h => absurd rfl h
theorem o120 : TOk Tryz.prog 120 i120 where
  inf := ti120
  zav := ⟨by kernel_rfl, by kernel_rfl, by kernel_rfl, by kernel_rfl⟩
  offs := fun j off h => by simp [i120] at h
  pl := fun h => absurd rfl h
theorem o121 : TOk Tryz.prog 121 i121 where
  inf := ti121
  zav := ⟨by kernel_rfl, by kernel_rfl, by kernel_rfl, by kernel_rfl⟩
  offs := fun j off h => by simp [i121] at h
  pl := fun h => absurd rfl h
theorem o122 : TOk Tryz.prog 122 i122 where
  inf := ti122
  zav := ⟨by kernel_rfl, by kernel_rfl, by kernel_rfl, by kernel_rfl⟩
  offs := fun j off h => by simp [i122] at h
  pl := fun h => absurd rfl h
theorem o123 : TOk Tryz.prog 123 i123 where
  inf := ti123
  zav := ⟨by kernel_rfl, by kernel_rfl, by kernel_rfl, by kernel_rfl⟩
  offs := fun j off h => by simp [i123] at h
  pl := fun h => absurd rfl h
theorem o124 : TOk Tryz.prog 124 i124 where
  inf := ti124
  zav := ⟨by kernel_rfl, by kernel_rfl, by kernel_rfl, by kernel_rfl⟩
  offs := fun j off h => by simp [i124] at h
  pl := fun h => absurd rfl h
theorem o125 : TOk Tryz.prog 125 i125 where
  inf := ti125
  zav := ⟨by kernel_rfl, by kernel_rfl, by kernel_rfl, by kernel_rfl⟩
  offs := fun j off h => by simp [i125] at h
  pl := fun h => absurd rfl h
theorem o126 : TOk Tryz.prog 126 i126 where
  inf := ti126
  zav := ⟨by kernel_rfl, by kernel_rfl, by kernel_rfl, by kernel_rfl⟩
  offs := fun j off h => by simp [i126] at h
  pl := fun h => absurd rfl h
theorem o127 : TOk Tryz.prog 127 i127 where
  inf := ti127
  zav := ⟨by kernel_rfl, by kernel_rfl, by kernel_rfl, by kernel_rfl⟩
  offs := fun j off h => by simp [i127] at h
  pl := fun h => absurd rfl h
theorem o128 : TOk Tryz.prog 128 i128 where
  inf := ti128
  zav := ⟨by kernel_rfl, by kernel_rfl, by kernel_rfl, by kernel_rfl⟩
  offs := fun j off h => by simp [i128] at h
  pl := fun h => absurd rfl h
theorem o130 : TOk Tryz.prog 130 i130 where
  inf := ti130
  zav := ⟨by kernel_rfl, by kernel_rfl, by kernel_rfl, by kernel_rfl⟩
  offs := fun j off h => by simp [i130] at h
  pl := fun h => absurd rfl h
theorem o131 : TOk Tryz.prog 131 i131 where
  inf := ti131
  zav := ⟨by kernel_rfl, by kernel_rfl, by kernel_rfl, by kernel_rfl⟩
  offs := fun j off h => by simp [i131] at h
  pl := fun h => absurd rfl h
theorem o132 : TOk Tryz.prog 132 i132 where
  inf := ti132
  zav := ⟨by kernel_rfl, by kernel_rfl, by kernel_rfl, by kernel_rfl⟩
  offs := fun j off h => by simp [i132] at h
  pl := fun h => absurd rfl h
theorem o133 : TOk Tryz.prog 133 i133 where
  inf := ti133
  zav := ⟨by kernel_rfl, by kernel_rfl, by kernel_rfl, by kernel_rfl⟩
  offs := fun j off h => match j, h with
    | 0, h => by cases h; exact ⟨_, _, _, _, _, _, rfl, rfl, rfl, ti132, rfl⟩
    | _ + 1, h => by simp [i133] at h
  pl := fun _ => ⟨_, rfl, fun w => by kernel_rfl⟩
theorem o134 : TOk Tryz.prog 134 i134 where
  inf := ti134
  zav := ⟨by kernel_rfl, by kernel_rfl, by kernel_rfl, by kernel_rfl⟩
  offs := fun j off h => match j, h with
    | 0, h => by cases h; exact ⟨_, _, _, _, _, _, rfl, rfl, rfl, ti132, rfl⟩
    | _ + 1, h => by simp [i134] at h
  pl := fun _ => ⟨_, rfl, fun w => by kernel_rfl⟩
theorem o136 : TOk Tryz.prog 136 i136 where
  inf := ti136
  zav := ⟨by kernel_rfl, by kernel_rfl, by kernel_rfl, by kernel_rfl⟩
  offs := fun j off h => by simp [i136] at h
  pl := fun h => absurd rfl h
theorem o137 : TOk Tryz.prog 137 i137 where
  inf := ti137
  zav := ⟨by kernel_rfl, by kernel_rfl, by kernel_rfl, by kernel_rfl⟩
  offs := fun j off h => by simp [i137] at h
  pl := fun h => absurd rfl h
theorem o138 : TOk Tryz.prog 138 i138 where
  inf := ti138
  zav := ⟨by kernel_rfl, by kernel_rfl, by kernel_rfl, by kernel_rfl⟩
  offs := fun j off h => by simp [i138] at h
  pl := fun h => absurd rfl h
theorem o139 : TOk Tryz.prog 139 i139 where
  inf := ti139
  zav := ⟨by kernel_rfl, by kernel_rfl, by kernel_rfl, by kernel_rfl⟩
  offs := fun j off h => by simp [i139] at h
  pl := fun h => absurd rfl h
theorem o140 : TOk Tryz.prog 140 i140 where
  inf := ti140
  zav := ⟨by kernel_rfl, by kernel_rfl, by kernel_rfl, by kernel_rfl⟩
  offs := fun j off h => by simp [i140] at h
  pl := fun h => absurd rfl h
theorem o141 : TOk Tryz.prog 141 i141 where
  inf := ti141
  zav := ⟨by kernel_rfl, by kernel_rfl, by kernel_rfl, by kernel_rfl⟩
  offs := fun j off h => by simp [i141] at h
  pl := fun h => absurd rfl h
theorem o143 : TOk Tryz.prog 143 i143 where
  inf := ti143
  zav := ⟨by kernel_rfl, by kernel_rfl, by kernel_rfl, by kernel_rfl⟩
  offs := fun j off h => by simp [i143] at h
  pl := fun h => absurd rfl h
theorem o145 : TOk Tryz.prog 145 i145 where
  inf := ti145
  zav := ⟨by kernel_rfl, by kernel_rfl, by kernel_rfl, by kernel_rfl⟩
  offs := fun j off h => by simp [i145] at h
  pl := fun h => absurd rfl h
theorem o146 : TOk Tryz.prog 146 i146 where
  inf := ti146
  zav := ⟨by kernel_rfl, by kernel_rfl, by kernel_rfl, by kernel_rfl⟩
  offs := fun j off h => match j, h with
    | 0, h => by cases h; exact ⟨_, _, _, _, _, _, rfl, rfl, rfl, ti42, rfl⟩
    | _ + 1, h => by simp [i146] at h
  pl := fun _ => ⟨_, rfl, fun w => by kernel_rfl⟩
theorem o147 : TOk Tryz.prog 147 i147 where
  inf := ti147
  zav := ⟨by kernel_rfl, by kernel_rfl, by kernel_rfl, by kernel_rfl⟩
  offs := fun j off h => match j, h with
    | 0, h => by cases h; exact ⟨_, _, _, _, _, _, rfl, rfl, rfl, ti42, rfl⟩
    | _ + 1, h => by simp [i147] at h
  pl := fun _ => ⟨_, rfl, fun w => by kernel_rfl⟩
theorem o148 : TOk Tryz.prog 148 i148 where
  inf := ti148
  zav := ⟨by kernel_rfl, by kernel_rfl, by kernel_rfl, by kernel_rfl⟩
  offs := fun j off h => match j, h with
    | 0, h => by cases h; exact ⟨_, _, _, _, _, _, rfl, rfl, rfl, ti147, rfl⟩
    | 1, h => by cases h; exact ⟨_, _, _, _, _, _, rfl, rfl, rfl, ti81, rfl⟩
    | _ + 2, h => by simp [i148] at h
  pl := fun _ => ⟨_, rfl, fun w => by kernel_rfl⟩
theorem o149 : TOk Tryz.prog 149 i149 where
  inf := ti149
  zav := ⟨by kernel_rfl, by kernel_rfl, by kernel_rfl, by kernel_rfl⟩
  offs := fun j off h => match j, h with
    | 0, h => by cases h; exact ⟨_, _, _, _, _, _, rfl, rfl, rfl, ti147, rfl⟩
    | 1, h => by cases h; exact ⟨_, _, _, _, _, _, rfl, rfl, rfl, ti81, rfl⟩
    | _ + 2, h => by simp [i149] at h
  pl := fun _ => ⟨_, rfl, fun w => by kernel_rfl⟩
theorem o150 : TOk Tryz.prog 150 i150 where
  inf := ti150
  zav := ⟨by kernel_rfl, by kernel_rfl, by kernel_rfl, by kernel_rfl⟩
  offs := fun j off h => by simp [i150] at h
  pl := fun h => absurd rfl h
theorem o151 : TOk Tryz.prog 151 i151 where
  inf := ti151
  zav := ⟨by kernel_rfl, by kernel_rfl, by kernel_rfl, by kernel_rfl⟩
  offs := fun j off h => by simp [i151] at h
  pl := fun h => absurd rfl h
theorem o152 : TOk Tryz.prog 152 i152 where
  inf := ti152
  zav := ⟨by kernel_rfl, by kernel_rfl, by kernel_rfl, by kernel_rfl⟩
  offs := fun j off h => by simp [i152] at h
  pl := fun h => absurd rfl h
theorem o153 : TOk Tryz.prog 153 i153 where
  inf := ti153
  zav := ⟨by kernel_rfl, by kernel_rfl, by kernel_rfl, by kernel_rfl⟩
  offs := fun j off h => by simp [i153] at h
  pl := fun h => absurd rfl h
theorem o154 : TOk Tryz.prog 154 i154 where
  inf := ti154
  zav := ⟨by kernel_rfl, by kernel_rfl, by kernel_rfl, by kernel_rfl⟩
  offs := fun j off h => by simp [i154] at h
  pl := fun h => absurd rfl h
theorem o155 : TOk Tryz.prog 155 i155 where
  inf := ti155
  zav := ⟨by kernel_rfl, by kernel_rfl, by kernel_rfl, by kernel_rfl⟩
  offs := fun j off h => by simp [i155] at h
  pl := fun h => absurd rfl h
theorem o156 : TOk Tryz.prog 156 i156 where
  inf := ti156
  zav := ⟨by kernel_rfl, by kernel_rfl, by kernel_rfl, by kernel_rfl⟩
  offs := fun j off h => by simp [i156] at h
  pl := fun h => absurd rfl h
theorem o157 : TOk Tryz.prog 157 i157 where
  inf := ti157
  zav := ⟨by kernel_rfl, by kernel_rfl, by kernel_rfl, by kernel_rfl⟩
  offs := fun j off h => by simp [i157] at h
  pl := fun h => absurd rfl h
theorem o158 : TOk Tryz.prog 158 i158 where
  inf := ti158
  zav := ⟨by kernel_rfl, by kernel_rfl, by kernel_rfl, by kernel_rfl⟩
  offs := fun j off h => by simp [i158] at h
  pl := fun h => absurd rfl h
theorem o159 : TOk Tryz.prog 159 i159 where
  inf := ti159
  zav := ⟨by kernel_rfl, by kernel_rfl, by kernel_rfl, by kernel_rfl⟩
  offs := fun j off h => by simp [i159] at h
  pl := fun h => absurd rfl h
theorem o160 : TOk Tryz.prog 160 i160 where
  inf := ti160
  zav := ⟨by kernel_rfl, by kernel_rfl, by kernel_rfl, by kernel_rfl⟩
  offs := fun j off h => by simp [i160] at h
  pl := fun h => absurd rfl h
theorem o161 : TOk Tryz.prog 161 i161 where
  inf := ti161
  zav := ⟨by kernel_rfl, by kernel_rfl, by kernel_rfl, by kernel_rfl⟩
  offs := fun j off h => by simp [i161] at h
  pl := fun h => absurd rfl h
theorem o162 : TOk Tryz.prog 162 i162 where
  inf := ti162
  zav := ⟨by kernel_rfl, by kernel_rfl, by kernel_rfl, by kernel_rfl⟩
  offs := fun j off h => by simp [i162] at h
  pl := fun h => absurd rfl h
theorem o163 : TOk Tryz.prog 163 i163 where
  inf := ti163
  zav := ⟨by kernel_rfl, by kernel_rfl, by kernel_rfl, by kernel_rfl⟩
  offs := fun j off h => by simp [i163] at h
  pl := fun h => absurd rfl h
theorem o164 : TOk Tryz.prog 164 i164 where
  inf := ti164
  zav := ⟨by kernel_rfl, by kernel_rfl, by kernel_rfl, by kernel_rfl⟩
  offs := fun j off h => by simp [i164] at h
  pl := fun h => absurd rfl h
theorem o165 : TOk Tryz.prog 165 i165 where
  inf := ti165
  zav := ⟨by kernel_rfl, by kernel_rfl, by kernel_rfl, by kernel_rfl⟩
  offs := fun j off h => by simp [i165] at h
  pl := fun h => absurd rfl h
theorem o166 : TOk Tryz.prog 166 i166 where
  inf := ti166
  zav := ⟨by kernel_rfl, by kernel_rfl, by kernel_rfl, by kernel_rfl⟩
  offs := fun j off h => by simp [i166] at h
  pl := fun h => absurd rfl h
theorem o167 : TOk Tryz.prog 167 i167 where
  inf := ti167
  zav := ⟨by kernel_rfl, by kernel_rfl, by kernel_rfl, by kernel_rfl⟩
  offs := fun j off h => by simp [i167] at h
  pl := fun h => absurd rfl h
theorem o168 : TOk Tryz.prog 168 i168 where
  inf := ti168
  zav := ⟨by kernel_rfl, by kernel_rfl, by kernel_rfl, by kernel_rfl⟩
  offs := fun j off h => by simp [i168] at h
  pl := fun h => absurd rfl h
theorem o169 : TOk Tryz.prog 169 i169 where
  inf := ti169
  zav := ⟨by kernel_rfl, by kernel_rfl, by kernel_rfl, by kernel_rfl⟩
  offs := fun j off h => by simp [i169] at h
  pl := fun h => absurd rfl h
theorem o171 : TOk Tryz.prog 171 i171 where
  inf := ti171
  zav := ⟨by kernel_rfl, by kernel_rfl, by kernel_rfl, by kernel_rfl⟩
  offs := fun j off h => by simp [i171] at h
  pl := fun h => absurd rfl h
theorem o172 : TOk Tryz.prog 172 i172 where
  inf := ti172
  zav := ⟨by kernel_rfl, by kernel_rfl, by kernel_rfl, by kernel_rfl⟩
  offs := fun j off h => by simp [i172] at h
  pl := fun h => absurd rfl h
theorem o173 : TOk Tryz.prog 173 i173 where
  inf := ti173
  zav := ⟨by kernel_rfl, by kernel_rfl, by kernel_rfl, by kernel_rfl⟩
  offs := fun j off h => by simp [i173] at h
  pl := fun h => absurd rfl h
theorem o174 : TOk Tryz.prog 174 i174 where
  inf := ti174
  zav := ⟨by kernel_rfl, by kernel_rfl, by kernel_rfl, by kernel_rfl⟩
  offs := fun j off h => by simp [i174] at h
  pl := fun h => absurd rfl h
theorem o175 : TOk Tryz.prog 175 i175 where
  inf := ti175
  zav := ⟨by kernel_rfl, by kernel_rfl, by kernel_rfl, by kernel_rfl⟩
  offs := fun j off h => by simp [i175] at h
  pl := fun h => absurd rfl h
theorem o176 : TOk Tryz.prog 176 i176 where
  inf := ti176
  zav := ⟨by kernel_rfl, by kernel_rfl, by kernel_rfl, by kernel_rfl⟩
  offs := fun j off h => by simp [i176] at h
  pl := fun h => absurd rfl h
theorem o177 : TOk Tryz.prog 177 i177 where
  inf := ti177
  zav := ⟨by kernel_rfl, by kernel_rfl, by kernel_rfl, by kernel_rfl⟩
  offs := fun j off h => match j, h with
    | 0, h => by cases h; exact ⟨_, _, _, _, _, _, rfl, rfl, rfl, ti174, rfl⟩
    | 1, h => by cases h; exact ⟨_, _, _, _, _, _, rfl, rfl, rfl, ti176, rfl⟩
    | 2, h => by cases h; exact ⟨_, _, _, _, _, _, rfl, rfl, rfl, ti4, rfl⟩
    | _ + 3, h => by simp [i177] at h
  pl := fun _ => ⟨_, rfl, fun w => by kernel_rfl⟩
theorem o178 : TOk Tryz.prog 178 i178 where
  inf := ti178
  zav := ⟨by kernel_rfl, by kernel_rfl, by kernel_rfl, by kernel_rfl⟩
  offs := fun j off h => match j, h with
    | 0, h => by cases h; exact ⟨_, _, _, _, _, _, rfl, rfl, rfl, ti174, rfl⟩
    | 1, h => by cases h; exact ⟨_, _, _, _, _, _, rfl, rfl, rfl, ti176, rfl⟩
    | 2, h => by cases h; exact ⟨_, _, _, _, _, _, rfl, rfl, rfl, ti4, rfl⟩
    | _ + 3, h => by simp [i178] at h
  pl := fun _ => ⟨_, rfl, fun w => by kernel_rfl⟩
theorem o179 : TOk Tryz.prog 179 i179 where
  inf := ti179
  zav := ⟨by kernel_rfl, by kernel_rfl, by kernel_rfl, by kernel_rfl⟩
  offs := fun j off h => by simp [i179] at h
  pl := fun h => absurd rfl h
theorem o180 : TOk Tryz.prog 180 i180 where
  inf := ti180
  zav := ⟨by kernel_rfl, by kernel_rfl, by kernel_rfl, by kernel_rfl⟩
  offs := fun j off h => by simp [i180] at h
  pl := fun h => absurd rfl h
theorem o181 : TOk Tryz.prog 181 i181 where
  inf := ti181
  zav := ⟨by kernel_rfl, by kernel_rfl, by kernel_rfl, by kernel_rfl⟩
  offs := fun j off h => by simp [i181] at h
  pl := fun h => absurd rfl h
theorem o182 : TOk Tryz.prog 182 i182 where
  inf := ti182
  zav := ⟨by kernel_rfl, by kernel_rfl, by kernel_rfl, by kernel_rfl⟩
  offs := fun j off h => by simp [i182] at h
  pl := fun h => absurd rfl h
theorem o183 : TOk Tryz.prog 183 i183 where
  inf := ti183
  zav := ⟨by kernel_rfl, by kernel_rfl, by kernel_rfl, by kernel_rfl⟩
  offs := fun j off h => by simp [i183] at h
  pl := fun h => absurd rfl h
theorem o184 : TOk Tryz.prog 184 i184 where
  inf := ti184
  zav := ⟨by kernel_rfl, by kernel_rfl, by kernel_rfl, by kernel_rfl⟩
  offs := fun j off h => match j, h with
    | 0, h => by cases h; exact ⟨_, _, _, _, _, _, rfl, rfl, rfl, ti68, rfl⟩
    | 1, h => by cases h; exact ⟨_, _, _, _, _, _, rfl, rfl, rfl, ti176, rfl⟩
    | 2, h => by cases h; exact ⟨_, _, _, _, _, _, rfl, rfl, rfl, ti168, rfl⟩
    | 3, h => by cases h; exact ⟨_, _, _, _, _, _, rfl, rfl, rfl, ti180, rfl⟩
    | 4, h => by cases h; exact ⟨_, _, _, _, _, _, rfl, rfl, rfl, ti181, rfl⟩
    | 5, h => by cases h; exact ⟨_, _, _, _, _, _, rfl, rfl, rfl, ti181, rfl⟩
    | 6, h => by cases h; exact ⟨_, _, _, _, _, _, rfl, rfl, rfl, ti182, rfl⟩
    | 7, h => by cases h; exact ⟨_, _, _, _, _, _, rfl, rfl, rfl, ti183, rfl⟩
    | _ + 8, h => by simp [i184] at h
  pl := fun _ => ⟨_, rfl, fun w => by kernel_rfl⟩
theorem o185 : TOk Tryz.prog 185 i185 where
  inf := ti185
  zav := ⟨by kernel_rfl, by kernel_rfl, by kernel_rfl, by kernel_rfl⟩
  offs := fun j off h => match j, h with
    | 0, h => by cases h; exact ⟨_, _, _, _, _, _, rfl, rfl, rfl, ti68, rfl⟩
    | 1, h => by cases h; exact ⟨_, _, _, _, _, _, rfl, rfl, rfl, ti176, rfl⟩
    | 2, h => by cases h; exact ⟨_, _, _, _, _, _, rfl, rfl, rfl, ti168, rfl⟩
    | 3, h => by cases h; exact ⟨_, _, _, _, _, _, rfl, rfl, rfl, ti180, rfl⟩
    | 4, h => by cases h; exact ⟨_, _, _, _, _, _, rfl, rfl, rfl, ti181, rfl⟩
    | 5, h => by cases h; exact ⟨_, _, _, _, _, _, rfl, rfl, rfl, ti181, rfl⟩
    | 6, h => by cases h; exact ⟨_, _, _, _, _, _, rfl, rfl, rfl, ti182, rfl⟩
    | 7, h => by cases h; exact ⟨_, _, _, _, _, _, rfl, rfl, rfl, ti183, rfl⟩
    | _ + 8, h => by simp [i185] at h
  pl := fun _ => ⟨_, rfl, fun w => by kernel_rfl⟩
theorem o186 : TOk Tryz.prog 186 i186 where
  inf := ti186
  zav := ⟨by kernel_rfl, by kernel_rfl, by kernel_rfl, by kernel_rfl⟩
  offs := fun j off h => by simp [i186] at h
  pl := fun h => absurd rfl h
theorem o187 : TOk Tryz.prog 187 i187 where
  inf := ti187
  zav := ⟨by kernel_rfl, by kernel_rfl, by kernel_rfl, by kernel_rfl⟩
  offs := fun j off h => by simp [i187] at h
  pl := fun h => absurd rfl h
theorem o188 : TOk Tryz.prog 188 i188 where
  inf := ti188
  zav := ⟨by kernel_rfl, by kernel_rfl, by kernel_rfl, by kernel_rfl⟩
  offs := fun j off h => by simp [i188] at h
  pl := fun h => absurd rfl h
theorem o190 : TOk Tryz.prog 190 i190 where
  inf := ti190
  zav := ⟨by kernel_rfl, by kernel_rfl, by kernel_rfl, by kernel_rfl⟩
  offs := fun j off h => by simp [i190] at h
  pl := fun h => absurd rfl h
theorem o191 : TOk Tryz.prog 191 i191 where
  inf := ti191
  zav := ⟨by kernel_rfl, by kernel_rfl, by kernel_rfl, by kernel_rfl⟩
  offs := fun j off h => by simp [i191] at h
  pl := fun h => absurd rfl h
theorem o192 : TOk Tryz.prog 192 i192 where
  inf := ti192
  zav := ⟨by kernel_rfl, by kernel_rfl, by kernel_rfl, by kernel_rfl⟩
  offs := fun j off h => by simp [i192] at h
  pl := fun h => absurd rfl h
theorem o193 : TOk Tryz.prog 193 i193 where
  inf := ti193
  zav := ⟨by kernel_rfl, by kernel_rfl, by kernel_rfl, by kernel_rfl⟩
  offs := fun j off h => by simp [i193] at h
  pl := fun h => absurd rfl h
theorem o194 : TOk Tryz.prog 194 i194 where
  inf := ti194
  zav := ⟨by kernel_rfl, by kernel_rfl, by kernel_rfl, by kernel_rfl⟩
  offs := fun j off h => by simp [i194] at h
  pl := fun h => absurd rfl h
theorem o195 : TOk Tryz.prog 195 i195 where
  inf := ti195
  zav := ⟨by kernel_rfl, by kernel_rfl, by kernel_rfl, by kernel_rfl⟩
  offs := fun j off h => by simp [i195] at h
  pl := fun h => absurd rfl h
theorem o196 : TOk Tryz.prog 196 i196 where
  inf := ti196
  zav := ⟨by kernel_rfl, by kernel_rfl, by kernel_rfl, by kernel_rfl⟩
  offs := fun j off h => by simp [i196] at h
  pl := fun h => absurd rfl h
theorem o197 : TOk Tryz.prog 197 i197 where
  inf := ti197
  zav := ⟨by kernel_rfl, by kernel_rfl, by kernel_rfl, by kernel_rfl⟩
  offs := fun j off h => by simp [i197] at h
  pl := fun h => absurd rfl h
theorem o198 : TOk Tryz.prog 198 i198 where
  inf := ti198
  zav := ⟨by kernel_rfl, by kernel_rfl, by kernel_rfl, by kernel_rfl⟩
  offs := fun j off h => match j, h with
    | 0, h => by cases h; exact ⟨_, _, _, _, _, _, rfl, rfl, rfl, ti147, rfl⟩
    | 1, h => by cases h; exact ⟨_, _, _, _, _, _, rfl, rfl, rfl, ti81, rfl⟩
    | 2, h => by cases h; exact ⟨_, _, _, _, _, _, rfl, rfl, rfl, ti3, rfl⟩
    | 3, h => by cases h; exact ⟨_, _, _, _, _, _, rfl, rfl, rfl, ti4, rfl⟩
    | _ + 4, h => by simp [i198] at h
  pl := fun _ => ⟨_, rfl, fun w => by kernel_rfl⟩
theorem o199 : TOk Tryz.prog 199 i199 where
  inf := ti199
  zav := ⟨by kernel_rfl, by kernel_rfl, by kernel_rfl, by kernel_rfl⟩
  offs := fun j off h => match j, h with
    | 0, h => by cases h; exact ⟨_, _, _, _, _, _, rfl, rfl, rfl, ti147, rfl⟩
    | 1, h => by cases h; exact ⟨_, _, _, _, _, _, rfl, rfl, rfl, ti81, rfl⟩
    | 2, h => by cases h; exact ⟨_, _, _, _, _, _, rfl, rfl, rfl, ti3, rfl⟩
    | 3, h => by cases h; exact ⟨_, _, _, _, _, _, rfl, rfl, rfl, ti4, rfl⟩
    | _ + 4, h => by simp [i199] at h
  pl := fun _ => ⟨_, rfl, fun w => by kernel_rfl⟩
theorem o200 : TOk Tryz.prog 200 i200 where
  inf := ti200
  zav := ⟨by kernel_rfl, by kernel_rfl, by kernel_rfl, by kernel_rfl⟩
  offs := fun j off h => by simp [i200] at h
  pl := fun h => absurd rfl h
theorem o201 : TOk Tryz.prog 201 i201 where
  inf := ti201
  zav := ⟨by kernel_rfl, by kernel_rfl, by kernel_rfl, by kernel_rfl⟩
  offs := fun j off h => by simp [i201] at h
  pl := fun h => absurd rfl h
theorem o202 : TOk Tryz.prog 202 i202 where
  inf := ti202
  zav := ⟨by kernel_rfl, by kernel_rfl, by kernel_rfl, by kernel_rfl⟩
  offs := fun j off h => by simp [i202] at h
  pl := fun h => absurd rfl h
theorem o203 : TOk Tryz.prog 203 i203 where
  inf := ti203
  zav := ⟨by kernel_rfl, by kernel_rfl, by kernel_rfl, by kernel_rfl⟩
  offs := fun j off h => by simp [i203] at h
  pl := fun h => absurd rfl h
theorem o204 : TOk Tryz.prog 204 i204 where
  inf := ti204
  zav := ⟨by kernel_rfl, by kernel_rfl, by kernel_rfl, by kernel_rfl⟩
  offs := fun j off h => by simp [i204] at h
  pl := fun h => absurd rfl h
theorem o205 : TOk Tryz.prog 205 i205 where
  inf := ti205
  zav := ⟨by kernel_rfl, by kernel_rfl, by kernel_rfl, by kernel_rfl⟩
  offs := fun j off h => by simp [i205] at h
  pl := fun h => absurd rfl h
theorem o206 : TOk Tryz.prog 206 i206 where
  inf := ti206
  zav := ⟨by kernel_rfl, by kernel_rfl, by kernel_rfl, by kernel_rfl⟩
  offs := fun j off h => by simp [i206] at h
  pl := fun h => absurd rfl h
theorem o207 : TOk Tryz.prog 207 i207 where
  inf := ti207
  zav := ⟨by kernel_rfl, by kernel_rfl, by kernel_rfl, by kernel_rfl⟩
  offs := fun j off h => by simp [i207] at h
  pl := fun h => absurd rfl h
theorem o208 : TOk Tryz.prog 208 i208 where
  inf := ti208
  zav := ⟨by kernel_rfl, by kernel_rfl, by kernel_rfl, by kernel_rfl⟩
  offs := fun j off h => by simp [i208] at h
  pl := fun h => absurd rfl h
theorem o209 : TOk Tryz.prog 209 i209 where
  inf := ti209
  zav := ⟨by kernel_rfl, by kernel_rfl, by kernel_rfl, by kernel_rfl⟩
  offs := fun j off h => by simp [i209] at h
  pl := fun h => absurd rfl h
theorem o210 : TOk Tryz.prog 210 i210 where
  inf := ti210
  zav := ⟨by kernel_rfl, by kernel_rfl, by kernel_rfl, by kernel_rfl⟩
  offs := fun j off h => by simp [i210] at h
  pl := fun h => absurd rfl h
theorem o211 : TOk Tryz.prog 211 i211 where
  inf := ti211
  zav := ⟨by kernel_rfl, by kernel_rfl, by kernel_rfl, by kernel_rfl⟩
  offs := fun j off h => by simp [i211] at h
  pl := fun h => absurd rfl h
theorem o212 : TOk Tryz.prog 212 i212 where
  inf := ti212
  zav := ⟨by kernel_rfl, by kernel_rfl, by kernel_rfl, by kernel_rfl⟩
  offs := fun j off h => by simp [i212] at h
  pl := fun h => absurd rfl h
theorem o213 : TOk Tryz.prog 213 i213 where
  inf := ti213
  zav := ⟨by kernel_rfl, by kernel_rfl, by kernel_rfl, by kernel_rfl⟩
  offs := fun j off h => by simp [i213] at h
  pl := fun h => absurd rfl h
theorem o214 : TOk Tryz.prog 214 i214 where
  inf := ti214
  zav := ⟨by kernel_rfl, by kernel_rfl, by kernel_rfl, by kernel_rfl⟩
  offs := fun j off h => by simp [i214] at h
  pl := fun h => absurd rfl h
theorem o215 : TOk Tryz.prog 215 i215 where
  inf := ti215
  zav := ⟨by kernel_rfl, by kernel_rfl, by kernel_rfl, by kernel_rfl⟩
  offs := fun j off h => by simp [i215] at h
  pl := fun h => absurd rfl h
theorem o216 : TOk Tryz.prog 216 i216 where
  inf := ti216
  zav := ⟨by kernel_rfl, by kernel_rfl, by kernel_rfl, by kernel_rfl⟩
  offs := fun j off h => by simp [i216] at h
  pl := fun h => absurd rfl h
theorem o217 : TOk Tryz.prog 217 i217 where
  inf := ti217
  zav := ⟨by kernel_rfl, by kernel_rfl, by kernel_rfl, by kernel_rfl⟩
  offs := fun j off h => by simp [i217] at h
  pl := fun h => absurd rfl h
theorem o218 : TOk Tryz.prog 218 i218 where
  inf := ti218
  zav := ⟨by kernel_rfl, by kernel_rfl, by kernel_rfl, by kernel_rfl⟩
  offs := fun j off h => by simp [i218] at h
  pl := fun h => absurd rfl h
theorem o219 : TOk Tryz.prog 219 i219 where
  inf := ti219
  zav := ⟨by kernel_rfl, by kernel_rfl, by kernel_rfl, by kernel_rfl⟩
  offs := fun j off h => by simp [i219] at h
  pl := fun h => absurd rfl h
theorem o220 : TOk Tryz.prog 220 i220 where
  inf := ti220
  zav := ⟨by kernel_rfl, by kernel_rfl, by kernel_rfl, by kernel_rfl⟩
  offs := fun j off h => by simp [i220] at h
  pl := fun h => absurd rfl h
theorem o221 : TOk Tryz.prog 221 i221 where
  inf := ti221
  zav := ⟨by kernel_rfl, by kernel_rfl, by kernel_rfl, by kernel_rfl⟩
  offs := fun j off h => by simp [i221] at h
  pl := fun h => absurd rfl h
theorem o222 : TOk Tryz.prog 222 i222 where
  inf := ti222
  zav := ⟨by kernel_rfl, by kernel_rfl, by kernel_rfl, by kernel_rfl⟩
  offs := fun j off h => by simp [i222] at h
  pl := fun h => absurd rfl h
theorem o223 : TOk Tryz.prog 223 i223 where
  inf := ti223
  zav := ⟨by kernel_rfl, by kernel_rfl, by kernel_rfl, by kernel_rfl⟩
  offs := fun j off h => by simp [i223] at h
  pl := fun h => absurd rfl h
theorem o224 : TOk Tryz.prog 224 i224 where
  inf := ti224
  zav := ⟨by kernel_rfl, by kernel_rfl, by kernel_rfl, by kernel_rfl⟩
  offs := fun j off h => by simp [i224] at h
  pl := fun h => absurd rfl h
theorem o225 : TOk Tryz.prog 225 i225 where
  inf := ti225
  zav := ⟨by kernel_rfl, by kernel_rfl, by kernel_rfl, by kernel_rfl⟩
  offs := fun j off h => by simp [i225] at h
  pl := fun h => absurd rfl h
theorem o226 : TOk Tryz.prog 226 i226 where
  inf := ti226
  zav := ⟨by kernel_rfl, by kernel_rfl, by kernel_rfl, by kernel_rfl⟩
  offs := fun j off h => by simp [i226] at h
  pl := fun h => absurd rfl h
theorem o227 : TOk Tryz.prog 227 i227 where
  inf := ti227
  zav := ⟨by kernel_rfl, by kernel_rfl, by kernel_rfl, by kernel_rfl⟩
  offs := fun j off h => by simp [i227] at h
  pl := fun h => absurd rfl h
theorem o228 : TOk Tryz.prog 228 i228 where
  inf := ti228
  zav := ⟨by kernel_rfl, by kernel_rfl, by kernel_rfl, by kernel_rfl⟩
  offs := fun j off h => by simp [i228] at h
  pl := fun h => absurd rfl h
theorem o229 : TOk Tryz.prog 229 i229 where
  inf := ti229
  zav := ⟨by kernel_rfl, by kernel_rfl, by kernel_rfl, by kernel_rfl⟩
  offs := fun j off h => by simp [i229] at h
  pl := fun h => absurd rfl h
theorem o230 : TOk Tryz.prog 230 i230 where
  inf := ti230
  zav := ⟨by kernel_rfl, by kernel_rfl, by kernel_rfl, by kernel_rfl⟩
  offs := fun j off h => by simp [i230] at h
  pl := fun h => absurd rfl h
theorem o231 : TOk Tryz.prog 231 i231 where
  inf := ti231
  zav := ⟨by kernel_rfl, by kernel_rfl, by kernel_rfl, by kernel_rfl⟩
  offs := fun j off h => by simp [i231] at h
  pl := fun h => absurd rfl h
theorem o232 : TOk Tryz.prog 232 i232 where
  inf := ti232
  zav := ⟨by kernel_rfl, by kernel_rfl, by kernel_rfl, by kernel_rfl⟩
  offs := fun j off h => by simp [i232] at h
  pl := fun h => absurd rfl h
theorem o233 : TOk Tryz.prog 233 i233 where
  inf := ti233
  zav := ⟨by kernel_rfl, by kernel_rfl, by kernel_rfl, by kernel_rfl⟩
  offs := fun j off h => by simp [i233] at h
  pl := fun h => absurd rfl h
theorem o234 : TOk Tryz.prog 234 i234 where
  inf := ti234
  zav := ⟨by kernel_rfl, by kernel_rfl, by kernel_rfl, by kernel_rfl⟩
  offs := fun j off h => by simp [i234] at h
  pl := fun h => absurd rfl h
theorem o235 : TOk Tryz.prog 235 i235 where
  inf := ti235
  zav := ⟨by kernel_rfl, by kernel_rfl, by kernel_rfl, by kernel_rfl⟩
  offs := fun j off h => by simp [i235] at h
  pl := fun h => absurd rfl h
theorem o236 : TOk Tryz.prog 236 i236 where
  inf := ti236
  zav := ⟨by kernel_rfl, by kernel_rfl, by kernel_rfl, by kernel_rfl⟩
  offs := fun j off h => by simp [i236] at h
  pl := fun h => absurd rfl h
theorem o237 : TOk Tryz.prog 237 i237 where
  inf := ti237
  zav := ⟨by kernel_rfl, by kernel_rfl, by kernel_rfl, by kernel_rfl⟩
  offs := fun j off h => by simp [i237] at h
  pl := fun h => absurd rfl h
theorem o238 : TOk Tryz.prog 238 i238 where
  inf := ti238
  zav := ⟨by kernel_rfl, by kernel_rfl, by kernel_rfl, by kernel_rfl⟩
  offs := fun j off h => by simp [i238] at h
  pl := fun h => absurd rfl h
theorem o239 : TOk Tryz.prog 239 i239 where
  inf := ti239
  zav := ⟨by kernel_rfl, by kernel_rfl, by kernel_rfl, by kernel_rfl⟩
  offs := fun j off h => by simp [i239] at h
  pl := fun h => absurd rfl h
theorem o240 : TOk Tryz.prog 240 i240 where
  inf := ti240
  zav := ⟨by kernel_rfl, by kernel_rfl, by kernel_rfl, by kernel_rfl⟩
  offs := fun j off h => by simp [i240] at h
  pl := fun h => absurd rfl h
theorem o241 : TOk Tryz.prog 241 i241 where
  inf := ti241
  zav := ⟨by kernel_rfl, by kernel_rfl, by kernel_rfl, by kernel_rfl⟩
  offs := fun j off h => by simp [i241] at h
  pl := fun h => absurd rfl h
theorem o242 : TOk Tryz.prog 242 i242 where
  inf := ti242
  zav := ⟨by kernel_rfl, by kernel_rfl, by kernel_rfl, by kernel_rfl⟩
  offs := fun j off h => by simp [i242] at h
  pl := fun h => absurd rfl h
theorem o243 : TOk Tryz.prog 243 i243 where
  inf := ti243
  zav := ⟨by kernel_rfl, by kernel_rfl, by kernel_rfl, by kernel_rfl⟩
  offs := fun j off h => by simp [i243] at h
  pl := fun h => absurd rfl h
theorem o244 : TOk Tryz.prog 244 i244 where
  inf := ti244
  zav := ⟨by kernel_rfl, by kernel_rfl, by kernel_rfl, by kernel_rfl⟩
  offs := fun j off h => by simp [i244] at h
  pl := fun h => absurd rfl h
theorem o245 : TOk Tryz.prog 245 i245 where
  inf := ti245
  zav := ⟨by kernel_rfl, by kernel_rfl, by kernel_rfl, by kernel_rfl⟩
  offs := fun j off h => by simp [i245] at h
  pl := fun h => absurd rfl h
theorem o246 : TOk Tryz.prog 246 i246 where
  inf := ti246
  zav := ⟨by kernel_rfl, by kernel_rfl, by kernel_rfl, by kernel_rfl⟩
  offs := fun j off h => by simp [i246] at h
  pl := fun h => absurd rfl h
theorem o247 : TOk Tryz.prog 247 i247 where
  inf := ti247
  zav := ⟨by kernel_rfl, by kernel_rfl, by kernel_rfl, by kernel_rfl⟩
  offs := fun j off h => by simp [i247] at h
  pl := fun h => absurd rfl h
theorem o248 : TOk Tryz.prog 248 i248 where
  inf := ti248
  zav := ⟨by kernel_rfl, by kernel_rfl, by kernel_rfl, by kernel_rfl⟩
  offs := fun j off h => match j, h with
    | 0, h => by cases h; exact ⟨_, _, _, _, _, _, rfl, rfl, rfl, ti17, rfl⟩
    | 1, h => by cases h; exact ⟨_, _, _, _, _, _, rfl, rfl, rfl, ti17, rfl⟩
    | 2, h => by cases h; exact ⟨_, _, _, _, _, _, rfl, rfl, rfl, ti17, rfl⟩
    | 3, h => by cases h; exact ⟨_, _, _, _, _, _, rfl, rfl, rfl, ti9, rfl⟩
    | _ + 4, h => by simp [i248] at h
  pl := fun _ => ⟨_, rfl, fun w => by kernel_rfl⟩
theorem o249 : TOk Tryz.prog 249 i249 where
  inf := ti249
  zav := ⟨by kernel_rfl, by kernel_rfl, by kernel_rfl, by kernel_rfl⟩
  offs := fun j off h => match j, h with
    | 0, h => by cases h; exact ⟨_, _, _, _, _, _, rfl, rfl, rfl, ti17, rfl⟩
    | 1, h => by cases h; exact ⟨_, _, _, _, _, _, rfl, rfl, rfl, ti17, rfl⟩
    | 2, h => by cases h; exact ⟨_, _, _, _, _, _, rfl, rfl, rfl, ti17, rfl⟩
    | 3, h => by cases h; exact ⟨_, _, _, _, _, _, rfl, rfl, rfl, ti9, rfl⟩
    | _ + 4, h => by simp [i249] at h
  pl := fun _ => ⟨_, rfl, fun w => by kernel_rfl⟩
theorem o250 : TOk Tryz.prog 250 i250 where
  inf := ti250
  zav := ⟨by kernel_rfl, by kernel_rfl, by kernel_rfl, by kernel_rfl⟩
  offs := fun j off h => by simp [i250] at h
  pl := fun h => absurd rfl h
theorem o251 : TOk Tryz.prog 251 i251 where
  inf := ti251
  zav := ⟨by kernel_rfl, by kernel_rfl, by kernel_rfl, by kernel_rfl⟩
  offs := fun j off h => by simp [i251] at h
  pl := fun _ => ⟨_, rfl, fun w => by kernel_rfl⟩
theorem o252 : TOk Tryz.prog 252 i252 where
  inf := ti252
  zav := ⟨by kernel_rfl, by kernel_rfl, by kernel_rfl, by kernel_rfl⟩
  offs := fun j off h => by simp [i252] at h
  pl := fun _ => ⟨_, rfl, fun w => by kernel_rfl⟩
theorem o253 : TOk Tryz.prog 253 i253 where
  inf := ti253
  zav := ⟨by kernel_rfl, by kernel_rfl, by kernel_rfl, by kernel_rfl⟩
  offs := fun j off h => by simp [i253] at h
  pl := fun h => absurd rfl h
theorem o254 : TOk Tryz.prog 254 i254 where
  inf := ti254
  zav := ⟨by kernel_rfl, by kernel_rfl, by kernel_rfl, by kernel_rfl⟩
  offs := fun j off h => by simp [i254] at h
  pl := fun h => absurd rfl h
theorem o255 : TOk Tryz.prog 255 i255 where
  inf := ti255
  zav := ⟨by kernel_rfl, by kernel_rfl, by kernel_rfl, by kernel_rfl⟩
  offs := fun j off h => by simp [i255] at h
  pl := fun h => absurd rfl h
theorem o256 : TOk Tryz.prog 256 i256 where
  inf := ti256
  zav := ⟨by kernel_rfl, by kernel_rfl, by kernel_rfl, by kernel_rfl⟩
  offs := fun j off h => by simp [i256] at h
  pl := fun h => absurd rfl h
theorem o257 : TOk Tryz.prog 257 i257 where
  inf := ti257
  zav := ⟨by kernel_rfl, by kernel_rfl, by kernel_rfl, by kernel_rfl⟩
  offs := fun j off h => by simp [i257] at h
  pl := fun h => absurd rfl h
theorem o258 : TOk Tryz.prog 258 i258 where
  inf := ti258
  zav := ⟨by kernel_rfl, by kernel_rfl, by kernel_rfl, by kernel_rfl⟩
  offs := fun j off h => by simp [i258] at h
  pl := fun h => absurd rfl h
theorem o259 : TOk Tryz.prog 259 i259 where
  inf := ti259
  zav := ⟨by kernel_rfl, by kernel_rfl, by kernel_rfl, by kernel_rfl⟩
  offs := fun j off h => by simp [i259] at h
  pl := fun h => absurd rfl h
theorem o260 : TOk Tryz.prog 260 i260 where
  inf := ti260
  zav := ⟨by kernel_rfl, by kernel_rfl, by kernel_rfl, by kernel_rfl⟩
  offs := fun j off h => match j, h with
    | 0, h => by cases h; exact ⟨_, _, _, _, _, _, rfl, rfl, rfl, ti12, rfl⟩
    | 1, h => by cases h; exact ⟨_, _, _, _, _, _, rfl, rfl, rfl, ti12, rfl⟩
    | 2, h => by cases h; exact ⟨_, _, _, _, _, _, rfl, rfl, rfl, ti253, rfl⟩
    | 3, h => by cases h; exact ⟨_, _, _, _, _, _, rfl, rfl, rfl, ti254, rfl⟩
    | 4, h => by cases h; exact ⟨_, _, _, _, _, _, rfl, rfl, rfl, ti5, rfl⟩
    | 5, h => by cases h; exact ⟨_, _, _, _, _, _, rfl, rfl, rfl, ti5, rfl⟩
    | 6, h => by cases h; exact ⟨_, _, _, _, _, _, rfl, rfl, rfl, ti255, rfl⟩
    | 7, h => by cases h; exact ⟨_, _, _, _, _, _, rfl, rfl, rfl, ti256, rfl⟩
    | 8, h => by cases h; exact ⟨_, _, _, _, _, _, rfl, rfl, rfl, ti257, rfl⟩
    | 9, h => by cases h; exact ⟨_, _, _, _, _, _, rfl, rfl, rfl, ti258, rfl⟩
    | 10, h => by cases h; exact ⟨_, _, _, _, _, _, rfl, rfl, rfl, ti259, rfl⟩
    | _ + 11, h => by simp [i260] at h
  pl := fun _ => ⟨_, rfl, fun w => by kernel_rfl⟩
theorem o261 : TOk Tryz.prog 261 i261 where
  inf := ti261
  zav := ⟨by kernel_rfl, by kernel_rfl, by kernel_rfl, by kernel_rfl⟩
  offs := fun j off h => match j, h with
    | 0, h => by cases h; exact ⟨_, _, _, _, _, _, rfl, rfl, rfl, ti12, rfl⟩
    | 1, h => by cases h; exact ⟨_, _, _, _, _, _, rfl, rfl, rfl, ti12, rfl⟩
    | 2, h => by cases h; exact ⟨_, _, _, _, _, _, rfl, rfl, rfl, ti253, rfl⟩
    | 3, h => by cases h; exact ⟨_, _, _, _, _, _, rfl, rfl, rfl, ti254, rfl⟩
    | 4, h => by cases h; exact ⟨_, _, _, _, _, _, rfl, rfl, rfl, ti5, rfl⟩
    | 5, h => by cases h; exact ⟨_, _, _, _, _, _, rfl, rfl, rfl, ti5, rfl⟩
    | 6, h => by cases h; exact ⟨_, _, _, _, _, _, rfl, rfl, rfl, ti255, rfl⟩
    | 7, h => by cases h; exact ⟨_, _, _, _, _, _, rfl, rfl, rfl, ti256, rfl⟩
    | 8, h => by cases h; exact ⟨_, _, _, _, _, _, rfl, rfl, rfl, ti257, rfl⟩
    | 9, h => by cases h; exact ⟨_, _, _, _, _, _, rfl, rfl, rfl, ti258, rfl⟩
    | 10, h => by cases h; exact ⟨_, _, _, _, _, _, rfl, rfl, rfl, ti259, rfl⟩
    | _ + 11, h => by simp [i261] at h
  pl := fun _ => ⟨_, rfl, fun w => by kernel_rfl⟩
theorem o262 : TOk Tryz.prog 262 i262 where
  inf := ti262
  zav := ⟨by kernel_rfl, by kernel_rfl, by kernel_rfl, by kernel_rfl⟩
  offs := fun j off h => by simp [i262] at h
  pl := fun h => absurd rfl h
theorem o263 : TOk Tryz.prog 263 i263 where
  inf := ti263
  zav := ⟨by kernel_rfl, by kernel_rfl, by kernel_rfl, by kernel_rfl⟩
  offs := fun j off h => by simp [i263] at h
  pl := fun h => absurd rfl h
theorem o264 : TOk Tryz.prog 264 i264 where
  inf := ti264
  zav := ⟨by kernel_rfl, by kernel_rfl, by kernel_rfl, by kernel_rfl⟩
  offs := fun j off h => by simp [i264] at h
  pl := fun h => absurd rfl h
noncomputable def tt : TT := (.node 140 i140 (.node 67 i67 (.node 32 i32 (.node 16 i16 (.node 8 i8 (.node 4 i4 (.node 2 i2 (.node 1 i1 .leaf .leaf) (.node 3 i3 .leaf .leaf)) (.node 6 i6 (.node 5 i5 .leaf .leaf) (.node 7 i7 .leaf .leaf))) (.node 12 i12 (.node 10 i10 (.node 9 i9 .leaf .leaf) (.node 11 i11 .leaf .leaf)) (.node 14 i14 (.node 13 i13 .leaf .leaf) (.node 15 i15 .leaf .leaf)))) (.node 25 i25 (.node 21 i21 (.node 18 i18 (.node 17 i17 .leaf .leaf) (.node 19 i19 .leaf .leaf)) (.node 23 i23 (.node 22 i22 .leaf .leaf) (.node 24 i24 .leaf .leaf))) (.node 29 i29 (.node 27 i27 (.node 26 i26 .leaf .leaf) (.node 28 i28 .leaf .leaf)) (.node 31 i31 (.node 30 i30 .leaf .leaf) .leaf)))) (.node 50 i50 (.node 41 i41 (.node 36 i36 (.node 34 i34 (.node 33 i33 .leaf .leaf) (.node 35 i35 .leaf .leaf)) (.node 38 i38 (.node 37 i37 .leaf .leaf) (.node 39 i39 .leaf .leaf))) (.node 47 i47 (.node 44 i44 (.node 42 i42 .leaf .leaf) (.node 45 i45 .leaf .leaf)) (.node 49 i49 (.node 48 i48 .leaf .leaf) .leaf))) (.node 59 i59 (.node 55 i55 (.node 52 i52 (.node 51 i51 .leaf .leaf) (.node 53 i53 .leaf .leaf)) (.node 57 i57 (.node 56 i56 .leaf .leaf) (.node 58 i58 .leaf .leaf))) (.node 64 i64 (.node 61 i61 (.node 60 i60 .leaf .leaf) (.node 63 i63 .leaf .leaf)) (.node 66 i66 (.node 65 i65 .leaf .leaf) .leaf))))) (.node 103 i103 (.node 87 i87 (.node 77 i77 (.node 71 i71 (.node 69 i69 (.node 68 i68 .leaf .leaf) (.node 70 i70 .leaf .leaf)) (.node 75 i75 (.node 73 i73 .leaf .leaf) (.node 76 i76 .leaf .leaf))) (.node 82 i82 (.node 80 i80 (.node 78 i78 .leaf .leaf) (.node 81 i81 .leaf .leaf)) (.node 86 i86 (.node 84 i84 .leaf .leaf) .leaf))) (.node 96 i96 (.node 92 i92 (.node 90 i90 (.node 89 i89 .leaf .leaf) (.node 91 i91 .leaf .leaf)) (.node 94 i94 (.node 93 i93 .leaf .leaf) (.node 95 i95 .leaf .leaf))) (.node 100 i100 (.node 98 i98 (.node 97 i97 .leaf .leaf) (.node 99 i99 .leaf .leaf)) (.node 102 i102 (.node 101 i101 .leaf .leaf) .leaf)))) (.node 123 i123 (.node 114 i114 (.node 107 i107 (.node 105 i105 (.node 104 i104 .leaf .leaf) (.node 106 i106 .leaf .leaf)) (.node 110 i110 (.node 108 i108 .leaf .leaf) (.node 112 i112 .leaf .leaf))) (.node 120 i120 (.node 118 i118 (.node 116 i116 .leaf .leaf) (.node 119 i119 .leaf .leaf)) (.node 122 i122 (.node 121 i121 .leaf .leaf) .leaf))) (.node 132 i132 (.node 127 i127 (.node 125 i125 (.node 124 i124 .leaf .leaf) (.node 126 i126 .leaf .leaf)) (.node 130 i130 (.node 128 i128 .leaf .leaf) (.node 131 i131 .leaf .leaf))) (.node 137 i137 (.node 134 i134 (.node 133 i133 .leaf .leaf) (.node 136 i136 .leaf .leaf)) (.node 139 i139 (.node 138 i138 .leaf .leaf) .leaf)))))) (.node 205 i205 (.node 174 i174 (.node 158 i158 (.node 150 i150 (.node 146 i146 (.node 143 i143 (.node 141 i141 .leaf .leaf) (.node 145 i145 .leaf .leaf)) (.node 148 i148 (.node 147 i147 .leaf .leaf) (.node 149 i149 .leaf .leaf))) (.node 154 i154 (.node 152 i152 (.node 151 i151 .leaf .leaf) (.node 153 i153 .leaf .leaf)) (.node 156 i156 (.node 155 i155 .leaf .leaf) (.node 157 i157 .leaf .leaf)))) (.node 166 i166 (.node 162 i162 (.node 160 i160 (.node 159 i159 .leaf .leaf) (.node 161 i161 .leaf .leaf)) (.node 164 i164 (.node 163 i163 .leaf .leaf) (.node 165 i165 .leaf .leaf))) (.node 171 i171 (.node 168 i168 (.node 167 i167 .leaf .leaf) (.node 169 i169 .leaf .leaf)) (.node 173 i173 (.node 172 i172 .leaf .leaf) .leaf)))) (.node 190 i190 (.node 182 i182 (.node 178 i178 (.node 176 i176 (.node 175 i175 .leaf .leaf) (.node 177 i177 .leaf .leaf)) (.node 180 i180 (.node 179 i179 .leaf .leaf) (.node 181 i181 .leaf .leaf))) (.node 186 i186 (.node 184 i184 (.node 183 i183 .leaf .leaf) (.node 185 i185 .leaf .leaf)) (.node 188 i188 (.node 187 i187 .leaf .leaf) .leaf))) (.node 198 i198 (.node 194 i194 (.node 192 i192 (.node 191 i191 .leaf .leaf) (.node 193 i193 .leaf .leaf)) (.node 196 i196 (.node 195 i195 .leaf .leaf) (.node 197 i197 .leaf .leaf))) (.node 202 i202 (.node 200 i200 (.node 199 i199 .leaf .leaf) (.node 201 i201 .leaf .leaf)) (.node 204 i204 (.node 203 i203 .leaf .leaf) .leaf))))) (.node 235 i235 (.node 220 i220 (.node 213 i213 (.node 209 i209 (.node 207 i207 (.node 206 i206 .leaf .leaf) (.node 208 i208 .leaf .leaf)) (.node 211 i211 (.node 210 i210 .leaf .leaf) (.node 212 i212 .leaf .leaf))) (.node 217 i217 (.node 215 i215 (.node 214 i214 .leaf .leaf) (.node 216 i216 .leaf .leaf)) (.node 219 i219 (.node 218 i218 .leaf .leaf) .leaf))) (.node 228 i228 (.node 224 i224 (.node 222 i222 (.node 221 i221 .leaf .leaf) (.node 223 i223 .leaf .leaf)) (.node 226 i226 (.node 225 i225 .leaf .leaf) (.node 227 i227 .leaf .leaf))) (.node 232 i232 (.node 230 i230 (.node 229 i229 .leaf .leaf) (.node 231 i231 .leaf .leaf)) (.node 234 i234 (.node 233 i233 .leaf .leaf) .leaf)))) (.node 250 i250 (.node 243 i243 (.node 239 i239 (.node 237 i237 (.node 236 i236 .leaf .leaf) (.node 238 i238 .leaf .leaf)) (.node 241 i241 (.node 240 i240 .leaf .leaf) (.node 242 i242 .leaf .leaf))) (.node 247 i247 (.node 245 i245 (.node 244 i244 .leaf .leaf) (.node 246 i246 .leaf .leaf)) (.node 249 i249 (.node 248 i248 .leaf .leaf) .leaf))) (.node 258 i258 (.node 254 i254 (.node 252 i252 (.node 251 i251 .leaf .leaf) (.node 253 i253 .leaf .leaf)) (.node 256 i256 (.node 255 i255 .leaf .leaf) (.node 257 i257 .leaf .leaf))) (.node 262 i262 (.node 260 i260 (.node 259 i259 .leaf .leaf) (.node 261 i261 .leaf .leaf)) (.node 264 i264 (.node 263 i263 .leaf .leaf) .leaf)))))))
theorem ttok : TT.All Tryz.prog tt := (.node o140 (.node o67 (.node o32 (.node o16 (.node o8 (.node o4 (.node o2 (.node o1 .leaf .leaf) (.node o3 .leaf .leaf)) (.node o6 (.node o5 .leaf .leaf) (.node o7 .leaf .leaf))) (.node o12 (.node o10 (.node o9 .leaf .leaf) (.node o11 .leaf .leaf)) (.node o14 (.node o13 .leaf .leaf) (.node o15 .leaf .leaf)))) (.node o25 (.node o21 (.node o18 (.node o17 .leaf .leaf) (.node o19 .leaf .leaf)) (.node o23 (.node o22 .leaf .leaf) (.node o24 .leaf .leaf))) (.node o29 (.node o27 (.node o26 .leaf .leaf) (.node o28 .leaf .leaf)) (.node o31 (.node o30 .leaf .leaf) .leaf)))) (.node o50 (.node o41 (.node o36 (.node o34 (.node o33 .leaf .leaf) (.node o35 .leaf .leaf)) (.node o38 (.node o37 .leaf .leaf) (.node o39 .leaf .leaf))) (.node o47 (.node o44 (.node o42 .leaf .leaf) (.node o45 .leaf .leaf)) (.node o49 (.node o48 .leaf .leaf) .leaf))) (.node o59 (.node o55 (.node o52 (.node o51 .leaf .leaf) (.node o53 .leaf .leaf)) (.node o57 (.node o56 .leaf .leaf) (.node o58 .leaf .leaf))) (.node o64 (.node o61 (.node o60 .leaf .leaf) (.node o63 .leaf .leaf)) (.node o66 (.node o65 .leaf .leaf) .leaf))))) (.node o103 (.node o87 (.node o77 (.node o71 (.node o69 (.node o68 .leaf .leaf) (.node o70 .leaf .leaf)) (.node o75 (.node o73 .leaf .leaf) (.node o76 .leaf .leaf))) (.node o82 (.node o80 (.node o78 .leaf .leaf) (.node o81 .leaf .leaf)) (.node o86 (.node o84 .leaf .leaf) .leaf))) (.node o96 (.node o92 (.node o90 (.node o89 .leaf .leaf) (.node o91 .leaf .leaf)) (.node o94 (.node o93 .leaf .leaf) (.node o95 .leaf .leaf))) (.node o100 (.node o98 (.node o97 .leaf .leaf) (.node o99 .leaf .leaf)) (.node o102 (.node o101 .leaf .leaf) .leaf)))) (.node o123 (.node o114 (.node o107 (.node o105 (.node o104 .leaf .leaf) (.node o106 .leaf .leaf)) (.node o110 (.node o108 .leaf .leaf) (.node o112 .leaf .leaf))) (.node o120 (.node o118 (.node o116 .leaf .leaf) (.node o119 .leaf .leaf)) (.node o122 (.node o121 .leaf .leaf) .leaf))) (.node o132 (.node o127 (.node o125 (.node o124 .leaf .leaf) (.node o126 .leaf .leaf)) (.node o130 (.node o128 .leaf .leaf) (.node o131 .leaf .leaf))) (.node o137 (.node o134 (.node o133 .leaf .leaf) (.node o136 .leaf .leaf)) (.node o139 (.node o138 .leaf .leaf) .leaf)))))) (.node o205 (.node o174 (.node o158 (.node o150 (.node o146 (.node o143 (.node o141 .leaf .leaf) (.node o145 .leaf .leaf)) (.node o148 (.node o147 .leaf .leaf) (.node o149 .leaf .leaf))) (.node o154 (.node o152 (.node o151 .leaf .leaf) (.node o153 .leaf .leaf)) (.node o156 (.node o155 .leaf .leaf) (.node o157 .leaf .leaf)))) (.node o166 (.node o162 (.node o160 (.node o159 .leaf .leaf) (.node o161 .leaf .leaf)) (.node o164 (.node o163 .leaf .leaf) (.node o165 .leaf .leaf))) (.node o171 (.node o168 (.node o167 .leaf .leaf) (.node o169 .leaf .leaf)) (.node o173 (.node o172 .leaf .leaf) .leaf)))) (.node o190 (.node o182 (.node o178 (.node o176 (.node o175 .leaf .leaf) (.node o177 .leaf .leaf)) (.node o180 (.node o179 .leaf .leaf) (.node o181 .leaf .leaf))) (.node o186 (.node o184 (.node o183 .leaf .leaf) (.node o185 .leaf .leaf)) (.node o188 (.node o187 .leaf .leaf) .leaf))) (.node o198 (.node o194 (.node o192 (.node o191 .leaf .leaf) (.node o193 .leaf .leaf)) (.node o196 (.node o195 .leaf .leaf) (.node o197 .leaf .leaf))) (.node o202 (.node o200 (.node o199 .leaf .leaf) (.node o201 .leaf .leaf)) (.node o204 (.node o203 .leaf .leaf) .leaf))))) (.node o235 (.node o220 (.node o213 (.node o209 (.node o207 (.node o206 .leaf .leaf) (.node o208 .leaf .leaf)) (.node o211 (.node o210 .leaf .leaf) (.node o212 .leaf .leaf))) (.node o217 (.node o215 (.node o214 .leaf .leaf) (.node o216 .leaf .leaf)) (.node o219 (.node o218 .leaf .leaf) .leaf))) (.node o228 (.node o224 (.node o222 (.node o221 .leaf .leaf) (.node o223 .leaf .leaf)) (.node o226 (.node o225 .leaf .leaf) (.node o227 .leaf .leaf))) (.node o232 (.node o230 (.node o229 .leaf .leaf) (.node o231 .leaf .leaf)) (.node o234 (.node o233 .leaf .leaf) .leaf)))) (.node o250 (.node o243 (.node o239 (.node o237 (.node o236 .leaf .leaf) (.node o238 .leaf .leaf)) (.node o241 (.node o240 .leaf .leaf) (.node o242 .leaf .leaf))) (.node o247 (.node o245 (.node o244 .leaf .leaf) (.node o246 .leaf .leaf)) (.node o249 (.node o248 .leaf .leaf) .leaf))) (.node o258 (.node o254 (.node o252 (.node o251 .leaf .leaf) (.node o253 .leaf .leaf)) (.node o256 (.node o255 .leaf .leaf) (.node o257 .leaf .leaf))) (.node o262 (.node o260 (.node o259 .leaf .leaf) (.node o261 .leaf .leaf)) (.node o264 (.node o263 .leaf .leaf) .leaf)))))))
theorem mix : Tryz.prog.follows .mixedOrders = true := by kernel_rfl
noncomputable def cx : Cx := ⟨Tryz.prog, tt.get, fun t i h => ttok.get t i h, mix⟩
theorem en3 : Enters Tryz.prog 3 := enters Tryz.func3 rfl (by decide)
theorem en4 : Enters Tryz.prog 4 := enters Tryz.func4 rfl (by decide)
theorem en5 : Enters Tryz.prog 5 := enters Tryz.func5 rfl (by decide)
theorem en6 : Enters Tryz.prog 6 := enters Tryz.func6 rfl (by decide)
theorem en7 : Enters Tryz.prog 7 := enters Tryz.func7 rfl (by decide)
theorem en8 : Enters Tryz.prog 8 := enters Tryz.func8 rfl (by decide)
theorem en9 : Enters Tryz.prog 9 := enters Tryz.func9 rfl (by decide)
theorem en10 : Enters Tryz.prog 10 := enters Tryz.func10 rfl (by decide)
theorem en11 : Enters Tryz.prog 11 := enters Tryz.func11 rfl (by decide)
theorem en12 : Enters Tryz.prog 12 := enters Tryz.func12 rfl (by decide)
theorem en13 : Enters Tryz.prog 13 := enters Tryz.func13 rfl (by decide)
theorem en14 : Enters Tryz.prog 14 := enters Tryz.func14 rfl (by decide)
theorem en15 : Enters Tryz.prog 15 := enters Tryz.func15 rfl (by decide)
theorem en16 : Enters Tryz.prog 16 := enters Tryz.func16 rfl (by decide)
theorem en17 : Enters Tryz.prog 17 := enters Tryz.func17 rfl (by decide)
theorem en18 : Enters Tryz.prog 18 := enters Tryz.func18 rfl (by decide)
theorem en19 : Enters Tryz.prog 19 := enters Tryz.func19 rfl (by decide)
theorem en20 : Enters Tryz.prog 20 := enters Tryz.func20 rfl (by decide)
theorem en21 : Enters Tryz.prog 21 := enters Tryz.func21 rfl (by decide)
theorem en22 : Enters Tryz.prog 22 := enters Tryz.func22 rfl (by decide)
theorem en23 : Enters Tryz.prog 23 := enters Tryz.func23 rfl (by decide)
theorem en24 : Enters Tryz.prog 24 := enters Tryz.func24 rfl (by decide)
theorem en25 : Enters Tryz.prog 25 := enters Tryz.func25 rfl (by decide)
theorem en26 : Enters Tryz.prog 26 := enters Tryz.func26 rfl (by decide)
theorem en27 : Enters Tryz.prog 27 := enters Tryz.func27 rfl (by decide)
theorem en28 : Enters Tryz.prog 28 := enters Tryz.func28 rfl (by decide)
theorem en29 : Enters Tryz.prog 29 := enters Tryz.func29 rfl (by decide)
theorem en30 : Enters Tryz.prog 30 := enters Tryz.func30 rfl (by decide)
theorem en31 : Enters Tryz.prog 31 := enters Tryz.func31 rfl (by decide)
theorem en32 : Enters Tryz.prog 32 := enters Tryz.func32 rfl (by decide)
theorem en33 : Enters Tryz.prog 33 := enters Tryz.func33 rfl (by decide)
theorem en34 : Enters Tryz.prog 34 := enters Tryz.func34 rfl (by decide)
theorem en35 : Enters Tryz.prog 35 := enters Tryz.func35 rfl (by decide)
theorem en36 : Enters Tryz.prog 36 := enters Tryz.func36 rfl (by decide)
theorem en37 : Enters Tryz.prog 37 := enters Tryz.func37 rfl (by decide)
theorem en38 : Enters Tryz.prog 38 := enters Tryz.func38 rfl (by decide)
theorem en39 : Enters Tryz.prog 39 := enters Tryz.func39 rfl (by decide)
theorem en40 : Enters Tryz.prog 40 := enters Tryz.func40 rfl (by decide)
theorem en41 : Enters Tryz.prog 41 := enters Tryz.func41 rfl (by decide)
theorem en42 : Enters Tryz.prog 42 := enters Tryz.func42 rfl (by decide)
theorem en43 : Enters Tryz.prog 43 := enters Tryz.func43 rfl (by decide)
theorem en44 : Enters Tryz.prog 44 := enters Tryz.func44 rfl (by decide)
theorem en45 : Enters Tryz.prog 45 := enters Tryz.func45 rfl (by decide)
theorem en46 : Enters Tryz.prog 46 := enters Tryz.func46 rfl (by decide)
theorem en47 : Enters Tryz.prog 47 := enters Tryz.func47 rfl (by decide)
theorem en48 : Enters Tryz.prog 48 := enters Tryz.func48 rfl (by decide)
theorem en49 : Enters Tryz.prog 49 := enters Tryz.func49 rfl (by decide)
theorem en50 : Enters Tryz.prog 50 := enters Tryz.func50 rfl (by decide)
theorem en51 : Enters Tryz.prog 51 := enters Tryz.func51 rfl (by decide)
theorem en52 : Enters Tryz.prog 52 := enters Tryz.func52 rfl (by decide)
theorem en53 : Enters Tryz.prog 53 := enters Tryz.func53 rfl (by decide)
theorem en54 : Enters Tryz.prog 54 := enters Tryz.func54 rfl (by decide)
theorem en55 : Enters Tryz.prog 55 := enters Tryz.func55 rfl (by decide)
theorem en56 : Enters Tryz.prog 56 := enters Tryz.func56 rfl (by decide)
theorem en57 : Enters Tryz.prog 57 := enters Tryz.func57 rfl (by decide)
theorem en58 : Enters Tryz.prog 58 := enters Tryz.func58 rfl (by decide)
theorem en59 : Enters Tryz.prog 59 := enters Tryz.func59 rfl (by decide)
theorem en60 : Enters Tryz.prog 60 := enters Tryz.func60 rfl (by decide)
theorem en61 : Enters Tryz.prog 61 := enters Tryz.func61 rfl (by decide)
theorem en62 : Enters Tryz.prog 62 := enters Tryz.func62 rfl (by decide)
theorem en63 : Enters Tryz.prog 63 := enters Tryz.func63 rfl (by decide)
theorem en64 : Enters Tryz.prog 64 := enters Tryz.func64 rfl (by decide)
theorem en65 : Enters Tryz.prog 65 := enters Tryz.func65 rfl (by decide)
theorem en66 : Enters Tryz.prog 66 := enters Tryz.func66 rfl (by decide)
theorem en67 : Enters Tryz.prog 67 := enters Tryz.func67 rfl (by decide)
theorem en68 : Enters Tryz.prog 68 := enters Tryz.func68 rfl (by decide)
theorem en69 : Enters Tryz.prog 69 := enters Tryz.func69 rfl (by decide)
theorem en70 : Enters Tryz.prog 70 := enters Tryz.func70 rfl (by decide)
theorem en71 : Enters Tryz.prog 71 := enters Tryz.func71 rfl (by decide)
theorem en72 : Enters Tryz.prog 72 := enters Tryz.func72 rfl (by decide)
theorem en73 : Enters Tryz.prog 73 := enters Tryz.func73 rfl (by decide)
theorem en74 : Enters Tryz.prog 74 := enters Tryz.func74 rfl (by decide)
theorem en75 : Enters Tryz.prog 75 := enters Tryz.func75 rfl (by decide)
theorem en76 : Enters Tryz.prog 76 := enters Tryz.func76 rfl (by decide)
theorem en77 : Enters Tryz.prog 77 := enters Tryz.func77 rfl (by decide)
theorem en78 : Enters Tryz.prog 78 := enters Tryz.func78 rfl (by decide)
theorem en79 : Enters Tryz.prog 79 := enters Tryz.func79 rfl (by decide)
theorem en80 : Enters Tryz.prog 80 := enters Tryz.func80 rfl (by decide)
theorem en81 : Enters Tryz.prog 81 := enters Tryz.func81 rfl (by decide)
theorem en82 : Enters Tryz.prog 82 := enters Tryz.func82 rfl (by decide)
theorem en83 : Enters Tryz.prog 83 := enters Tryz.func83 rfl (by decide)
theorem en84 : Enters Tryz.prog 84 := enters Tryz.func84 rfl (by decide)
theorem en85 : Enters Tryz.prog 85 := enters Tryz.func85 rfl (by decide)
theorem en86 : Enters Tryz.prog 86 := enters Tryz.func86 rfl (by decide)
theorem en87 : Enters Tryz.prog 87 := enters Tryz.func87 rfl (by decide)
theorem en88 : Enters Tryz.prog 88 := enters Tryz.func88 rfl (by decide)
theorem en89 : Enters Tryz.prog 89 := enters Tryz.func89 rfl (by decide)
theorem en90 : Enters Tryz.prog 90 := enters Tryz.func90 rfl (by decide)
theorem en91 : Enters Tryz.prog 91 := enters Tryz.func91 rfl (by decide)
theorem en92 : Enters Tryz.prog 92 := enters Tryz.func92 rfl (by decide)
theorem en93 : Enters Tryz.prog 93 := enters Tryz.func93 rfl (by decide)
theorem en94 : Enters Tryz.prog 94 := enters Tryz.func94 rfl (by decide)
theorem en95 : Enters Tryz.prog 95 := enters Tryz.func95 rfl (by decide)
theorem en96 : Enters Tryz.prog 96 := enters Tryz.func96 rfl (by decide)
theorem en97 : Enters Tryz.prog 97 := enters Tryz.func97 rfl (by decide)
theorem en98 : Enters Tryz.prog 98 := enters Tryz.func98 rfl (by decide)
theorem en99 : Enters Tryz.prog 99 := enters Tryz.func99 rfl (by decide)
theorem en100 : Enters Tryz.prog 100 := enters Tryz.func100 rfl (by decide)
theorem en101 : Enters Tryz.prog 101 := enters Tryz.func101 rfl (by decide)
theorem en102 : Enters Tryz.prog 102 := enters Tryz.func102 rfl (by decide)
theorem en103 : Enters Tryz.prog 103 := enters Tryz.func103 rfl (by decide)
theorem en104 : Enters Tryz.prog 104 := enters Tryz.func104 rfl (by decide)
theorem en105 : Enters Tryz.prog 105 := enters Tryz.func105 rfl (by decide)
theorem en106 : Enters Tryz.prog 106 := enters Tryz.func106 rfl (by decide)
theorem en107 : Enters Tryz.prog 107 := enters Tryz.func107 rfl (by decide)
theorem en108 : Enters Tryz.prog 108 := enters Tryz.func108 rfl (by decide)
theorem en109 : Enters Tryz.prog 109 := enters Tryz.func109 rfl (by decide)
theorem en110 : Enters Tryz.prog 110 := enters Tryz.func110 rfl (by decide)
theorem en111 : Enters Tryz.prog 111 := enters Tryz.func111 rfl (by decide)
theorem en112 : Enters Tryz.prog 112 := enters Tryz.func112 rfl (by decide)
theorem en113 : Enters Tryz.prog 113 := enters Tryz.func113 rfl (by decide)
theorem en114 : Enters Tryz.prog 114 := enters Tryz.func114 rfl (by decide)
theorem en115 : Enters Tryz.prog 115 := enters Tryz.func115 rfl (by decide)
theorem en116 : Enters Tryz.prog 116 := enters Tryz.func116 rfl (by decide)
theorem en117 : Enters Tryz.prog 117 := enters Tryz.func117 rfl (by decide)
theorem en118 : Enters Tryz.prog 118 := enters Tryz.func118 rfl (by decide)
theorem en119 : Enters Tryz.prog 119 := enters Tryz.func119 rfl (by decide)
theorem en120 : Enters Tryz.prog 120 := enters Tryz.func120 rfl (by decide)
theorem en121 : Enters Tryz.prog 121 := enters Tryz.func121 rfl (by decide)
theorem en122 : Enters Tryz.prog 122 := enters Tryz.func122 rfl (by decide)
theorem en123 : Enters Tryz.prog 123 := enters Tryz.func123 rfl (by decide)
theorem en124 : Enters Tryz.prog 124 := enters Tryz.func124 rfl (by decide)
theorem en125 : Enters Tryz.prog 125 := enters Tryz.func125 rfl (by decide)
theorem en126 : Enters Tryz.prog 126 := enters Tryz.func126 rfl (by decide)
theorem en127 : Enters Tryz.prog 127 := enters Tryz.func127 rfl (by decide)
theorem en128 : Enters Tryz.prog 128 := enters Tryz.func128 rfl (by decide)
theorem en129 : Enters Tryz.prog 129 := enters Tryz.func129 rfl (by decide)
theorem en130 : Enters Tryz.prog 130 := enters Tryz.func130 rfl (by decide)
theorem en131 : Enters Tryz.prog 131 := enters Tryz.func131 rfl (by decide)
theorem en132 : Enters Tryz.prog 132 := enters Tryz.func132 rfl (by decide)
theorem en133 : Enters Tryz.prog 133 := enters Tryz.func133 rfl (by decide)
theorem en134 : Enters Tryz.prog 134 := enters Tryz.func134 rfl (by decide)
theorem en135 : Enters Tryz.prog 135 := enters Tryz.func135 rfl (by decide)
theorem en136 : Enters Tryz.prog 136 := enters Tryz.func136 rfl (by decide)
theorem en137 : Enters Tryz.prog 137 := enters Tryz.func137 rfl (by decide)
theorem en138 : Enters Tryz.prog 138 := enters Tryz.func138 rfl (by decide)
theorem en139 : Enters Tryz.prog 139 := enters Tryz.func139 rfl (by decide)
theorem en140 : Enters Tryz.prog 140 := enters Tryz.func140 rfl (by decide)
theorem en141 : Enters Tryz.prog 141 := enters Tryz.func141 rfl (by decide)
theorem en142 : Enters Tryz.prog 142 := enters Tryz.func142 rfl (by decide)
theorem en143 : Enters Tryz.prog 143 := enters Tryz.func143 rfl (by decide)
theorem en144 : Enters Tryz.prog 144 := enters Tryz.func144 rfl (by decide)
theorem en145 : Enters Tryz.prog 145 := enters Tryz.func145 rfl (by decide)
theorem en146 : Enters Tryz.prog 146 := enters Tryz.func146 rfl (by decide)
theorem en147 : Enters Tryz.prog 147 := enters Tryz.func147 rfl (by decide)
theorem en148 : Enters Tryz.prog 148 := enters Tryz.func148 rfl (by decide)
theorem en149 : Enters Tryz.prog 149 := enters Tryz.func149 rfl (by decide)
theorem en150 : Enters Tryz.prog 150 := enters Tryz.func150 rfl (by decide)
theorem en151 : Enters Tryz.prog 151 := enters Tryz.func151 rfl (by decide)
theorem en152 : Enters Tryz.prog 152 := enters Tryz.func152 rfl (by decide)
theorem en153 : Enters Tryz.prog 153 := enters Tryz.func153 rfl (by decide)
theorem en154 : Enters Tryz.prog 154 := enters Tryz.func154 rfl (by decide)
theorem en155 : Enters Tryz.prog 155 := enters Tryz.func155 rfl (by decide)
theorem en156 : Enters Tryz.prog 156 := enters Tryz.func156 rfl (by decide)
theorem en157 : Enters Tryz.prog 157 := enters Tryz.func157 rfl (by decide)
theorem en158 : Enters Tryz.prog 158 := enters Tryz.func158 rfl (by decide)
theorem en159 : Enters Tryz.prog 159 := enters Tryz.func159 rfl (by decide)
theorem en160 : Enters Tryz.prog 160 := enters Tryz.func160 rfl (by decide)
theorem en161 : Enters Tryz.prog 161 := enters Tryz.func161 rfl (by decide)
theorem en162 : Enters Tryz.prog 162 := enters Tryz.func162 rfl (by decide)
theorem en163 : Enters Tryz.prog 163 := enters Tryz.func163 rfl (by decide)
theorem en164 : Enters Tryz.prog 164 := enters Tryz.func164 rfl (by decide)
theorem en165 : Enters Tryz.prog 165 := enters Tryz.func165 rfl (by decide)
theorem en166 : Enters Tryz.prog 166 := enters Tryz.func166 rfl (by decide)
theorem en167 : Enters Tryz.prog 167 := enters Tryz.func167 rfl (by decide)
theorem en168 : Enters Tryz.prog 168 := enters Tryz.func168 rfl (by decide)
theorem en169 : Enters Tryz.prog 169 := enters Tryz.func169 rfl (by decide)
theorem en170 : Enters Tryz.prog 170 := enters Tryz.func170 rfl (by decide)
theorem en171 : Enters Tryz.prog 171 := enters Tryz.func171 rfl (by decide)
theorem en172 : Enters Tryz.prog 172 := enters Tryz.func172 rfl (by decide)
theorem en173 : Enters Tryz.prog 173 := enters Tryz.func173 rfl (by decide)
theorem en174 : Enters Tryz.prog 174 := enters Tryz.func174 rfl (by decide)
theorem en175 : Enters Tryz.prog 175 := enters Tryz.func175 rfl (by decide)
theorem en176 : Enters Tryz.prog 176 := enters Tryz.func176 rfl (by decide)
theorem en177 : Enters Tryz.prog 177 := enters Tryz.func177 rfl (by decide)
theorem en178 : Enters Tryz.prog 178 := enters Tryz.func178 rfl (by decide)
theorem en179 : Enters Tryz.prog 179 := enters Tryz.func179 rfl (by decide)
theorem en180 : Enters Tryz.prog 180 := enters Tryz.func180 rfl (by decide)
theorem en181 : Enters Tryz.prog 181 := enters Tryz.func181 rfl (by decide)
theorem en182 : Enters Tryz.prog 182 := enters Tryz.func182 rfl (by decide)
theorem en183 : Enters Tryz.prog 183 := enters Tryz.func183 rfl (by decide)
theorem en184 : Enters Tryz.prog 184 := enters Tryz.func184 rfl (by decide)
theorem en185 : Enters Tryz.prog 185 := enters Tryz.func185 rfl (by decide)
theorem en186 : Enters Tryz.prog 186 := enters Tryz.func186 rfl (by decide)
theorem en187 : Enters Tryz.prog 187 := enters Tryz.func187 rfl (by decide)
theorem en188 : Enters Tryz.prog 188 := enters Tryz.func188 rfl (by decide)
theorem en189 : Enters Tryz.prog 189 := enters Tryz.func189 rfl (by decide)
theorem en190 : Enters Tryz.prog 190 := enters Tryz.func190 rfl (by decide)
theorem en191 : Enters Tryz.prog 191 := enters Tryz.func191 rfl (by decide)
theorem en192 : Enters Tryz.prog 192 := enters Tryz.func192 rfl (by decide)
theorem en193 : Enters Tryz.prog 193 := enters Tryz.func193 rfl (by decide)
theorem en194 : Enters Tryz.prog 194 := enters Tryz.func194 rfl (by decide)
theorem en195 : Enters Tryz.prog 195 := enters Tryz.func195 rfl (by decide)
theorem en196 : Enters Tryz.prog 196 := enters Tryz.func196 rfl (by decide)
theorem en197 : Enters Tryz.prog 197 := enters Tryz.func197 rfl (by decide)
theorem en198 : Enters Tryz.prog 198 := enters Tryz.func198 rfl (by decide)
end Go.Proofs.YtelgmdljcbkniaaGreatDoor.Ti

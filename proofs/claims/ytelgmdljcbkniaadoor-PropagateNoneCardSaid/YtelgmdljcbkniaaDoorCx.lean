/- The types' rows and the functions' bodies. -/
import Derived.Test.YtelgmdljcbkniaaDoorProg
import Derived.Test.YtelgmdljcbkniaaDoorB24
namespace Go.Proofs.YtelgmdljcbkniaaDoor.Ti
open Go Go.Proofs Go.Proofs.YtelgmdljcbkniaaDoor.Ai
set_option maxRecDepth 100000
theorem ti1 : Inf Tryd.prog 1 1 8 (.nilFunc) (.func #[] #[] false) := inf (by kernel_rfl) Tryd.underlying1
theorem ti2 : Inf Tryd.prog 2 1 8 (.int .i64 0) (.int .i64) := inf (by kernel_rfl) Tryd.underlying2
theorem ti3 : Inf Tryd.prog 3 1 8 (.int .i64 0) (.int .i64) := inf (by kernel_rfl) Tryd.underlying3
theorem ti4 : Inf Tryd.prog 4 1 1 (.bool false) (.bool) := inf (by kernel_rfl) Tryd.underlying4
theorem ti5 : Inf Tryd.prog 5 1 1 (.int .u8 0) (.int .u8) := inf (by kernel_rfl) Tryd.underlying5
theorem ti6 : Inf Tryd.prog 6 1 1 (.int .u8 0) (.int .u8) := inf (by kernel_rfl) Tryd.underlying6
theorem ti7 : Inf Tryd.prog 7 4 24 (.agg #[.int .i64 0, .int .i64 0, .bool false, .int .u8 0]) (.struct #[{ name := "x", type := 2, offset := 0, embedded := false, tag := "", pkgPath := "runtime", byteOffset := 0 }, { name := "y", type := 3, offset := 1, embedded := false, tag := "", pkgPath := "runtime", byteOffset := 8 }, { name := "signed", type := 4, offset := 2, embedded := false, tag := "", pkgPath := "runtime", byteOffset := 16 }, { name := "code", type := 6, offset := 3, embedded := false, tag := "", pkgPath := "runtime", byteOffset := 17 }]) := inf (by kernel_rfl) Tryd.underlying7
theorem ti8 : Inf Tryd.prog 8 4 24 (.agg #[.int .i64 0, .int .i64 0, .bool false, .int .u8 0]) (.struct #[{ name := "x", type := 2, offset := 0, embedded := false, tag := "", pkgPath := "runtime", byteOffset := 0 }, { name := "y", type := 3, offset := 1, embedded := false, tag := "", pkgPath := "runtime", byteOffset := 8 }, { name := "signed", type := 4, offset := 2, embedded := false, tag := "", pkgPath := "runtime", byteOffset := 16 }, { name := "code", type := 6, offset := 3, embedded := false, tag := "", pkgPath := "runtime", byteOffset := 17 }]) := inf (by kernel_rfl) Tryd.underlying8
theorem ti9 : Inf Tryd.prog 9 1 16 (.string ⟨#[]⟩) (.string) := inf (by kernel_rfl) Tryd.underlying9
theorem ti10 : Inf Tryd.prog 10 1 16 (.string ⟨#[]⟩) (.string) := inf (by kernel_rfl) Tryd.underlying10
theorem ti11 : Inf Tryd.prog 11 1 16 (.string ⟨#[]⟩) (.string) := inf (by kernel_rfl) Tryd.underlying11
theorem ti12 : Inf Tryd.prog 12 1 8 (.int .u64 0) (.int .u64) := inf (by kernel_rfl) Tryd.underlying12
theorem ti13 : Inf Tryd.prog 13 2 24 (.agg #[.string ⟨#[]⟩, .int .u64 0]) (.struct #[{ name := "msg", type := 9, offset := 0, embedded := false, tag := "", pkgPath := "runtime", byteOffset := 0 }, { name := "addr", type := 12, offset := 1, embedded := false, tag := "", pkgPath := "runtime", byteOffset := 16 }]) := inf (by kernel_rfl) Tryd.underlying13
theorem ti14 : Inf Tryd.prog 14 2 24 (.agg #[.string ⟨#[]⟩, .int .u64 0]) (.struct #[{ name := "msg", type := 9, offset := 0, embedded := false, tag := "", pkgPath := "runtime", byteOffset := 0 }, { name := "addr", type := 12, offset := 1, embedded := false, tag := "", pkgPath := "runtime", byteOffset := 16 }]) := inf (by kernel_rfl) Tryd.underlying14
theorem ti15 : Inf Tryd.prog 15 1 8 (.pointer none) (.pointer 161) := inf (by kernel_rfl) Tryd.underlying15
theorem ti16 : Inf Tryd.prog 16 1 8 (.pointer none) (.pointer 164) := inf (by kernel_rfl) Tryd.underlying16
theorem ti17 : Inf Tryd.prog 17 1 8 (.pointer none) (.pointer 173) := inf (by kernel_rfl) Tryd.underlying17
theorem ti18 : Inf Tryd.prog 18 1 8 (.agg #[.pointer none]) (.struct #[{ name := "typ", type := 17, offset := 0, embedded := false, tag := "", pkgPath := "internal/runtime/maps", byteOffset := 0 }]) := inf (by kernel_rfl) Tryd.underlying18
theorem ti19 : Inf Tryd.prog 19 1 8 (.agg #[.pointer none]) (.struct #[{ name := "typ", type := 17, offset := 0, embedded := false, tag := "", pkgPath := "internal/runtime/maps", byteOffset := 0 }]) := inf (by kernel_rfl) Tryd.underlying19
theorem ti21 : Inf Tryd.prog 21 1 4 (.int .i32 0) (.int .i32) := inf (by kernel_rfl) Tryd.underlying21
theorem ti22 : Inf Tryd.prog 22 1 24 (.slice none 0 0) (.slice 56) := inf (by kernel_rfl) Tryd.underlying22
theorem ti23 : Inf Tryd.prog 23 1 24 (.slice none 0 0) (.slice 72) := inf (by kernel_rfl) Tryd.underlying23
theorem ti24 : Inf Tryd.prog 24 1 24 (.slice none 0 0) (.slice 74) := inf (by kernel_rfl) Tryd.underlying24
theorem ti25 : Inf Tryd.prog 25 1 24 (.slice none 0 0) (.slice 76) := inf (by kernel_rfl) Tryd.underlying25
theorem ti26 : Inf Tryd.prog 26 3 72 (.agg #[.slice none 0 0, .slice none 0 0, .slice none 0 0]) (.struct #[{ name := "Pairs", type := 23, offset := 0, embedded := false, tag := "", pkgPath := "", byteOffset := 0 }, { name := "Loads", type := 24, offset := 1, embedded := false, tag := "", pkgPath := "", byteOffset := 24 }, { name := "Caps", type := 25, offset := 2, embedded := false, tag := "", pkgPath := "", byteOffset := 48 }]) := inf (by kernel_rfl) Tryd.underlying26
theorem ti27 : Inf Tryd.prog 27 3 72 (.agg #[.slice none 0 0, .slice none 0 0, .slice none 0 0]) (.struct #[{ name := "Pairs", type := 23, offset := 0, embedded := false, tag := "", pkgPath := "", byteOffset := 0 }, { name := "Loads", type := 24, offset := 1, embedded := false, tag := "", pkgPath := "", byteOffset := 24 }, { name := "Caps", type := 25, offset := 2, embedded := false, tag := "", pkgPath := "", byteOffset := 48 }]) := inf (by kernel_rfl) Tryd.underlying27
theorem ti28 : Inf Tryd.prog 28 4 96 (.agg #[.slice none 0 0, .slice none 0 0, .slice none 0 0, .slice none 0 0]) (.struct #[{ name := "Domains", type := 22, offset := 0, embedded := false, tag := "", pkgPath := "", byteOffset := 0 }, { name := "Rules", type := 27, offset := 1, embedded := false, tag := "", pkgPath := "", byteOffset := 24 }]) := inf (by kernel_rfl) Tryd.underlying28
theorem ti29 : Inf Tryd.prog 29 4 96 (.agg #[.slice none 0 0, .slice none 0 0, .slice none 0 0, .slice none 0 0]) (.struct #[{ name := "Domains", type := 22, offset := 0, embedded := false, tag := "", pkgPath := "", byteOffset := 0 }, { name := "Rules", type := 27, offset := 1, embedded := false, tag := "", pkgPath := "", byteOffset := 24 }]) := inf (by kernel_rfl) Tryd.underlying29
theorem ti30 : Inf Tryd.prog 30 1 24 (.slice none 0 0) (.slice 41) := inf (by kernel_rfl) Tryd.underlying30
theorem ti31 : Inf Tryd.prog 31 1 8 (.nilFunc) (.func #[29, 3, 3] #[4] false) := inf (by kernel_rfl) Tryd.underlying31
theorem ti32 : Inf Tryd.prog 32 1 8 (.nilFunc) (.func #[29] #[4] false) := inf (by kernel_rfl) Tryd.underlying32
theorem ti33 : Inf Tryd.prog 33 1 8 (.nilFunc) (.func #[] #[4] false) := inf (by kernel_rfl) Tryd.underlying33
theorem ti34 : Inf Tryd.prog 34 1 8 (.pointer none) (.pointer 61) := inf (by kernel_rfl) Tryd.underlying34
theorem ti35 : Inf Tryd.prog 35 1 8 (.int .i64 0) (.int .i64) := inf (by kernel_rfl) Tryd.underlying35
theorem ti37 : Inf Tryd.prog 37 1 8 (.nilFunc) (.func #[29] #[34, 35] false) := inf (by kernel_rfl) Tryd.underlying37
theorem ti38 : Inf Tryd.prog 38 2 16 (.agg #[.int .i64 0, .int .i64 0]) (.struct #[{ name := "Station", type := 3, offset := 0, embedded := false, tag := "", pkgPath := "", byteOffset := 0 }, { name := "Channel", type := 3, offset := 1, embedded := false, tag := "", pkgPath := "", byteOffset := 8 }]) := inf (by kernel_rfl) Tryd.underlying38
theorem ti39 : Inf Tryd.prog 39 2 16 (.agg #[.int .i64 0, .int .i64 0]) (.struct #[{ name := "Station", type := 3, offset := 0, embedded := false, tag := "", pkgPath := "", byteOffset := 0 }, { name := "Channel", type := 3, offset := 1, embedded := false, tag := "", pkgPath := "", byteOffset := 8 }]) := inf (by kernel_rfl) Tryd.underlying39
theorem ti40 : Inf Tryd.prog 40 3 24 (.agg #[.int .i64 0, .int .i64 0, .int .i64 0]) (.struct #[{ name := "Kind", type := 3, offset := 0, embedded := false, tag := "", pkgPath := "", byteOffset := 0 }, { name := "Choice", type := 39, offset := 1, embedded := false, tag := "", pkgPath := "", byteOffset := 8 }]) := inf (by kernel_rfl) Tryd.underlying40
theorem ti41 : Inf Tryd.prog 41 3 24 (.agg #[.int .i64 0, .int .i64 0, .int .i64 0]) (.struct #[{ name := "Kind", type := 3, offset := 0, embedded := false, tag := "", pkgPath := "", byteOffset := 0 }, { name := "Choice", type := 39, offset := 1, embedded := false, tag := "", pkgPath := "", byteOffset := 8 }]) := inf (by kernel_rfl) Tryd.underlying41
theorem ti42 : Inf Tryd.prog 42 1 8 (.nilFunc) (.func #[34, 30] #[] false) := inf (by kernel_rfl) Tryd.underlying42
theorem ti43 : Inf Tryd.prog 43 1 8 (.nilFunc) (.func #[22, 22] #[4] false) := inf (by kernel_rfl) Tryd.underlying43
theorem ti44 : Inf Tryd.prog 44 1 8 (.nilFunc) (.func #[] #[22] false) := inf (by kernel_rfl) Tryd.underlying44
theorem ti45 : Inf Tryd.prog 45 1 8 (.nilFunc) (.func #[] #[3] false) := inf (by kernel_rfl) Tryd.underlying45
theorem ti46 : Inf Tryd.prog 46 1 8 (.nilFunc) (.func #[29, 30, 3] #[4] false) := inf (by kernel_rfl) Tryd.underlying46
theorem ti47 : Inf Tryd.prog 47 1 24 (.slice none 0 0) (.slice 39) := inf (by kernel_rfl) Tryd.underlying47
theorem ti48 : Inf Tryd.prog 48 1 8 (.nilFunc) (.func #[] #[47] false) := inf (by kernel_rfl) Tryd.underlying48
theorem ti49 : Inf Tryd.prog 49 1 8 (.nilFunc) (.func #[29, 47] #[4] false) := inf (by kernel_rfl) Tryd.underlying49
theorem ti50 : Inf Tryd.prog 50 1 8 (.nilFunc) (.func #[47, 30] #[4] false) := inf (by kernel_rfl) Tryd.underlying50
theorem ti51 : Inf Tryd.prog 51 1 8 (.nilFunc) (.func #[39] #[4] false) := inf (by kernel_rfl) Tryd.underlying51
theorem ti52 : Inf Tryd.prog 52 1 8 (.nilFunc) (.func #[29, 30, 47] #[4] false) := inf (by kernel_rfl) Tryd.underlying52
theorem ti53 : Inf Tryd.prog 53 1 8 (.nilFunc) (.func #[27, 3] #[27] false) := inf (by kernel_rfl) Tryd.underlying53
theorem ti54 : Inf Tryd.prog 54 1 24 (.slice none 0 0) (.slice 3) := inf (by kernel_rfl) Tryd.underlying54
theorem ti55 : Inf Tryd.prog 55 2 32 (.agg #[.int .i64 0, .slice none 0 0]) (.struct #[{ name := "Station", type := 3, offset := 0, embedded := false, tag := "", pkgPath := "", byteOffset := 0 }, { name := "Channels", type := 54, offset := 1, embedded := false, tag := "", pkgPath := "", byteOffset := 8 }]) := inf (by kernel_rfl) Tryd.underlying55
theorem ti56 : Inf Tryd.prog 56 2 32 (.agg #[.int .i64 0, .slice none 0 0]) (.struct #[{ name := "Station", type := 3, offset := 0, embedded := false, tag := "", pkgPath := "", byteOffset := 0 }, { name := "Channels", type := 54, offset := 1, embedded := false, tag := "", pkgPath := "", byteOffset := 8 }]) := inf (by kernel_rfl) Tryd.underlying56
theorem ti57 : Inf Tryd.prog 57 1 8 (.nilFunc) (.func #[29, 30, 3, 3] #[4] false) := inf (by kernel_rfl) Tryd.underlying57
theorem ti58 : Inf Tryd.prog 58 1 8 (.pointer none) (.pointer 91) := inf (by kernel_rfl) Tryd.underlying58
theorem ti59 : Inf Tryd.prog 59 1 24 (.slice none 0 0) (.slice 84) := inf (by kernel_rfl) Tryd.underlying59
theorem ti60 : Inf Tryd.prog 60 3 40 (.agg #[.pointer none, .slice none 0 0, .bool false]) (.struct #[{ name := "tables", type := 58, offset := 0, embedded := true, tag := "", pkgPath := "bandplan/propagate", byteOffset := 0 }, { name := "left", type := 59, offset := 1, embedded := false, tag := "", pkgPath := "bandplan/propagate", byteOffset := 8 }, { name := "bad", type := 4, offset := 2, embedded := false, tag := "", pkgPath := "bandplan/propagate", byteOffset := 32 }]) := inf (by kernel_rfl) Tryd.underlying60
theorem ti61 : Inf Tryd.prog 61 3 40 (.agg #[.pointer none, .slice none 0 0, .bool false]) (.struct #[{ name := "tables", type := 58, offset := 0, embedded := true, tag := "", pkgPath := "bandplan/propagate", byteOffset := 0 }, { name := "left", type := 59, offset := 1, embedded := false, tag := "", pkgPath := "bandplan/propagate", byteOffset := 8 }, { name := "bad", type := 4, offset := 2, embedded := false, tag := "", pkgPath := "bandplan/propagate", byteOffset := 32 }]) := inf (by kernel_rfl) Tryd.underlying61
theorem ti62 : Inf Tryd.prog 62 1 24 (.slice none 0 0) (.slice 34) := inf (by kernel_rfl) Tryd.underlying62
theorem ti64 : Inf Tryd.prog 64 1 8 (.nilFunc) (.func #[3] #[54, 35] false) := inf (by kernel_rfl) Tryd.underlying64
theorem ti65 : Inf Tryd.prog 65 1 8 (.nilFunc) (.func #[39] #[35] false) := inf (by kernel_rfl) Tryd.underlying65
theorem ti66 : Inf Tryd.prog 66 1 8 (.nilFunc) (.func #[] #[34] false) := inf (by kernel_rfl) Tryd.underlying66
theorem ti67 : Inf Tryd.prog 67 1 8 (.nilFunc) (.func #[39, 3] #[4] false) := inf (by kernel_rfl) Tryd.underlying67
theorem ti68 : Inf Tryd.prog 68 1 8 (.nilFunc) (.func #[27] #[4] false) := inf (by kernel_rfl) Tryd.underlying68
theorem ti69 : Inf Tryd.prog 69 1 8 (.nilFunc) (.func #[3] #[4] false) := inf (by kernel_rfl) Tryd.underlying69
theorem ti70 : Inf Tryd.prog 70 1 8 (.nilFunc) (.func #[29, 3] #[3] false) := inf (by kernel_rfl) Tryd.underlying70
theorem ti71 : Inf Tryd.prog 71 5 40 (.agg #[.int .i64 0, .int .i64 0, .int .i64 0, .int .i64 0, .int .i64 0]) (.struct #[{ name := "A", type := 3, offset := 0, embedded := false, tag := "", pkgPath := "", byteOffset := 0 }, { name := "B", type := 3, offset := 1, embedded := false, tag := "", pkgPath := "", byteOffset := 8 }, { name := "Offset", type := 3, offset := 2, embedded := false, tag := "", pkgPath := "", byteOffset := 16 }, { name := "Low", type := 3, offset := 3, embedded := false, tag := "", pkgPath := "", byteOffset := 24 }, { name := "High", type := 3, offset := 4, embedded := false, tag := "", pkgPath := "", byteOffset := 32 }]) := inf (by kernel_rfl) Tryd.underlying71
theorem ti72 : Inf Tryd.prog 72 5 40 (.agg #[.int .i64 0, .int .i64 0, .int .i64 0, .int .i64 0, .int .i64 0]) (.struct #[{ name := "A", type := 3, offset := 0, embedded := false, tag := "", pkgPath := "", byteOffset := 0 }, { name := "B", type := 3, offset := 1, embedded := false, tag := "", pkgPath := "", byteOffset := 8 }, { name := "Offset", type := 3, offset := 2, embedded := false, tag := "", pkgPath := "", byteOffset := 16 }, { name := "Low", type := 3, offset := 3, embedded := false, tag := "", pkgPath := "", byteOffset := 24 }, { name := "High", type := 3, offset := 4, embedded := false, tag := "", pkgPath := "", byteOffset := 32 }]) := inf (by kernel_rfl) Tryd.underlying72
theorem ti73 : Inf Tryd.prog 73 5 40 (.agg #[.int .i64 0, .int .i64 0, .int .i64 0, .int .i64 0, .int .i64 0]) (.struct #[{ name := "To", type := 3, offset := 0, embedded := false, tag := "", pkgPath := "", byteOffset := 0 }, { name := "From", type := 3, offset := 1, embedded := false, tag := "", pkgPath := "", byteOffset := 8 }, { name := "Weight", type := 3, offset := 2, embedded := false, tag := "", pkgPath := "", byteOffset := 16 }, { name := "Low", type := 3, offset := 3, embedded := false, tag := "", pkgPath := "", byteOffset := 24 }, { name := "High", type := 3, offset := 4, embedded := false, tag := "", pkgPath := "", byteOffset := 32 }]) := inf (by kernel_rfl) Tryd.underlying73
theorem ti74 : Inf Tryd.prog 74 5 40 (.agg #[.int .i64 0, .int .i64 0, .int .i64 0, .int .i64 0, .int .i64 0]) (.struct #[{ name := "To", type := 3, offset := 0, embedded := false, tag := "", pkgPath := "", byteOffset := 0 }, { name := "From", type := 3, offset := 1, embedded := false, tag := "", pkgPath := "", byteOffset := 8 }, { name := "Weight", type := 3, offset := 2, embedded := false, tag := "", pkgPath := "", byteOffset := 16 }, { name := "Low", type := 3, offset := 3, embedded := false, tag := "", pkgPath := "", byteOffset := 24 }, { name := "High", type := 3, offset := 4, embedded := false, tag := "", pkgPath := "", byteOffset := 32 }]) := inf (by kernel_rfl) Tryd.underlying74
theorem ti75 : Inf Tryd.prog 75 4 32 (.agg #[.int .i64 0, .int .i64 0, .int .i64 0, .int .i64 0]) (.struct #[{ name := "Station", type := 3, offset := 0, embedded := false, tag := "", pkgPath := "", byteOffset := 0 }, { name := "Max", type := 3, offset := 1, embedded := false, tag := "", pkgPath := "", byteOffset := 8 }, { name := "Low", type := 3, offset := 2, embedded := false, tag := "", pkgPath := "", byteOffset := 16 }, { name := "High", type := 3, offset := 3, embedded := false, tag := "", pkgPath := "", byteOffset := 24 }]) := inf (by kernel_rfl) Tryd.underlying75
theorem ti76 : Inf Tryd.prog 76 4 32 (.agg #[.int .i64 0, .int .i64 0, .int .i64 0, .int .i64 0]) (.struct #[{ name := "Station", type := 3, offset := 0, embedded := false, tag := "", pkgPath := "", byteOffset := 0 }, { name := "Max", type := 3, offset := 1, embedded := false, tag := "", pkgPath := "", byteOffset := 8 }, { name := "Low", type := 3, offset := 2, embedded := false, tag := "", pkgPath := "", byteOffset := 16 }, { name := "High", type := 3, offset := 3, embedded := false, tag := "", pkgPath := "", byteOffset := 24 }]) := inf (by kernel_rfl) Tryd.underlying76
theorem ti77 : Inf Tryd.prog 77 1 8 (.nilFunc) (.func #[] #[29] false) := inf (by kernel_rfl) Tryd.underlying77
theorem ti79 : Inf Tryd.prog 79 1 8 (.nilFunc) (.func #[29, 47] #[22, 4, 35] false) := inf (by kernel_rfl) Tryd.underlying79
theorem ti80 : Inf Tryd.prog 80 1 8 (.nilFunc) (.func #[47, 47] #[4] false) := inf (by kernel_rfl) Tryd.underlying80
theorem ti81 : Inf Tryd.prog 81 1 8 (.nilFunc) (.func #[22] #[47] false) := inf (by kernel_rfl) Tryd.underlying81
theorem ti82 : Inf Tryd.prog 82 1 8 (.nilFunc) (.func #[29] #[58] false) := inf (by kernel_rfl) Tryd.underlying82
theorem ti83 : Inf Tryd.prog 83 1 8 (.nilFunc) (.func #[59] #[59] false) := inf (by kernel_rfl) Tryd.underlying83
theorem ti84 : Inf Tryd.prog 84 1 8 (.int .u64 0) (.int .u64) := inf (by kernel_rfl) Tryd.underlying84
theorem ti85 : Inf Tryd.prog 85 1 8 (.map none) (.map 3 3) := inf (by kernel_rfl) Tryd.underlying85
theorem ti86 : Inf Tryd.prog 86 1 24 (.slice none 0 0) (.slice 23) := inf (by kernel_rfl) Tryd.underlying86
theorem ti87 : Inf Tryd.prog 87 1 24 (.slice none 0 0) (.slice 24) := inf (by kernel_rfl) Tryd.underlying87
theorem ti88 : Inf Tryd.prog 88 1 24 (.slice none 0 0) (.slice 25) := inf (by kernel_rfl) Tryd.underlying88
theorem ti89 : Inf Tryd.prog 89 1 24 (.slice none 0 0) (.slice 94) := inf (by kernel_rfl) Tryd.underlying89
theorem ti90 : Inf Tryd.prog 90 8 176 (.agg #[.slice none 0 0, .slice none 0 0, .map none, .slice none 0 0, .slice none 0 0, .slice none 0 0, .slice none 0 0, .slice none 0 0]) (.struct #[{ name := "stations", type := 54, offset := 0, embedded := false, tag := "", pkgPath := "bandplan/propagate", byteOffset := 0 }, { name := "full", type := 59, offset := 1, embedded := false, tag := "", pkgPath := "bandplan/propagate", byteOffset := 24 }, { name := "at", type := 85, offset := 2, embedded := false, tag := "", pkgPath := "bandplan/propagate", byteOffset := 48 }, { name := "pairs", type := 86, offset := 3, embedded := false, tag := "", pkgPath := "bandplan/propagate", byteOffset := 56 }, { name := "to", type := 87, offset := 4, embedded := false, tag := "", pkgPath := "bandplan/propagate", byteOffset := 80 }, { name := "from", type := 87, offset := 5, embedded := false, tag := "", pkgPath := "bandplan/propagate", byteOffset := 104 }, { name := "caps", type := 88, offset := 6, embedded := false, tag := "", pkgPath := "bandplan/propagate", byteOffset := 128 }, { name := "near", type := 89, offset := 7, embedded := false, tag := "", pkgPath := "bandplan/propagate", byteOffset := 152 }]) := inf (by kernel_rfl) Tryd.underlying90
theorem ti91 : Inf Tryd.prog 91 8 176 (.agg #[.slice none 0 0, .slice none 0 0, .map none, .slice none 0 0, .slice none 0 0, .slice none 0 0, .slice none 0 0, .slice none 0 0]) (.struct #[{ name := "stations", type := 54, offset := 0, embedded := false, tag := "", pkgPath := "bandplan/propagate", byteOffset := 0 }, { name := "full", type := 59, offset := 1, embedded := false, tag := "", pkgPath := "bandplan/propagate", byteOffset := 24 }, { name := "at", type := 85, offset := 2, embedded := false, tag := "", pkgPath := "bandplan/propagate", byteOffset := 48 }, { name := "pairs", type := 86, offset := 3, embedded := false, tag := "", pkgPath := "bandplan/propagate", byteOffset := 56 }, { name := "to", type := 87, offset := 4, embedded := false, tag := "", pkgPath := "bandplan/propagate", byteOffset := 80 }, { name := "from", type := 87, offset := 5, embedded := false, tag := "", pkgPath := "bandplan/propagate", byteOffset := 104 }, { name := "caps", type := 88, offset := 6, embedded := false, tag := "", pkgPath := "bandplan/propagate", byteOffset := 128 }, { name := "near", type := 89, offset := 7, embedded := false, tag := "", pkgPath := "bandplan/propagate", byteOffset := 152 }]) := inf (by kernel_rfl) Tryd.underlying91
theorem ti92 : Inf Tryd.prog 92 8 64 (.agg #[.int .u64 0, .int .u64 0, .int .u64 0, .int .u64 0, .int .u64 0, .int .u64 0, .int .u64 0, .int .u64 0]) (.array 8 84) := inf (by kernel_rfl) Tryd.underlying92
theorem ti93 : Inf Tryd.prog 93 8 64 (.agg #[.int .u64 0, .int .u64 0, .int .u64 0, .int .u64 0, .int .u64 0, .int .u64 0, .int .u64 0, .int .u64 0]) (.struct #[{ name := "words", type := 92, offset := 0, embedded := false, tag := "", pkgPath := "bandplan/bitset", byteOffset := 0 }]) := inf (by kernel_rfl) Tryd.underlying93
theorem ti94 : Inf Tryd.prog 94 8 64 (.agg #[.int .u64 0, .int .u64 0, .int .u64 0, .int .u64 0, .int .u64 0, .int .u64 0, .int .u64 0, .int .u64 0]) (.struct #[{ name := "words", type := 92, offset := 0, embedded := false, tag := "", pkgPath := "bandplan/bitset", byteOffset := 0 }]) := inf (by kernel_rfl) Tryd.underlying94
theorem ti96 : Inf Tryd.prog 96 1 8 (.nilFunc) (.func #[3] #[94, 35] false) := inf (by kernel_rfl) Tryd.underlying96
theorem ti97 : Inf Tryd.prog 97 1 8 (.nilFunc) (.func #[54] #[] false) := inf (by kernel_rfl) Tryd.underlying97
theorem ti98 : Inf Tryd.prog 98 1 8 (.nilFunc) (.func #[] #[54] false) := inf (by kernel_rfl) Tryd.underlying98
theorem ti99 : Inf Tryd.prog 99 1 8 (.nilFunc) (.func #[54, 54] #[4] false) := inf (by kernel_rfl) Tryd.underlying99
theorem ti100 : Inf Tryd.prog 100 1 8 (.nilFunc) (.func #[84] #[54] false) := inf (by kernel_rfl) Tryd.underlying100
theorem ti101 : Inf Tryd.prog 101 1 8 (.nilFunc) (.func #[84] #[3] false) := inf (by kernel_rfl) Tryd.underlying101
theorem ti103 : Inf Tryd.prog 103 1 8 (.nilFunc) (.func #[84] #[3, 4] false) := inf (by kernel_rfl) Tryd.underlying103
theorem ti104 : Inf Tryd.prog 104 1 8 (.nilFunc) (.func #[47] #[4] false) := inf (by kernel_rfl) Tryd.underlying104
theorem ti105 : Inf Tryd.prog 105 1 8 (.int .i64 0) (.int .i64) := inf (by kernel_rfl) Tryd.underlying105
theorem ti106 : Inf Tryd.prog 106 2 16 (.agg #[.int .i64 0, .int .i64 0]) (.struct #[{ name := "Kind", type := 105, offset := 0, embedded := false, tag := "", pkgPath := "", byteOffset := 0 }, { name := "At", type := 3, offset := 1, embedded := false, tag := "", pkgPath := "", byteOffset := 8 }]) := inf (by kernel_rfl) Tryd.underlying106
theorem ti107 : Inf Tryd.prog 107 2 16 (.agg #[.int .i64 0, .int .i64 0]) (.struct #[{ name := "Kind", type := 105, offset := 0, embedded := false, tag := "", pkgPath := "", byteOffset := 0 }, { name := "At", type := 3, offset := 1, embedded := false, tag := "", pkgPath := "", byteOffset := 8 }]) := inf (by kernel_rfl) Tryd.underlying107
theorem ti108 : Inf Tryd.prog 108 1 8 (.nilFunc) (.func #[29, 47, 4] #[107] false) := inf (by kernel_rfl) Tryd.underlying108
theorem ti109 : Inf Tryd.prog 109 1 8 (.nilFunc) (.func #[47, 3] #[3] false) := inf (by kernel_rfl) Tryd.underlying109
theorem ti110 : Inf Tryd.prog 110 1 8 (.nilFunc) (.func #[3] #[3, 4] false) := inf (by kernel_rfl) Tryd.underlying110
theorem ti111 : Inf Tryd.prog 111 1 8 (.nilFunc) (.func #[3] #[84] false) := inf (by kernel_rfl) Tryd.underlying111
theorem ti112 : Inf Tryd.prog 112 1 8 (.nilFunc) (.func #[39, 113] #[35] false) := inf (by kernel_rfl) Tryd.underlying112
theorem ti113 : Inf Tryd.prog 113 1 8 (.nilFunc) (.func #[84, 84] #[84] false) := inf (by kernel_rfl) Tryd.underlying113
theorem ti114 : Inf Tryd.prog 114 1 8 (.nilFunc) (.func #[3, 3] #[4] false) := inf (by kernel_rfl) Tryd.underlying114
theorem ti115 : Inf Tryd.prog 115 1 8 (.nilFunc) (.func #[72] #[54] false) := inf (by kernel_rfl) Tryd.underlying115
theorem ti116 : Inf Tryd.prog 116 1 8 (.nilFunc) (.func #[74] #[54] false) := inf (by kernel_rfl) Tryd.underlying116
theorem ti117 : Inf Tryd.prog 117 1 8 (.nilFunc) (.func #[76] #[54] false) := inf (by kernel_rfl) Tryd.underlying117
theorem ti118 : Inf Tryd.prog 118 1 8 (.nilFunc) (.func #[22, 121, 122] #[4] false) := inf (by kernel_rfl) Tryd.underlying118
theorem ti119 : Inf Tryd.prog 119 1 8 (.nilFunc) (.func #[54, 69, 120] #[4] false) := inf (by kernel_rfl) Tryd.underlying119
theorem ti120 : Inf Tryd.prog 120 1 8 (.nilFunc) (.func #[3, 3] #[3] false) := inf (by kernel_rfl) Tryd.underlying120
theorem ti121 : Inf Tryd.prog 121 1 8 (.nilFunc) (.func #[56] #[4] false) := inf (by kernel_rfl) Tryd.underlying121
theorem ti122 : Inf Tryd.prog 122 1 8 (.nilFunc) (.func #[56, 56] #[3] false) := inf (by kernel_rfl) Tryd.underlying122
theorem ti123 : Inf Tryd.prog 123 512 4096 (.agg (Array.replicate 512 (.int .i64 0))) (.array 512 3) := inf (by kernel_rfl) Tryd.underlying123
theorem ti124 : Inf Tryd.prog 124 1 8 (.nilFunc) (.func #[29] #[123] false) := inf (by kernel_rfl) Tryd.underlying124
theorem ti125 : Inf Tryd.prog 125 1 8 (.nilFunc) (.func #[3, 3] #[] false) := inf (by kernel_rfl) Tryd.underlying125
theorem ti126 : Inf Tryd.prog 126 1 8 (.nilFunc) (.func #[34, 3] #[] false) := inf (by kernel_rfl) Tryd.underlying126
theorem ti127 : Inf Tryd.prog 127 1 8 (.nilFunc) (.func #[3] #[] false) := inf (by kernel_rfl) Tryd.underlying127
theorem ti128 : Inf Tryd.prog 128 3 24 (.agg #[.nilFunc, .nilFunc, .nilFunc]) (.array 3 126) := inf (by kernel_rfl) Tryd.underlying128
theorem ti129 : Inf Tryd.prog 129 1 8 (.nilFunc) (.func #[54] #[94, 35] true) := inf (by kernel_rfl) Tryd.underlying129
theorem ti130 : Inf Tryd.prog 130 1 8 (.nilFunc) (.func #[69] #[] false) := inf (by kernel_rfl) Tryd.underlying130
theorem ti131 : Inf Tryd.prog 131 1 8 (.nilFunc) (.func #[69] #[] false) := inf (by kernel_rfl) Tryd.underlying131
theorem ti132 : Inf Tryd.prog 132 1 8 (.nilFunc) (.func #[] #[131] false) := inf (by kernel_rfl) Tryd.underlying132
theorem ti133 : Inf Tryd.prog 133 1 8 (.nilFunc) (.func #[94] #[94] false) := inf (by kernel_rfl) Tryd.underlying133
theorem ti134 : Inf Tryd.prog 134 1 8 (.nilFunc) (.func #[131] #[54] false) := inf (by kernel_rfl) Tryd.underlying134
theorem ti135 : Inf Tryd.prog 135 1 8 (.int .u64 0) (.int .u64) := inf (by kernel_rfl) Tryd.underlying135
theorem ti136 : Inf Tryd.prog 136 1 8 (.nilFunc) (.func #[54, 3] #[4] false) := inf (by kernel_rfl) Tryd.underlying136
theorem ti137 : Inf Tryd.prog 137 1 8 (.nilFunc) (.func #[72, 47] #[4] false) := inf (by kernel_rfl) Tryd.underlying137
theorem ti138 : Inf Tryd.prog 138 1 8 (.nilFunc) (.func #[29, 76, 47] #[4] false) := inf (by kernel_rfl) Tryd.underlying138
theorem ti139 : Inf Tryd.prog 139 1 8 (.nilFunc) (.func #[47, 51, 140] #[4] false) := inf (by kernel_rfl) Tryd.underlying139
theorem ti140 : Inf Tryd.prog 140 1 8 (.nilFunc) (.func #[39, 39] #[3] false) := inf (by kernel_rfl) Tryd.underlying140
theorem ti141 : Inf Tryd.prog 141 1 8 (.nilFunc) (.func #[23, 142, 143] #[4] false) := inf (by kernel_rfl) Tryd.underlying141
theorem ti142 : Inf Tryd.prog 142 1 8 (.nilFunc) (.func #[72] #[4] false) := inf (by kernel_rfl) Tryd.underlying142
theorem ti143 : Inf Tryd.prog 143 1 8 (.nilFunc) (.func #[72, 72] #[3] false) := inf (by kernel_rfl) Tryd.underlying143
theorem ti144 : Inf Tryd.prog 144 1 8 (.nilFunc) (.func #[24, 145, 146] #[4] false) := inf (by kernel_rfl) Tryd.underlying144
theorem ti145 : Inf Tryd.prog 145 1 8 (.nilFunc) (.func #[74] #[4] false) := inf (by kernel_rfl) Tryd.underlying145
theorem ti146 : Inf Tryd.prog 146 1 8 (.nilFunc) (.func #[74, 74] #[3] false) := inf (by kernel_rfl) Tryd.underlying146
theorem ti147 : Inf Tryd.prog 147 1 8 (.nilFunc) (.func #[25, 148, 149] #[4] false) := inf (by kernel_rfl) Tryd.underlying147
theorem ti148 : Inf Tryd.prog 148 1 8 (.nilFunc) (.func #[76] #[4] false) := inf (by kernel_rfl) Tryd.underlying148
theorem ti149 : Inf Tryd.prog 149 1 8 (.nilFunc) (.func #[76, 76] #[3] false) := inf (by kernel_rfl) Tryd.underlying149
theorem ti150 : Inf Tryd.prog 150 1 8 (.nilFunc) (.func #[3, 3, 3] #[4] false) := inf (by kernel_rfl) Tryd.underlying150
theorem ti151 : Inf Tryd.prog 151 1 8 (.nilFunc) (.func #[3, 3, 3] #[3] false) := inf (by kernel_rfl) Tryd.underlying151
theorem ti152 : Inf Tryd.prog 152 1 8 (.nilFunc) (.func #[3] #[3] false) := inf (by kernel_rfl) Tryd.underlying152
theorem ti153 : Inf Tryd.prog 153 1 8 (.nilFunc) (.func #[54, 131] #[54] false) := inf (by kernel_rfl) Tryd.underlying153
theorem ti154 : Inf Tryd.prog 154 64 64 (.agg #[.int .u8 0, .int .u8 0, .int .u8 0, .int .u8 0, .int .u8 0, .int .u8 0, .int .u8 0, .int .u8 0, .int .u8 0, .int .u8 0, .int .u8 0, .int .u8 0, .int .u8 0, .int .u8 0, .int .u8 0, .int .u8 0, .int .u8 0, .int .u8 0, .int .u8 0, .int .u8 0, .int .u8 0, .int .u8 0, .int .u8 0, .int .u8 0, .int .u8 0, .int .u8 0, .int .u8 0, .int .u8 0, .int .u8 0, .int .u8 0, .int .u8 0, .int .u8 0, .int .u8 0, .int .u8 0, .int .u8 0, .int .u8 0, .int .u8 0, .int .u8 0, .int .u8 0, .int .u8 0, .int .u8 0, .int .u8 0, .int .u8 0, .int .u8 0, .int .u8 0, .int .u8 0, .int .u8 0, .int .u8 0, .int .u8 0, .int .u8 0, .int .u8 0, .int .u8 0, .int .u8 0, .int .u8 0, .int .u8 0, .int .u8 0, .int .u8 0, .int .u8 0, .int .u8 0, .int .u8 0, .int .u8 0, .int .u8 0, .int .u8 0, .int .u8 0]) (.array 64 5) := inf (by kernel_rfl) Tryd.underlying154
theorem ti155 : Inf Tryd.prog 155 1 8 (.nilFunc) (.func #[29, 3, 3, 47] #[3] false) := inf (by kernel_rfl) Tryd.underlying155
theorem ti156 : Inf Tryd.prog 156 1 8 (.nilFunc) (.func #[54] #[3] true) := inf (by kernel_rfl) Tryd.underlying156
theorem ti157 : Inf Tryd.prog 157 1 8 (.nilFunc) (.func #[25, 148] #[4] false) := inf (by kernel_rfl) Tryd.underlying157
theorem ti158 : Inf Tryd.prog 158 1 8 (.nilFunc) (.func #[25, 148] #[3] false) := inf (by kernel_rfl) Tryd.underlying158
theorem ti159 : Inf Tryd.prog 159 1 8 (.nilFunc) (.func #[] #[9] false) := inf (by kernel_rfl) Tryd.underlying159
theorem ti160 : Inf Tryd.prog 160 4 40 (.agg #[.pointer none, .pointer none, .pointer none, .string ⟨#[]⟩]) (.struct #[{ name := "_interface", type := 17, offset := 0, embedded := false, tag := "", pkgPath := "runtime", byteOffset := 0 }, { name := "concrete", type := 17, offset := 1, embedded := false, tag := "", pkgPath := "runtime", byteOffset := 8 }, { name := "asserted", type := 17, offset := 2, embedded := false, tag := "", pkgPath := "runtime", byteOffset := 16 }, { name := "missingMethod", type := 9, offset := 3, embedded := false, tag := "", pkgPath := "runtime", byteOffset := 24 }]) := inf (by kernel_rfl) Tryd.underlying160
theorem ti161 : Inf Tryd.prog 161 4 40 (.agg #[.pointer none, .pointer none, .pointer none, .string ⟨#[]⟩]) (.struct #[{ name := "_interface", type := 17, offset := 0, embedded := false, tag := "", pkgPath := "runtime", byteOffset := 0 }, { name := "concrete", type := 17, offset := 1, embedded := false, tag := "", pkgPath := "runtime", byteOffset := 8 }, { name := "asserted", type := 17, offset := 2, embedded := false, tag := "", pkgPath := "runtime", byteOffset := 16 }, { name := "missingMethod", type := 9, offset := 3, embedded := false, tag := "", pkgPath := "runtime", byteOffset := 24 }]) := inf (by kernel_rfl) Tryd.underlying161
theorem ti162 : Inf Tryd.prog 162 0 0 (.agg #[]) (.array 0 16) := inf (by kernel_rfl) Tryd.underlying162
theorem ti163 : Inf Tryd.prog 163 0 0 (.agg #[]) (.struct #[{ name := "_", type := 162, offset := 0, embedded := false, tag := "", pkgPath := "runtime", byteOffset := 0 }]) := inf (by kernel_rfl) Tryd.underlying163
theorem ti164 : Inf Tryd.prog 164 0 0 (.agg #[]) (.struct #[{ name := "_", type := 162, offset := 0, embedded := false, tag := "", pkgPath := "runtime", byteOffset := 0 }]) := inf (by kernel_rfl) Tryd.underlying164
theorem ti165 : Inf Tryd.prog 165 1 4 (.int .u32 0) (.int .u32) := inf (by kernel_rfl) Tryd.underlying165
theorem ti166 : Inf Tryd.prog 166 1 1 (.int .u8 0) (.int .u8) := inf (by kernel_rfl) Tryd.underlying166
theorem ti167 : Inf Tryd.prog 167 1 1 (.int .u8 0) (.int .u8) := inf (by kernel_rfl) Tryd.underlying167
theorem ti168 : Inf Tryd.prog 168 1 8 (.nilFunc) (.func #[174, 174] #[4] false) := inf (by kernel_rfl) Tryd.underlying168
theorem ti169 : Inf Tryd.prog 169 1 8 (.pointer none) (.pointer 5) := inf (by kernel_rfl) Tryd.underlying169
theorem ti170 : Inf Tryd.prog 170 1 4 (.int .i32 0) (.int .i32) := inf (by kernel_rfl) Tryd.underlying170
theorem ti171 : Inf Tryd.prog 171 1 4 (.int .i32 0) (.int .i32) := inf (by kernel_rfl) Tryd.underlying171
theorem ti172 : Inf Tryd.prog 172 11 48 (.agg #[.int .u64 0, .int .u64 0, .int .u32 0, .int .u8 0, .int .u8 0, .int .u8 0, .int .u8 0, .nilFunc, .pointer none, .int .i32 0, .int .i32 0]) (.struct #[{ name := "Size_", type := 12, offset := 0, embedded := false, tag := "", pkgPath := "", byteOffset := 0 }, { name := "PtrBytes", type := 12, offset := 1, embedded := false, tag := "", pkgPath := "", byteOffset := 8 }, { name := "Hash", type := 165, offset := 2, embedded := false, tag := "", pkgPath := "", byteOffset := 16 }, { name := "TFlag", type := 166, offset := 3, embedded := false, tag := "", pkgPath := "", byteOffset := 20 }, { name := "Align_", type := 5, offset := 4, embedded := false, tag := "", pkgPath := "", byteOffset := 21 }, { name := "FieldAlign_", type := 5, offset := 5, embedded := false, tag := "", pkgPath := "", byteOffset := 22 }, { name := "Kind_", type := 167, offset := 6, embedded := false, tag := "", pkgPath := "", byteOffset := 23 }, { name := "Equal", type := 168, offset := 7, embedded := false, tag := "", pkgPath := "", byteOffset := 24 }, { name := "GCData", type := 169, offset := 8, embedded := false, tag := "", pkgPath := "", byteOffset := 32 }, { name := "Str", type := 170, offset := 9, embedded := false, tag := "", pkgPath := "", byteOffset := 40 }, { name := "PtrToThis", type := 171, offset := 10, embedded := false, tag := "", pkgPath := "", byteOffset := 44 }]) := inf (by kernel_rfl) Tryd.underlying172
theorem ti173 : Inf Tryd.prog 173 11 48 (.agg #[.int .u64 0, .int .u64 0, .int .u32 0, .int .u8 0, .int .u8 0, .int .u8 0, .int .u8 0, .nilFunc, .pointer none, .int .i32 0, .int .i32 0]) (.struct #[{ name := "Size_", type := 12, offset := 0, embedded := false, tag := "", pkgPath := "", byteOffset := 0 }, { name := "PtrBytes", type := 12, offset := 1, embedded := false, tag := "", pkgPath := "", byteOffset := 8 }, { name := "Hash", type := 165, offset := 2, embedded := false, tag := "", pkgPath := "", byteOffset := 16 }, { name := "TFlag", type := 166, offset := 3, embedded := false, tag := "", pkgPath := "", byteOffset := 20 }, { name := "Align_", type := 5, offset := 4, embedded := false, tag := "", pkgPath := "", byteOffset := 21 }, { name := "FieldAlign_", type := 5, offset := 5, embedded := false, tag := "", pkgPath := "", byteOffset := 22 }, { name := "Kind_", type := 167, offset := 6, embedded := false, tag := "", pkgPath := "", byteOffset := 23 }, { name := "Equal", type := 168, offset := 7, embedded := false, tag := "", pkgPath := "", byteOffset := 24 }, { name := "GCData", type := 169, offset := 8, embedded := false, tag := "", pkgPath := "", byteOffset := 32 }, { name := "Str", type := 170, offset := 9, embedded := false, tag := "", pkgPath := "", byteOffset := 40 }, { name := "PtrToThis", type := 171, offset := 10, embedded := false, tag := "", pkgPath := "", byteOffset := 44 }]) := inf (by kernel_rfl) Tryd.underlying173
noncomputable def i1 : TInfo := ⟨1, 8, .nilFunc, .nilfn, .func #[] #[] false, [], []⟩
noncomputable def i2 : TInfo := ⟨1, 8, .int .i64 0, .int .i64 0, .int .i64, [], []⟩
noncomputable def i3 : TInfo := ⟨1, 8, .int .i64 0, .int .i64 0, .int .i64, [], []⟩
noncomputable def i4 : TInfo := ⟨1, 1, .bool false, .bool false, .bool, [], []⟩
noncomputable def i5 : TInfo := ⟨1, 1, .int .u8 0, .int .u8 0, .int .u8, [], []⟩
noncomputable def i6 : TInfo := ⟨1, 1, .int .u8 0, .int .u8 0, .int .u8, [], []⟩
noncomputable def i7 : TInfo := ⟨4, 24, .agg #[.int .i64 0, .int .i64 0, .bool false, .int .u8 0], .agg [.int .i64 0, .int .i64 0, .bool false, .int .u8 0], .struct #[{ name := "x", type := 2, offset := 0, embedded := false, tag := "", pkgPath := "runtime", byteOffset := 0 }, { name := "y", type := 3, offset := 1, embedded := false, tag := "", pkgPath := "runtime", byteOffset := 8 }, { name := "signed", type := 4, offset := 2, embedded := false, tag := "", pkgPath := "runtime", byteOffset := 16 }, { name := "code", type := 6, offset := 3, embedded := false, tag := "", pkgPath := "runtime", byteOffset := 17 }], [0, 1, 2, 3], [(0, 1), (1, 1), (2, 1), (3, 1)]⟩
noncomputable def i8 : TInfo := ⟨4, 24, .agg #[.int .i64 0, .int .i64 0, .bool false, .int .u8 0], .agg [.int .i64 0, .int .i64 0, .bool false, .int .u8 0], .struct #[{ name := "x", type := 2, offset := 0, embedded := false, tag := "", pkgPath := "runtime", byteOffset := 0 }, { name := "y", type := 3, offset := 1, embedded := false, tag := "", pkgPath := "runtime", byteOffset := 8 }, { name := "signed", type := 4, offset := 2, embedded := false, tag := "", pkgPath := "runtime", byteOffset := 16 }, { name := "code", type := 6, offset := 3, embedded := false, tag := "", pkgPath := "runtime", byteOffset := 17 }], [0, 1, 2, 3], [(0, 1), (1, 1), (2, 1), (3, 1)]⟩
noncomputable def i9 : TInfo := ⟨1, 16, .string ⟨#[]⟩, .str ⟨#[]⟩, .string, [], []⟩
noncomputable def i10 : TInfo := ⟨1, 16, .string ⟨#[]⟩, .str ⟨#[]⟩, .string, [], []⟩
noncomputable def i11 : TInfo := ⟨1, 16, .string ⟨#[]⟩, .str ⟨#[]⟩, .string, [], []⟩
noncomputable def i12 : TInfo := ⟨1, 8, .int .u64 0, .int .u64 0, .int .u64, [], []⟩
noncomputable def i13 : TInfo := ⟨2, 24, .agg #[.string ⟨#[]⟩, .int .u64 0], .agg [.str ⟨#[]⟩, .int .u64 0], .struct #[{ name := "msg", type := 9, offset := 0, embedded := false, tag := "", pkgPath := "runtime", byteOffset := 0 }, { name := "addr", type := 12, offset := 1, embedded := false, tag := "", pkgPath := "runtime", byteOffset := 16 }], [0, 1], [(0, 1), (1, 1)]⟩
noncomputable def i14 : TInfo := ⟨2, 24, .agg #[.string ⟨#[]⟩, .int .u64 0], .agg [.str ⟨#[]⟩, .int .u64 0], .struct #[{ name := "msg", type := 9, offset := 0, embedded := false, tag := "", pkgPath := "runtime", byteOffset := 0 }, { name := "addr", type := 12, offset := 1, embedded := false, tag := "", pkgPath := "runtime", byteOffset := 16 }], [0, 1], [(0, 1), (1, 1)]⟩
noncomputable def i15 : TInfo := ⟨1, 8, .pointer none, .nilp, .pointer 161, [], []⟩
noncomputable def i16 : TInfo := ⟨1, 8, .pointer none, .nilp, .pointer 164, [], []⟩
noncomputable def i17 : TInfo := ⟨1, 8, .pointer none, .nilp, .pointer 173, [], []⟩
noncomputable def i18 : TInfo := ⟨1, 8, .agg #[.pointer none], .agg [.nilp], .struct #[{ name := "typ", type := 17, offset := 0, embedded := false, tag := "", pkgPath := "internal/runtime/maps", byteOffset := 0 }], [0], [(0, 1)]⟩
noncomputable def i19 : TInfo := ⟨1, 8, .agg #[.pointer none], .agg [.nilp], .struct #[{ name := "typ", type := 17, offset := 0, embedded := false, tag := "", pkgPath := "internal/runtime/maps", byteOffset := 0 }], [0], [(0, 1)]⟩
noncomputable def i21 : TInfo := ⟨1, 4, .int .i32 0, .int .i32 0, .int .i32, [], []⟩
noncomputable def i22 : TInfo := ⟨1, 24, .slice none 0 0, .nils, .slice 56, [], []⟩
noncomputable def i23 : TInfo := ⟨1, 24, .slice none 0 0, .nils, .slice 72, [], []⟩
noncomputable def i24 : TInfo := ⟨1, 24, .slice none 0 0, .nils, .slice 74, [], []⟩
noncomputable def i25 : TInfo := ⟨1, 24, .slice none 0 0, .nils, .slice 76, [], []⟩
noncomputable def i26 : TInfo := ⟨3, 72, .agg #[.slice none 0 0, .slice none 0 0, .slice none 0 0], .agg [.nils, .nils, .nils], .struct #[{ name := "Pairs", type := 23, offset := 0, embedded := false, tag := "", pkgPath := "", byteOffset := 0 }, { name := "Loads", type := 24, offset := 1, embedded := false, tag := "", pkgPath := "", byteOffset := 24 }, { name := "Caps", type := 25, offset := 2, embedded := false, tag := "", pkgPath := "", byteOffset := 48 }], [0, 1, 2], [(0, 1), (1, 1), (2, 1)]⟩
noncomputable def i27 : TInfo := ⟨3, 72, .agg #[.slice none 0 0, .slice none 0 0, .slice none 0 0], .agg [.nils, .nils, .nils], .struct #[{ name := "Pairs", type := 23, offset := 0, embedded := false, tag := "", pkgPath := "", byteOffset := 0 }, { name := "Loads", type := 24, offset := 1, embedded := false, tag := "", pkgPath := "", byteOffset := 24 }, { name := "Caps", type := 25, offset := 2, embedded := false, tag := "", pkgPath := "", byteOffset := 48 }], [0, 1, 2], [(0, 1), (1, 1), (2, 1)]⟩
noncomputable def i28 : TInfo := ⟨4, 96, .agg #[.slice none 0 0, .slice none 0 0, .slice none 0 0, .slice none 0 0], .agg [.nils, .nils, .nils, .nils], .struct #[{ name := "Domains", type := 22, offset := 0, embedded := false, tag := "", pkgPath := "", byteOffset := 0 }, { name := "Rules", type := 27, offset := 1, embedded := false, tag := "", pkgPath := "", byteOffset := 24 }], [0, 1], [(0, 1), (1, 3)]⟩
noncomputable def i29 : TInfo := ⟨4, 96, .agg #[.slice none 0 0, .slice none 0 0, .slice none 0 0, .slice none 0 0], .agg [.nils, .nils, .nils, .nils], .struct #[{ name := "Domains", type := 22, offset := 0, embedded := false, tag := "", pkgPath := "", byteOffset := 0 }, { name := "Rules", type := 27, offset := 1, embedded := false, tag := "", pkgPath := "", byteOffset := 24 }], [0, 1], [(0, 1), (1, 3)]⟩
noncomputable def i30 : TInfo := ⟨1, 24, .slice none 0 0, .nils, .slice 41, [], []⟩
noncomputable def i31 : TInfo := ⟨1, 8, .nilFunc, .nilfn, .func #[29, 3, 3] #[4] false, [], []⟩
noncomputable def i32 : TInfo := ⟨1, 8, .nilFunc, .nilfn, .func #[29] #[4] false, [], []⟩
noncomputable def i33 : TInfo := ⟨1, 8, .nilFunc, .nilfn, .func #[] #[4] false, [], []⟩
noncomputable def i34 : TInfo := ⟨1, 8, .pointer none, .nilp, .pointer 61, [], []⟩
noncomputable def i35 : TInfo := ⟨1, 8, .int .i64 0, .int .i64 0, .int .i64, [], []⟩
noncomputable def i37 : TInfo := ⟨1, 8, .nilFunc, .nilfn, .func #[29] #[34, 35] false, [], []⟩
noncomputable def i38 : TInfo := ⟨2, 16, .agg #[.int .i64 0, .int .i64 0], .agg [.int .i64 0, .int .i64 0], .struct #[{ name := "Station", type := 3, offset := 0, embedded := false, tag := "", pkgPath := "", byteOffset := 0 }, { name := "Channel", type := 3, offset := 1, embedded := false, tag := "", pkgPath := "", byteOffset := 8 }], [0, 1], [(0, 1), (1, 1)]⟩
noncomputable def i39 : TInfo := ⟨2, 16, .agg #[.int .i64 0, .int .i64 0], .agg [.int .i64 0, .int .i64 0], .struct #[{ name := "Station", type := 3, offset := 0, embedded := false, tag := "", pkgPath := "", byteOffset := 0 }, { name := "Channel", type := 3, offset := 1, embedded := false, tag := "", pkgPath := "", byteOffset := 8 }], [0, 1], [(0, 1), (1, 1)]⟩
noncomputable def i40 : TInfo := ⟨3, 24, .agg #[.int .i64 0, .int .i64 0, .int .i64 0], .agg [.int .i64 0, .int .i64 0, .int .i64 0], .struct #[{ name := "Kind", type := 3, offset := 0, embedded := false, tag := "", pkgPath := "", byteOffset := 0 }, { name := "Choice", type := 39, offset := 1, embedded := false, tag := "", pkgPath := "", byteOffset := 8 }], [0, 1], [(0, 1), (1, 2)]⟩
noncomputable def i41 : TInfo := ⟨3, 24, .agg #[.int .i64 0, .int .i64 0, .int .i64 0], .agg [.int .i64 0, .int .i64 0, .int .i64 0], .struct #[{ name := "Kind", type := 3, offset := 0, embedded := false, tag := "", pkgPath := "", byteOffset := 0 }, { name := "Choice", type := 39, offset := 1, embedded := false, tag := "", pkgPath := "", byteOffset := 8 }], [0, 1], [(0, 1), (1, 2)]⟩
noncomputable def i42 : TInfo := ⟨1, 8, .nilFunc, .nilfn, .func #[34, 30] #[] false, [], []⟩
noncomputable def i43 : TInfo := ⟨1, 8, .nilFunc, .nilfn, .func #[22, 22] #[4] false, [], []⟩
noncomputable def i44 : TInfo := ⟨1, 8, .nilFunc, .nilfn, .func #[] #[22] false, [], []⟩
noncomputable def i45 : TInfo := ⟨1, 8, .nilFunc, .nilfn, .func #[] #[3] false, [], []⟩
noncomputable def i46 : TInfo := ⟨1, 8, .nilFunc, .nilfn, .func #[29, 30, 3] #[4] false, [], []⟩
noncomputable def i47 : TInfo := ⟨1, 24, .slice none 0 0, .nils, .slice 39, [], []⟩
noncomputable def i48 : TInfo := ⟨1, 8, .nilFunc, .nilfn, .func #[] #[47] false, [], []⟩
noncomputable def i49 : TInfo := ⟨1, 8, .nilFunc, .nilfn, .func #[29, 47] #[4] false, [], []⟩
noncomputable def i50 : TInfo := ⟨1, 8, .nilFunc, .nilfn, .func #[47, 30] #[4] false, [], []⟩
noncomputable def i51 : TInfo := ⟨1, 8, .nilFunc, .nilfn, .func #[39] #[4] false, [], []⟩
noncomputable def i52 : TInfo := ⟨1, 8, .nilFunc, .nilfn, .func #[29, 30, 47] #[4] false, [], []⟩
noncomputable def i53 : TInfo := ⟨1, 8, .nilFunc, .nilfn, .func #[27, 3] #[27] false, [], []⟩
noncomputable def i54 : TInfo := ⟨1, 24, .slice none 0 0, .nils, .slice 3, [], []⟩
noncomputable def i55 : TInfo := ⟨2, 32, .agg #[.int .i64 0, .slice none 0 0], .agg [.int .i64 0, .nils], .struct #[{ name := "Station", type := 3, offset := 0, embedded := false, tag := "", pkgPath := "", byteOffset := 0 }, { name := "Channels", type := 54, offset := 1, embedded := false, tag := "", pkgPath := "", byteOffset := 8 }], [0, 1], [(0, 1), (1, 1)]⟩
noncomputable def i56 : TInfo := ⟨2, 32, .agg #[.int .i64 0, .slice none 0 0], .agg [.int .i64 0, .nils], .struct #[{ name := "Station", type := 3, offset := 0, embedded := false, tag := "", pkgPath := "", byteOffset := 0 }, { name := "Channels", type := 54, offset := 1, embedded := false, tag := "", pkgPath := "", byteOffset := 8 }], [0, 1], [(0, 1), (1, 1)]⟩
noncomputable def i57 : TInfo := ⟨1, 8, .nilFunc, .nilfn, .func #[29, 30, 3, 3] #[4] false, [], []⟩
noncomputable def i58 : TInfo := ⟨1, 8, .pointer none, .nilp, .pointer 91, [], []⟩
noncomputable def i59 : TInfo := ⟨1, 24, .slice none 0 0, .nils, .slice 84, [], []⟩
noncomputable def i60 : TInfo := ⟨3, 40, .agg #[.pointer none, .slice none 0 0, .bool false], .agg [.nilp, .nils, .bool false], .struct #[{ name := "tables", type := 58, offset := 0, embedded := true, tag := "", pkgPath := "bandplan/propagate", byteOffset := 0 }, { name := "left", type := 59, offset := 1, embedded := false, tag := "", pkgPath := "bandplan/propagate", byteOffset := 8 }, { name := "bad", type := 4, offset := 2, embedded := false, tag := "", pkgPath := "bandplan/propagate", byteOffset := 32 }], [0, 1, 2], [(0, 1), (1, 1), (2, 1)]⟩
noncomputable def i61 : TInfo := ⟨3, 40, .agg #[.pointer none, .slice none 0 0, .bool false], .agg [.nilp, .nils, .bool false], .struct #[{ name := "tables", type := 58, offset := 0, embedded := true, tag := "", pkgPath := "bandplan/propagate", byteOffset := 0 }, { name := "left", type := 59, offset := 1, embedded := false, tag := "", pkgPath := "bandplan/propagate", byteOffset := 8 }, { name := "bad", type := 4, offset := 2, embedded := false, tag := "", pkgPath := "bandplan/propagate", byteOffset := 32 }], [0, 1, 2], [(0, 1), (1, 1), (2, 1)]⟩
noncomputable def i62 : TInfo := ⟨1, 24, .slice none 0 0, .nils, .slice 34, [], []⟩
noncomputable def i64 : TInfo := ⟨1, 8, .nilFunc, .nilfn, .func #[3] #[54, 35] false, [], []⟩
noncomputable def i65 : TInfo := ⟨1, 8, .nilFunc, .nilfn, .func #[39] #[35] false, [], []⟩
noncomputable def i66 : TInfo := ⟨1, 8, .nilFunc, .nilfn, .func #[] #[34] false, [], []⟩
noncomputable def i67 : TInfo := ⟨1, 8, .nilFunc, .nilfn, .func #[39, 3] #[4] false, [], []⟩
noncomputable def i68 : TInfo := ⟨1, 8, .nilFunc, .nilfn, .func #[27] #[4] false, [], []⟩
noncomputable def i69 : TInfo := ⟨1, 8, .nilFunc, .nilfn, .func #[3] #[4] false, [], []⟩
noncomputable def i70 : TInfo := ⟨1, 8, .nilFunc, .nilfn, .func #[29, 3] #[3] false, [], []⟩
noncomputable def i71 : TInfo := ⟨5, 40, .agg #[.int .i64 0, .int .i64 0, .int .i64 0, .int .i64 0, .int .i64 0], .agg [.int .i64 0, .int .i64 0, .int .i64 0, .int .i64 0, .int .i64 0], .struct #[{ name := "A", type := 3, offset := 0, embedded := false, tag := "", pkgPath := "", byteOffset := 0 }, { name := "B", type := 3, offset := 1, embedded := false, tag := "", pkgPath := "", byteOffset := 8 }, { name := "Offset", type := 3, offset := 2, embedded := false, tag := "", pkgPath := "", byteOffset := 16 }, { name := "Low", type := 3, offset := 3, embedded := false, tag := "", pkgPath := "", byteOffset := 24 }, { name := "High", type := 3, offset := 4, embedded := false, tag := "", pkgPath := "", byteOffset := 32 }], [0, 1, 2, 3, 4], [(0, 1), (1, 1), (2, 1), (3, 1), (4, 1)]⟩
noncomputable def i72 : TInfo := ⟨5, 40, .agg #[.int .i64 0, .int .i64 0, .int .i64 0, .int .i64 0, .int .i64 0], .agg [.int .i64 0, .int .i64 0, .int .i64 0, .int .i64 0, .int .i64 0], .struct #[{ name := "A", type := 3, offset := 0, embedded := false, tag := "", pkgPath := "", byteOffset := 0 }, { name := "B", type := 3, offset := 1, embedded := false, tag := "", pkgPath := "", byteOffset := 8 }, { name := "Offset", type := 3, offset := 2, embedded := false, tag := "", pkgPath := "", byteOffset := 16 }, { name := "Low", type := 3, offset := 3, embedded := false, tag := "", pkgPath := "", byteOffset := 24 }, { name := "High", type := 3, offset := 4, embedded := false, tag := "", pkgPath := "", byteOffset := 32 }], [0, 1, 2, 3, 4], [(0, 1), (1, 1), (2, 1), (3, 1), (4, 1)]⟩
noncomputable def i73 : TInfo := ⟨5, 40, .agg #[.int .i64 0, .int .i64 0, .int .i64 0, .int .i64 0, .int .i64 0], .agg [.int .i64 0, .int .i64 0, .int .i64 0, .int .i64 0, .int .i64 0], .struct #[{ name := "To", type := 3, offset := 0, embedded := false, tag := "", pkgPath := "", byteOffset := 0 }, { name := "From", type := 3, offset := 1, embedded := false, tag := "", pkgPath := "", byteOffset := 8 }, { name := "Weight", type := 3, offset := 2, embedded := false, tag := "", pkgPath := "", byteOffset := 16 }, { name := "Low", type := 3, offset := 3, embedded := false, tag := "", pkgPath := "", byteOffset := 24 }, { name := "High", type := 3, offset := 4, embedded := false, tag := "", pkgPath := "", byteOffset := 32 }], [0, 1, 2, 3, 4], [(0, 1), (1, 1), (2, 1), (3, 1), (4, 1)]⟩
noncomputable def i74 : TInfo := ⟨5, 40, .agg #[.int .i64 0, .int .i64 0, .int .i64 0, .int .i64 0, .int .i64 0], .agg [.int .i64 0, .int .i64 0, .int .i64 0, .int .i64 0, .int .i64 0], .struct #[{ name := "To", type := 3, offset := 0, embedded := false, tag := "", pkgPath := "", byteOffset := 0 }, { name := "From", type := 3, offset := 1, embedded := false, tag := "", pkgPath := "", byteOffset := 8 }, { name := "Weight", type := 3, offset := 2, embedded := false, tag := "", pkgPath := "", byteOffset := 16 }, { name := "Low", type := 3, offset := 3, embedded := false, tag := "", pkgPath := "", byteOffset := 24 }, { name := "High", type := 3, offset := 4, embedded := false, tag := "", pkgPath := "", byteOffset := 32 }], [0, 1, 2, 3, 4], [(0, 1), (1, 1), (2, 1), (3, 1), (4, 1)]⟩
noncomputable def i75 : TInfo := ⟨4, 32, .agg #[.int .i64 0, .int .i64 0, .int .i64 0, .int .i64 0], .agg [.int .i64 0, .int .i64 0, .int .i64 0, .int .i64 0], .struct #[{ name := "Station", type := 3, offset := 0, embedded := false, tag := "", pkgPath := "", byteOffset := 0 }, { name := "Max", type := 3, offset := 1, embedded := false, tag := "", pkgPath := "", byteOffset := 8 }, { name := "Low", type := 3, offset := 2, embedded := false, tag := "", pkgPath := "", byteOffset := 16 }, { name := "High", type := 3, offset := 3, embedded := false, tag := "", pkgPath := "", byteOffset := 24 }], [0, 1, 2, 3], [(0, 1), (1, 1), (2, 1), (3, 1)]⟩
noncomputable def i76 : TInfo := ⟨4, 32, .agg #[.int .i64 0, .int .i64 0, .int .i64 0, .int .i64 0], .agg [.int .i64 0, .int .i64 0, .int .i64 0, .int .i64 0], .struct #[{ name := "Station", type := 3, offset := 0, embedded := false, tag := "", pkgPath := "", byteOffset := 0 }, { name := "Max", type := 3, offset := 1, embedded := false, tag := "", pkgPath := "", byteOffset := 8 }, { name := "Low", type := 3, offset := 2, embedded := false, tag := "", pkgPath := "", byteOffset := 16 }, { name := "High", type := 3, offset := 3, embedded := false, tag := "", pkgPath := "", byteOffset := 24 }], [0, 1, 2, 3], [(0, 1), (1, 1), (2, 1), (3, 1)]⟩
noncomputable def i77 : TInfo := ⟨1, 8, .nilFunc, .nilfn, .func #[] #[29] false, [], []⟩
noncomputable def i79 : TInfo := ⟨1, 8, .nilFunc, .nilfn, .func #[29, 47] #[22, 4, 35] false, [], []⟩
noncomputable def i80 : TInfo := ⟨1, 8, .nilFunc, .nilfn, .func #[47, 47] #[4] false, [], []⟩
noncomputable def i81 : TInfo := ⟨1, 8, .nilFunc, .nilfn, .func #[22] #[47] false, [], []⟩
noncomputable def i82 : TInfo := ⟨1, 8, .nilFunc, .nilfn, .func #[29] #[58] false, [], []⟩
noncomputable def i83 : TInfo := ⟨1, 8, .nilFunc, .nilfn, .func #[59] #[59] false, [], []⟩
noncomputable def i84 : TInfo := ⟨1, 8, .int .u64 0, .int .u64 0, .int .u64, [], []⟩
noncomputable def i85 : TInfo := ⟨1, 8, .map none, .nilmap, .map 3 3, [], []⟩
noncomputable def i86 : TInfo := ⟨1, 24, .slice none 0 0, .nils, .slice 23, [], []⟩
noncomputable def i87 : TInfo := ⟨1, 24, .slice none 0 0, .nils, .slice 24, [], []⟩
noncomputable def i88 : TInfo := ⟨1, 24, .slice none 0 0, .nils, .slice 25, [], []⟩
noncomputable def i89 : TInfo := ⟨1, 24, .slice none 0 0, .nils, .slice 94, [], []⟩
noncomputable def i90 : TInfo := ⟨8, 176, .agg #[.slice none 0 0, .slice none 0 0, .map none, .slice none 0 0, .slice none 0 0, .slice none 0 0, .slice none 0 0, .slice none 0 0], .agg [.nils, .nils, .nilmap, .nils, .nils, .nils, .nils, .nils], .struct #[{ name := "stations", type := 54, offset := 0, embedded := false, tag := "", pkgPath := "bandplan/propagate", byteOffset := 0 }, { name := "full", type := 59, offset := 1, embedded := false, tag := "", pkgPath := "bandplan/propagate", byteOffset := 24 }, { name := "at", type := 85, offset := 2, embedded := false, tag := "", pkgPath := "bandplan/propagate", byteOffset := 48 }, { name := "pairs", type := 86, offset := 3, embedded := false, tag := "", pkgPath := "bandplan/propagate", byteOffset := 56 }, { name := "to", type := 87, offset := 4, embedded := false, tag := "", pkgPath := "bandplan/propagate", byteOffset := 80 }, { name := "from", type := 87, offset := 5, embedded := false, tag := "", pkgPath := "bandplan/propagate", byteOffset := 104 }, { name := "caps", type := 88, offset := 6, embedded := false, tag := "", pkgPath := "bandplan/propagate", byteOffset := 128 }, { name := "near", type := 89, offset := 7, embedded := false, tag := "", pkgPath := "bandplan/propagate", byteOffset := 152 }], [0, 1, 2, 3, 4, 5, 6, 7], [(0, 1), (1, 1), (2, 1), (3, 1), (4, 1), (5, 1), (6, 1), (7, 1)]⟩
noncomputable def i91 : TInfo := ⟨8, 176, .agg #[.slice none 0 0, .slice none 0 0, .map none, .slice none 0 0, .slice none 0 0, .slice none 0 0, .slice none 0 0, .slice none 0 0], .agg [.nils, .nils, .nilmap, .nils, .nils, .nils, .nils, .nils], .struct #[{ name := "stations", type := 54, offset := 0, embedded := false, tag := "", pkgPath := "bandplan/propagate", byteOffset := 0 }, { name := "full", type := 59, offset := 1, embedded := false, tag := "", pkgPath := "bandplan/propagate", byteOffset := 24 }, { name := "at", type := 85, offset := 2, embedded := false, tag := "", pkgPath := "bandplan/propagate", byteOffset := 48 }, { name := "pairs", type := 86, offset := 3, embedded := false, tag := "", pkgPath := "bandplan/propagate", byteOffset := 56 }, { name := "to", type := 87, offset := 4, embedded := false, tag := "", pkgPath := "bandplan/propagate", byteOffset := 80 }, { name := "from", type := 87, offset := 5, embedded := false, tag := "", pkgPath := "bandplan/propagate", byteOffset := 104 }, { name := "caps", type := 88, offset := 6, embedded := false, tag := "", pkgPath := "bandplan/propagate", byteOffset := 128 }, { name := "near", type := 89, offset := 7, embedded := false, tag := "", pkgPath := "bandplan/propagate", byteOffset := 152 }], [0, 1, 2, 3, 4, 5, 6, 7], [(0, 1), (1, 1), (2, 1), (3, 1), (4, 1), (5, 1), (6, 1), (7, 1)]⟩
noncomputable def i92 : TInfo := ⟨8, 64, .agg #[.int .u64 0, .int .u64 0, .int .u64 0, .int .u64 0, .int .u64 0, .int .u64 0, .int .u64 0, .int .u64 0], .agg [.int .u64 0, .int .u64 0, .int .u64 0, .int .u64 0, .int .u64 0, .int .u64 0, .int .u64 0, .int .u64 0], .array 8 84, [], []⟩
noncomputable def i93 : TInfo := ⟨8, 64, .agg #[.int .u64 0, .int .u64 0, .int .u64 0, .int .u64 0, .int .u64 0, .int .u64 0, .int .u64 0, .int .u64 0], .agg [.int .u64 0, .int .u64 0, .int .u64 0, .int .u64 0, .int .u64 0, .int .u64 0, .int .u64 0, .int .u64 0], .struct #[{ name := "words", type := 92, offset := 0, embedded := false, tag := "", pkgPath := "bandplan/bitset", byteOffset := 0 }], [0], [(0, 8)]⟩
noncomputable def i94 : TInfo := ⟨8, 64, .agg #[.int .u64 0, .int .u64 0, .int .u64 0, .int .u64 0, .int .u64 0, .int .u64 0, .int .u64 0, .int .u64 0], .agg [.int .u64 0, .int .u64 0, .int .u64 0, .int .u64 0, .int .u64 0, .int .u64 0, .int .u64 0, .int .u64 0], .struct #[{ name := "words", type := 92, offset := 0, embedded := false, tag := "", pkgPath := "bandplan/bitset", byteOffset := 0 }], [0], [(0, 8)]⟩
noncomputable def i96 : TInfo := ⟨1, 8, .nilFunc, .nilfn, .func #[3] #[94, 35] false, [], []⟩
noncomputable def i97 : TInfo := ⟨1, 8, .nilFunc, .nilfn, .func #[54] #[] false, [], []⟩
noncomputable def i98 : TInfo := ⟨1, 8, .nilFunc, .nilfn, .func #[] #[54] false, [], []⟩
noncomputable def i99 : TInfo := ⟨1, 8, .nilFunc, .nilfn, .func #[54, 54] #[4] false, [], []⟩
noncomputable def i100 : TInfo := ⟨1, 8, .nilFunc, .nilfn, .func #[84] #[54] false, [], []⟩
noncomputable def i101 : TInfo := ⟨1, 8, .nilFunc, .nilfn, .func #[84] #[3] false, [], []⟩
noncomputable def i103 : TInfo := ⟨1, 8, .nilFunc, .nilfn, .func #[84] #[3, 4] false, [], []⟩
noncomputable def i104 : TInfo := ⟨1, 8, .nilFunc, .nilfn, .func #[47] #[4] false, [], []⟩
noncomputable def i105 : TInfo := ⟨1, 8, .int .i64 0, .int .i64 0, .int .i64, [], []⟩
noncomputable def i106 : TInfo := ⟨2, 16, .agg #[.int .i64 0, .int .i64 0], .agg [.int .i64 0, .int .i64 0], .struct #[{ name := "Kind", type := 105, offset := 0, embedded := false, tag := "", pkgPath := "", byteOffset := 0 }, { name := "At", type := 3, offset := 1, embedded := false, tag := "", pkgPath := "", byteOffset := 8 }], [0, 1], [(0, 1), (1, 1)]⟩
noncomputable def i107 : TInfo := ⟨2, 16, .agg #[.int .i64 0, .int .i64 0], .agg [.int .i64 0, .int .i64 0], .struct #[{ name := "Kind", type := 105, offset := 0, embedded := false, tag := "", pkgPath := "", byteOffset := 0 }, { name := "At", type := 3, offset := 1, embedded := false, tag := "", pkgPath := "", byteOffset := 8 }], [0, 1], [(0, 1), (1, 1)]⟩
noncomputable def i108 : TInfo := ⟨1, 8, .nilFunc, .nilfn, .func #[29, 47, 4] #[107] false, [], []⟩
noncomputable def i109 : TInfo := ⟨1, 8, .nilFunc, .nilfn, .func #[47, 3] #[3] false, [], []⟩
noncomputable def i110 : TInfo := ⟨1, 8, .nilFunc, .nilfn, .func #[3] #[3, 4] false, [], []⟩
noncomputable def i111 : TInfo := ⟨1, 8, .nilFunc, .nilfn, .func #[3] #[84] false, [], []⟩
noncomputable def i112 : TInfo := ⟨1, 8, .nilFunc, .nilfn, .func #[39, 113] #[35] false, [], []⟩
noncomputable def i113 : TInfo := ⟨1, 8, .nilFunc, .nilfn, .func #[84, 84] #[84] false, [], []⟩
noncomputable def i114 : TInfo := ⟨1, 8, .nilFunc, .nilfn, .func #[3, 3] #[4] false, [], []⟩
noncomputable def i115 : TInfo := ⟨1, 8, .nilFunc, .nilfn, .func #[72] #[54] false, [], []⟩
noncomputable def i116 : TInfo := ⟨1, 8, .nilFunc, .nilfn, .func #[74] #[54] false, [], []⟩
noncomputable def i117 : TInfo := ⟨1, 8, .nilFunc, .nilfn, .func #[76] #[54] false, [], []⟩
noncomputable def i118 : TInfo := ⟨1, 8, .nilFunc, .nilfn, .func #[22, 121, 122] #[4] false, [], []⟩
noncomputable def i119 : TInfo := ⟨1, 8, .nilFunc, .nilfn, .func #[54, 69, 120] #[4] false, [], []⟩
noncomputable def i120 : TInfo := ⟨1, 8, .nilFunc, .nilfn, .func #[3, 3] #[3] false, [], []⟩
noncomputable def i121 : TInfo := ⟨1, 8, .nilFunc, .nilfn, .func #[56] #[4] false, [], []⟩
noncomputable def i122 : TInfo := ⟨1, 8, .nilFunc, .nilfn, .func #[56, 56] #[3] false, [], []⟩
noncomputable def i123 : TInfo := ⟨512, 4096, .agg (Array.replicate 512 (.int .i64 0)), .agg (List.replicate 512 (.int .i64 0)), .array 512 3, [], []⟩
noncomputable def i124 : TInfo := ⟨1, 8, .nilFunc, .nilfn, .func #[29] #[123] false, [], []⟩
noncomputable def i125 : TInfo := ⟨1, 8, .nilFunc, .nilfn, .func #[3, 3] #[] false, [], []⟩
noncomputable def i126 : TInfo := ⟨1, 8, .nilFunc, .nilfn, .func #[34, 3] #[] false, [], []⟩
noncomputable def i127 : TInfo := ⟨1, 8, .nilFunc, .nilfn, .func #[3] #[] false, [], []⟩
noncomputable def i128 : TInfo := ⟨3, 24, .agg #[.nilFunc, .nilFunc, .nilFunc], .agg [.nilfn, .nilfn, .nilfn], .array 3 126, [], []⟩
noncomputable def i129 : TInfo := ⟨1, 8, .nilFunc, .nilfn, .func #[54] #[94, 35] true, [], []⟩
noncomputable def i130 : TInfo := ⟨1, 8, .nilFunc, .nilfn, .func #[69] #[] false, [], []⟩
noncomputable def i131 : TInfo := ⟨1, 8, .nilFunc, .nilfn, .func #[69] #[] false, [], []⟩
noncomputable def i132 : TInfo := ⟨1, 8, .nilFunc, .nilfn, .func #[] #[131] false, [], []⟩
noncomputable def i133 : TInfo := ⟨1, 8, .nilFunc, .nilfn, .func #[94] #[94] false, [], []⟩
noncomputable def i134 : TInfo := ⟨1, 8, .nilFunc, .nilfn, .func #[131] #[54] false, [], []⟩
noncomputable def i135 : TInfo := ⟨1, 8, .int .u64 0, .int .u64 0, .int .u64, [], []⟩
noncomputable def i136 : TInfo := ⟨1, 8, .nilFunc, .nilfn, .func #[54, 3] #[4] false, [], []⟩
noncomputable def i137 : TInfo := ⟨1, 8, .nilFunc, .nilfn, .func #[72, 47] #[4] false, [], []⟩
noncomputable def i138 : TInfo := ⟨1, 8, .nilFunc, .nilfn, .func #[29, 76, 47] #[4] false, [], []⟩
noncomputable def i139 : TInfo := ⟨1, 8, .nilFunc, .nilfn, .func #[47, 51, 140] #[4] false, [], []⟩
noncomputable def i140 : TInfo := ⟨1, 8, .nilFunc, .nilfn, .func #[39, 39] #[3] false, [], []⟩
noncomputable def i141 : TInfo := ⟨1, 8, .nilFunc, .nilfn, .func #[23, 142, 143] #[4] false, [], []⟩
noncomputable def i142 : TInfo := ⟨1, 8, .nilFunc, .nilfn, .func #[72] #[4] false, [], []⟩
noncomputable def i143 : TInfo := ⟨1, 8, .nilFunc, .nilfn, .func #[72, 72] #[3] false, [], []⟩
noncomputable def i144 : TInfo := ⟨1, 8, .nilFunc, .nilfn, .func #[24, 145, 146] #[4] false, [], []⟩
noncomputable def i145 : TInfo := ⟨1, 8, .nilFunc, .nilfn, .func #[74] #[4] false, [], []⟩
noncomputable def i146 : TInfo := ⟨1, 8, .nilFunc, .nilfn, .func #[74, 74] #[3] false, [], []⟩
noncomputable def i147 : TInfo := ⟨1, 8, .nilFunc, .nilfn, .func #[25, 148, 149] #[4] false, [], []⟩
noncomputable def i148 : TInfo := ⟨1, 8, .nilFunc, .nilfn, .func #[76] #[4] false, [], []⟩
noncomputable def i149 : TInfo := ⟨1, 8, .nilFunc, .nilfn, .func #[76, 76] #[3] false, [], []⟩
noncomputable def i150 : TInfo := ⟨1, 8, .nilFunc, .nilfn, .func #[3, 3, 3] #[4] false, [], []⟩
noncomputable def i151 : TInfo := ⟨1, 8, .nilFunc, .nilfn, .func #[3, 3, 3] #[3] false, [], []⟩
noncomputable def i152 : TInfo := ⟨1, 8, .nilFunc, .nilfn, .func #[3] #[3] false, [], []⟩
noncomputable def i153 : TInfo := ⟨1, 8, .nilFunc, .nilfn, .func #[54, 131] #[54] false, [], []⟩
noncomputable def i154 : TInfo := ⟨64, 64, .agg #[.int .u8 0, .int .u8 0, .int .u8 0, .int .u8 0, .int .u8 0, .int .u8 0, .int .u8 0, .int .u8 0, .int .u8 0, .int .u8 0, .int .u8 0, .int .u8 0, .int .u8 0, .int .u8 0, .int .u8 0, .int .u8 0, .int .u8 0, .int .u8 0, .int .u8 0, .int .u8 0, .int .u8 0, .int .u8 0, .int .u8 0, .int .u8 0, .int .u8 0, .int .u8 0, .int .u8 0, .int .u8 0, .int .u8 0, .int .u8 0, .int .u8 0, .int .u8 0, .int .u8 0, .int .u8 0, .int .u8 0, .int .u8 0, .int .u8 0, .int .u8 0, .int .u8 0, .int .u8 0, .int .u8 0, .int .u8 0, .int .u8 0, .int .u8 0, .int .u8 0, .int .u8 0, .int .u8 0, .int .u8 0, .int .u8 0, .int .u8 0, .int .u8 0, .int .u8 0, .int .u8 0, .int .u8 0, .int .u8 0, .int .u8 0, .int .u8 0, .int .u8 0, .int .u8 0, .int .u8 0, .int .u8 0, .int .u8 0, .int .u8 0, .int .u8 0], .agg [.int .u8 0, .int .u8 0, .int .u8 0, .int .u8 0, .int .u8 0, .int .u8 0, .int .u8 0, .int .u8 0, .int .u8 0, .int .u8 0, .int .u8 0, .int .u8 0, .int .u8 0, .int .u8 0, .int .u8 0, .int .u8 0, .int .u8 0, .int .u8 0, .int .u8 0, .int .u8 0, .int .u8 0, .int .u8 0, .int .u8 0, .int .u8 0, .int .u8 0, .int .u8 0, .int .u8 0, .int .u8 0, .int .u8 0, .int .u8 0, .int .u8 0, .int .u8 0, .int .u8 0, .int .u8 0, .int .u8 0, .int .u8 0, .int .u8 0, .int .u8 0, .int .u8 0, .int .u8 0, .int .u8 0, .int .u8 0, .int .u8 0, .int .u8 0, .int .u8 0, .int .u8 0, .int .u8 0, .int .u8 0, .int .u8 0, .int .u8 0, .int .u8 0, .int .u8 0, .int .u8 0, .int .u8 0, .int .u8 0, .int .u8 0, .int .u8 0, .int .u8 0, .int .u8 0, .int .u8 0, .int .u8 0, .int .u8 0, .int .u8 0, .int .u8 0], .array 64 5, [], []⟩
noncomputable def i155 : TInfo := ⟨1, 8, .nilFunc, .nilfn, .func #[29, 3, 3, 47] #[3] false, [], []⟩
noncomputable def i156 : TInfo := ⟨1, 8, .nilFunc, .nilfn, .func #[54] #[3] true, [], []⟩
noncomputable def i157 : TInfo := ⟨1, 8, .nilFunc, .nilfn, .func #[25, 148] #[4] false, [], []⟩
noncomputable def i158 : TInfo := ⟨1, 8, .nilFunc, .nilfn, .func #[25, 148] #[3] false, [], []⟩
noncomputable def i159 : TInfo := ⟨1, 8, .nilFunc, .nilfn, .func #[] #[9] false, [], []⟩
noncomputable def i160 : TInfo := ⟨4, 40, .agg #[.pointer none, .pointer none, .pointer none, .string ⟨#[]⟩], .agg [.nilp, .nilp, .nilp, .str ⟨#[]⟩], .struct #[{ name := "_interface", type := 17, offset := 0, embedded := false, tag := "", pkgPath := "runtime", byteOffset := 0 }, { name := "concrete", type := 17, offset := 1, embedded := false, tag := "", pkgPath := "runtime", byteOffset := 8 }, { name := "asserted", type := 17, offset := 2, embedded := false, tag := "", pkgPath := "runtime", byteOffset := 16 }, { name := "missingMethod", type := 9, offset := 3, embedded := false, tag := "", pkgPath := "runtime", byteOffset := 24 }], [0, 1, 2, 3], [(0, 1), (1, 1), (2, 1), (3, 1)]⟩
noncomputable def i161 : TInfo := ⟨4, 40, .agg #[.pointer none, .pointer none, .pointer none, .string ⟨#[]⟩], .agg [.nilp, .nilp, .nilp, .str ⟨#[]⟩], .struct #[{ name := "_interface", type := 17, offset := 0, embedded := false, tag := "", pkgPath := "runtime", byteOffset := 0 }, { name := "concrete", type := 17, offset := 1, embedded := false, tag := "", pkgPath := "runtime", byteOffset := 8 }, { name := "asserted", type := 17, offset := 2, embedded := false, tag := "", pkgPath := "runtime", byteOffset := 16 }, { name := "missingMethod", type := 9, offset := 3, embedded := false, tag := "", pkgPath := "runtime", byteOffset := 24 }], [0, 1, 2, 3], [(0, 1), (1, 1), (2, 1), (3, 1)]⟩
noncomputable def i162 : TInfo := ⟨0, 0, .agg #[], .agg [], .array 0 16, [], []⟩
noncomputable def i163 : TInfo := ⟨0, 0, .agg #[], .agg [], .struct #[{ name := "_", type := 162, offset := 0, embedded := false, tag := "", pkgPath := "runtime", byteOffset := 0 }], [], [(0, 0)]⟩
noncomputable def i164 : TInfo := ⟨0, 0, .agg #[], .agg [], .struct #[{ name := "_", type := 162, offset := 0, embedded := false, tag := "", pkgPath := "runtime", byteOffset := 0 }], [], [(0, 0)]⟩
noncomputable def i165 : TInfo := ⟨1, 4, .int .u32 0, .int .u32 0, .int .u32, [], []⟩
noncomputable def i166 : TInfo := ⟨1, 1, .int .u8 0, .int .u8 0, .int .u8, [], []⟩
noncomputable def i167 : TInfo := ⟨1, 1, .int .u8 0, .int .u8 0, .int .u8, [], []⟩
noncomputable def i168 : TInfo := ⟨1, 8, .nilFunc, .nilfn, .func #[174, 174] #[4] false, [], []⟩
noncomputable def i169 : TInfo := ⟨1, 8, .pointer none, .nilp, .pointer 5, [], []⟩
noncomputable def i170 : TInfo := ⟨1, 4, .int .i32 0, .int .i32 0, .int .i32, [], []⟩
noncomputable def i171 : TInfo := ⟨1, 4, .int .i32 0, .int .i32 0, .int .i32, [], []⟩
noncomputable def i172 : TInfo := ⟨11, 48, .agg #[.int .u64 0, .int .u64 0, .int .u32 0, .int .u8 0, .int .u8 0, .int .u8 0, .int .u8 0, .nilFunc, .pointer none, .int .i32 0, .int .i32 0], .agg [.int .u64 0, .int .u64 0, .int .u32 0, .int .u8 0, .int .u8 0, .int .u8 0, .int .u8 0, .nilfn, .nilp, .int .i32 0, .int .i32 0], .struct #[{ name := "Size_", type := 12, offset := 0, embedded := false, tag := "", pkgPath := "", byteOffset := 0 }, { name := "PtrBytes", type := 12, offset := 1, embedded := false, tag := "", pkgPath := "", byteOffset := 8 }, { name := "Hash", type := 165, offset := 2, embedded := false, tag := "", pkgPath := "", byteOffset := 16 }, { name := "TFlag", type := 166, offset := 3, embedded := false, tag := "", pkgPath := "", byteOffset := 20 }, { name := "Align_", type := 5, offset := 4, embedded := false, tag := "", pkgPath := "", byteOffset := 21 }, { name := "FieldAlign_", type := 5, offset := 5, embedded := false, tag := "", pkgPath := "", byteOffset := 22 }, { name := "Kind_", type := 167, offset := 6, embedded := false, tag := "", pkgPath := "", byteOffset := 23 }, { name := "Equal", type := 168, offset := 7, embedded := false, tag := "", pkgPath := "", byteOffset := 24 }, { name := "GCData", type := 169, offset := 8, embedded := false, tag := "", pkgPath := "", byteOffset := 32 }, { name := "Str", type := 170, offset := 9, embedded := false, tag := "", pkgPath := "", byteOffset := 40 }, { name := "PtrToThis", type := 171, offset := 10, embedded := false, tag := "", pkgPath := "", byteOffset := 44 }], [0, 1, 2, 3, 4, 5, 6, 7, 8, 9, 10], [(0, 1), (1, 1), (2, 1), (3, 1), (4, 1), (5, 1), (6, 1), (7, 1), (8, 1), (9, 1), (10, 1)]⟩
noncomputable def i173 : TInfo := ⟨11, 48, .agg #[.int .u64 0, .int .u64 0, .int .u32 0, .int .u8 0, .int .u8 0, .int .u8 0, .int .u8 0, .nilFunc, .pointer none, .int .i32 0, .int .i32 0], .agg [.int .u64 0, .int .u64 0, .int .u32 0, .int .u8 0, .int .u8 0, .int .u8 0, .int .u8 0, .nilfn, .nilp, .int .i32 0, .int .i32 0], .struct #[{ name := "Size_", type := 12, offset := 0, embedded := false, tag := "", pkgPath := "", byteOffset := 0 }, { name := "PtrBytes", type := 12, offset := 1, embedded := false, tag := "", pkgPath := "", byteOffset := 8 }, { name := "Hash", type := 165, offset := 2, embedded := false, tag := "", pkgPath := "", byteOffset := 16 }, { name := "TFlag", type := 166, offset := 3, embedded := false, tag := "", pkgPath := "", byteOffset := 20 }, { name := "Align_", type := 5, offset := 4, embedded := false, tag := "", pkgPath := "", byteOffset := 21 }, { name := "FieldAlign_", type := 5, offset := 5, embedded := false, tag := "", pkgPath := "", byteOffset := 22 }, { name := "Kind_", type := 167, offset := 6, embedded := false, tag := "", pkgPath := "", byteOffset := 23 }, { name := "Equal", type := 168, offset := 7, embedded := false, tag := "", pkgPath := "", byteOffset := 24 }, { name := "GCData", type := 169, offset := 8, embedded := false, tag := "", pkgPath := "", byteOffset := 32 }, { name := "Str", type := 170, offset := 9, embedded := false, tag := "", pkgPath := "", byteOffset := 40 }, { name := "PtrToThis", type := 171, offset := 10, embedded := false, tag := "", pkgPath := "", byteOffset := 44 }], [0, 1, 2, 3, 4, 5, 6, 7, 8, 9, 10], [(0, 1), (1, 1), (2, 1), (3, 1), (4, 1), (5, 1), (6, 1), (7, 1), (8, 1), (9, 1), (10, 1)]⟩
theorem o1 : TOk Tryd.prog 1 i1 where
  inf := ti1
  zav := ⟨by kernel_rfl, by kernel_rfl, by kernel_rfl, by kernel_rfl⟩
  offs := fun j off h => by simp [i1] at h
  pl := fun h => absurd rfl h
theorem o2 : TOk Tryd.prog 2 i2 where
  inf := ti2
  zav := ⟨by kernel_rfl, by kernel_rfl, by kernel_rfl, by kernel_rfl⟩
  offs := fun j off h => by simp [i2] at h
  pl := fun h => absurd rfl h
theorem o3 : TOk Tryd.prog 3 i3 where
  inf := ti3
  zav := ⟨by kernel_rfl, by kernel_rfl, by kernel_rfl, by kernel_rfl⟩
  offs := fun j off h => by simp [i3] at h
  pl := fun h => absurd rfl h
theorem o4 : TOk Tryd.prog 4 i4 where
  inf := ti4
  zav := ⟨by kernel_rfl, by kernel_rfl, by kernel_rfl, by kernel_rfl⟩
  offs := fun j off h => by simp [i4] at h
  pl := fun h => absurd rfl h
theorem o5 : TOk Tryd.prog 5 i5 where
  inf := ti5
  zav := ⟨by kernel_rfl, by kernel_rfl, by kernel_rfl, by kernel_rfl⟩
  offs := fun j off h => by simp [i5] at h
  pl := fun h => absurd rfl h
theorem o6 : TOk Tryd.prog 6 i6 where
  inf := ti6
  zav := ⟨by kernel_rfl, by kernel_rfl, by kernel_rfl, by kernel_rfl⟩
  offs := fun j off h => by simp [i6] at h
  pl := fun h => absurd rfl h
theorem o7 : TOk Tryd.prog 7 i7 where
  inf := ti7
  zav := ⟨by kernel_rfl, by kernel_rfl, by kernel_rfl, by kernel_rfl⟩
  offs := fun j off h => match j, h with
    | 0, h => by cases h; exact ⟨_, _, _, _, _, _, rfl, rfl, rfl, ti2, rfl⟩
    | 1, h => by cases h; exact ⟨_, _, _, _, _, _, rfl, rfl, rfl, ti3, rfl⟩
    | 2, h => by cases h; exact ⟨_, _, _, _, _, _, rfl, rfl, rfl, ti4, rfl⟩
    | 3, h => by cases h; exact ⟨_, _, _, _, _, _, rfl, rfl, rfl, ti6, rfl⟩
    | _ + 4, h => by simp [i7] at h
  pl := fun _ => ⟨_, rfl, fun w => by kernel_rfl⟩
theorem o8 : TOk Tryd.prog 8 i8 where
  inf := ti8
  zav := ⟨by kernel_rfl, by kernel_rfl, by kernel_rfl, by kernel_rfl⟩
  offs := fun j off h => match j, h with
    | 0, h => by cases h; exact ⟨_, _, _, _, _, _, rfl, rfl, rfl, ti2, rfl⟩
    | 1, h => by cases h; exact ⟨_, _, _, _, _, _, rfl, rfl, rfl, ti3, rfl⟩
    | 2, h => by cases h; exact ⟨_, _, _, _, _, _, rfl, rfl, rfl, ti4, rfl⟩
    | 3, h => by cases h; exact ⟨_, _, _, _, _, _, rfl, rfl, rfl, ti6, rfl⟩
    | _ + 4, h => by simp [i8] at h
  pl := fun _ => ⟨_, rfl, fun w => by kernel_rfl⟩
theorem o9 : TOk Tryd.prog 9 i9 where
  inf := ti9
  zav := ⟨by kernel_rfl, by kernel_rfl, by kernel_rfl, by kernel_rfl⟩
  offs := fun j off h => by simp [i9] at h
  pl := fun h => absurd rfl h
theorem o10 : TOk Tryd.prog 10 i10 where
  inf := ti10
  zav := ⟨by kernel_rfl, by kernel_rfl, by kernel_rfl, by kernel_rfl⟩
  offs := fun j off h => by simp [i10] at h
  pl := fun h => absurd rfl h
theorem o11 : TOk Tryd.prog 11 i11 where
  inf := ti11
  zav := ⟨by kernel_rfl, by kernel_rfl, by kernel_rfl, by kernel_rfl⟩
  offs := fun j off h => by simp [i11] at h
  pl := fun h => absurd rfl h
theorem o12 : TOk Tryd.prog 12 i12 where
  inf := ti12
  zav := ⟨by kernel_rfl, by kernel_rfl, by kernel_rfl, by kernel_rfl⟩
  offs := fun j off h => by simp [i12] at h
  pl := fun h => absurd rfl h
theorem o13 : TOk Tryd.prog 13 i13 where
  inf := ti13
  zav := ⟨by kernel_rfl, by kernel_rfl, by kernel_rfl, by kernel_rfl⟩
  offs := fun j off h => match j, h with
    | 0, h => by cases h; exact ⟨_, _, _, _, _, _, rfl, rfl, rfl, ti9, rfl⟩
    | 1, h => by cases h; exact ⟨_, _, _, _, _, _, rfl, rfl, rfl, ti12, rfl⟩
    | _ + 2, h => by simp [i13] at h
  pl := fun _ => ⟨_, rfl, fun w => by kernel_rfl⟩
theorem o14 : TOk Tryd.prog 14 i14 where
  inf := ti14
  zav := ⟨by kernel_rfl, by kernel_rfl, by kernel_rfl, by kernel_rfl⟩
  offs := fun j off h => match j, h with
    | 0, h => by cases h; exact ⟨_, _, _, _, _, _, rfl, rfl, rfl, ti9, rfl⟩
    | 1, h => by cases h; exact ⟨_, _, _, _, _, _, rfl, rfl, rfl, ti12, rfl⟩
    | _ + 2, h => by simp [i14] at h
  pl := fun _ => ⟨_, rfl, fun w => by kernel_rfl⟩
theorem o15 : TOk Tryd.prog 15 i15 where
  inf := ti15
  zav := ⟨by kernel_rfl, by kernel_rfl, by kernel_rfl, by kernel_rfl⟩
  offs := fun j off h => by simp [i15] at h
  pl := fun h => absurd rfl h
theorem o16 : TOk Tryd.prog 16 i16 where
  inf := ti16
  zav := ⟨by kernel_rfl, by kernel_rfl, by kernel_rfl, by kernel_rfl⟩
  offs := fun j off h => by simp [i16] at h
  pl := fun h => absurd rfl h
theorem o17 : TOk Tryd.prog 17 i17 where
  inf := ti17
  zav := ⟨by kernel_rfl, by kernel_rfl, by kernel_rfl, by kernel_rfl⟩
  offs := fun j off h => by simp [i17] at h
  pl := fun h => absurd rfl h
theorem o18 : TOk Tryd.prog 18 i18 where
  inf := ti18
  zav := ⟨by kernel_rfl, by kernel_rfl, by kernel_rfl, by kernel_rfl⟩
  offs := fun j off h => match j, h with
    | 0, h => by cases h; exact ⟨_, _, _, _, _, _, rfl, rfl, rfl, ti17, rfl⟩
    | _ + 1, h => by simp [i18] at h
  pl := fun _ => ⟨_, rfl, fun w => by kernel_rfl⟩
theorem o19 : TOk Tryd.prog 19 i19 where
  inf := ti19
  zav := ⟨by kernel_rfl, by kernel_rfl, by kernel_rfl, by kernel_rfl⟩
  offs := fun j off h => match j, h with
    | 0, h => by cases h; exact ⟨_, _, _, _, _, _, rfl, rfl, rfl, ti17, rfl⟩
    | _ + 1, h => by simp [i19] at h
  pl := fun _ => ⟨_, rfl, fun w => by kernel_rfl⟩
theorem o21 : TOk Tryd.prog 21 i21 where
  inf := ti21
  zav := ⟨by kernel_rfl, by kernel_rfl, by kernel_rfl, by kernel_rfl⟩
  offs := fun j off h => by simp [i21] at h
  pl := fun h => absurd rfl h
theorem o22 : TOk Tryd.prog 22 i22 where
  inf := ti22
  zav := ⟨by kernel_rfl, by kernel_rfl, by kernel_rfl, by kernel_rfl⟩
  offs := fun j off h => by simp [i22] at h
  pl := fun h => absurd rfl h
theorem o23 : TOk Tryd.prog 23 i23 where
  inf := ti23
  zav := ⟨by kernel_rfl, by kernel_rfl, by kernel_rfl, by kernel_rfl⟩
  offs := fun j off h => by simp [i23] at h
  pl := fun h => absurd rfl h
theorem o24 : TOk Tryd.prog 24 i24 where
  inf := ti24
  zav := ⟨by kernel_rfl, by kernel_rfl, by kernel_rfl, by kernel_rfl⟩
  offs := fun j off h => by simp [i24] at h
  pl := fun h => absurd rfl h
theorem o25 : TOk Tryd.prog 25 i25 where
  inf := ti25
  zav := ⟨by kernel_rfl, by kernel_rfl, by kernel_rfl, by kernel_rfl⟩
  offs := fun j off h => by simp [i25] at h
  pl := fun h => absurd rfl h
theorem o26 : TOk Tryd.prog 26 i26 where
  inf := ti26
  zav := ⟨by kernel_rfl, by kernel_rfl, by kernel_rfl, by kernel_rfl⟩
  offs := fun j off h => match j, h with
    | 0, h => by cases h; exact ⟨_, _, _, _, _, _, rfl, rfl, rfl, ti23, rfl⟩
    | 1, h => by cases h; exact ⟨_, _, _, _, _, _, rfl, rfl, rfl, ti24, rfl⟩
    | 2, h => by cases h; exact ⟨_, _, _, _, _, _, rfl, rfl, rfl, ti25, rfl⟩
    | _ + 3, h => by simp [i26] at h
  pl := fun _ => ⟨_, rfl, fun w => by kernel_rfl⟩
theorem o27 : TOk Tryd.prog 27 i27 where
  inf := ti27
  zav := ⟨by kernel_rfl, by kernel_rfl, by kernel_rfl, by kernel_rfl⟩
  offs := fun j off h => match j, h with
    | 0, h => by cases h; exact ⟨_, _, _, _, _, _, rfl, rfl, rfl, ti23, rfl⟩
    | 1, h => by cases h; exact ⟨_, _, _, _, _, _, rfl, rfl, rfl, ti24, rfl⟩
    | 2, h => by cases h; exact ⟨_, _, _, _, _, _, rfl, rfl, rfl, ti25, rfl⟩
    | _ + 3, h => by simp [i27] at h
  pl := fun _ => ⟨_, rfl, fun w => by kernel_rfl⟩
theorem o28 : TOk Tryd.prog 28 i28 where
  inf := ti28
  zav := ⟨by kernel_rfl, by kernel_rfl, by kernel_rfl, by kernel_rfl⟩
  offs := fun j off h => match j, h with
    | 0, h => by cases h; exact ⟨_, _, _, _, _, _, rfl, rfl, rfl, ti22, rfl⟩
    | 1, h => by cases h; exact ⟨_, _, _, _, _, _, rfl, rfl, rfl, ti27, rfl⟩
    | _ + 2, h => by simp [i28] at h
  pl := fun _ => ⟨_, rfl, fun w => by kernel_rfl⟩
theorem o29 : TOk Tryd.prog 29 i29 where
  inf := ti29
  zav := ⟨by kernel_rfl, by kernel_rfl, by kernel_rfl, by kernel_rfl⟩
  offs := fun j off h => match j, h with
    | 0, h => by cases h; exact ⟨_, _, _, _, _, _, rfl, rfl, rfl, ti22, rfl⟩
    | 1, h => by cases h; exact ⟨_, _, _, _, _, _, rfl, rfl, rfl, ti27, rfl⟩
    | _ + 2, h => by simp [i29] at h
  pl := fun _ => ⟨_, rfl, fun w => by kernel_rfl⟩
theorem o30 : TOk Tryd.prog 30 i30 where
  inf := ti30
  zav := ⟨by kernel_rfl, by kernel_rfl, by kernel_rfl, by kernel_rfl⟩
  offs := fun j off h => by simp [i30] at h
  pl := fun h => absurd rfl h
theorem o31 : TOk Tryd.prog 31 i31 where
  inf := ti31
  zav := ⟨by kernel_rfl, by kernel_rfl, by kernel_rfl, by kernel_rfl⟩
  offs := fun j off h => by simp [i31] at h
  pl := fun h => absurd rfl h
theorem o32 : TOk Tryd.prog 32 i32 where
  inf := ti32
  zav := ⟨by kernel_rfl, by kernel_rfl, by kernel_rfl, by kernel_rfl⟩
  offs := fun j off h => by simp [i32] at h
  pl := fun h => absurd rfl h
theorem o33 : TOk Tryd.prog 33 i33 where
  inf := ti33
  zav := ⟨by kernel_rfl, by kernel_rfl, by kernel_rfl, by kernel_rfl⟩
  offs := fun j off h => by simp [i33] at h
  pl := fun h => absurd rfl h
theorem o34 : TOk Tryd.prog 34 i34 where
  inf := ti34
  zav := ⟨by kernel_rfl, by kernel_rfl, by kernel_rfl, by kernel_rfl⟩
  offs := fun j off h => by simp [i34] at h
  pl := fun h => absurd rfl h
theorem o35 : TOk Tryd.prog 35 i35 where
  inf := ti35
  zav := ⟨by kernel_rfl, by kernel_rfl, by kernel_rfl, by kernel_rfl⟩
  offs := fun j off h => by simp [i35] at h
  pl := fun h => absurd rfl h
theorem o37 : TOk Tryd.prog 37 i37 where
  inf := ti37
  zav := ⟨by kernel_rfl, by kernel_rfl, by kernel_rfl, by kernel_rfl⟩
  offs := fun j off h => by simp [i37] at h
  pl := fun h => absurd rfl h
theorem o38 : TOk Tryd.prog 38 i38 where
  inf := ti38
  zav := ⟨by kernel_rfl, by kernel_rfl, by kernel_rfl, by kernel_rfl⟩
  offs := fun j off h => match j, h with
    | 0, h => by cases h; exact ⟨_, _, _, _, _, _, rfl, rfl, rfl, ti3, rfl⟩
    | 1, h => by cases h; exact ⟨_, _, _, _, _, _, rfl, rfl, rfl, ti3, rfl⟩
    | _ + 2, h => by simp [i38] at h
  pl := fun _ => ⟨_, rfl, fun w => by kernel_rfl⟩
theorem o39 : TOk Tryd.prog 39 i39 where
  inf := ti39
  zav := ⟨by kernel_rfl, by kernel_rfl, by kernel_rfl, by kernel_rfl⟩
  offs := fun j off h => match j, h with
    | 0, h => by cases h; exact ⟨_, _, _, _, _, _, rfl, rfl, rfl, ti3, rfl⟩
    | 1, h => by cases h; exact ⟨_, _, _, _, _, _, rfl, rfl, rfl, ti3, rfl⟩
    | _ + 2, h => by simp [i39] at h
  pl := fun _ => ⟨_, rfl, fun w => by kernel_rfl⟩
theorem o40 : TOk Tryd.prog 40 i40 where
  inf := ti40
  zav := ⟨by kernel_rfl, by kernel_rfl, by kernel_rfl, by kernel_rfl⟩
  offs := fun j off h => match j, h with
    | 0, h => by cases h; exact ⟨_, _, _, _, _, _, rfl, rfl, rfl, ti3, rfl⟩
    | 1, h => by cases h; exact ⟨_, _, _, _, _, _, rfl, rfl, rfl, ti39, rfl⟩
    | _ + 2, h => by simp [i40] at h
  pl := fun _ => ⟨_, rfl, fun w => by kernel_rfl⟩
theorem o41 : TOk Tryd.prog 41 i41 where
  inf := ti41
  zav := ⟨by kernel_rfl, by kernel_rfl, by kernel_rfl, by kernel_rfl⟩
  offs := fun j off h => match j, h with
    | 0, h => by cases h; exact ⟨_, _, _, _, _, _, rfl, rfl, rfl, ti3, rfl⟩
    | 1, h => by cases h; exact ⟨_, _, _, _, _, _, rfl, rfl, rfl, ti39, rfl⟩
    | _ + 2, h => by simp [i41] at h
  pl := fun _ => ⟨_, rfl, fun w => by kernel_rfl⟩
theorem o42 : TOk Tryd.prog 42 i42 where
  inf := ti42
  zav := ⟨by kernel_rfl, by kernel_rfl, by kernel_rfl, by kernel_rfl⟩
  offs := fun j off h => by simp [i42] at h
  pl := fun h => absurd rfl h
theorem o43 : TOk Tryd.prog 43 i43 where
  inf := ti43
  zav := ⟨by kernel_rfl, by kernel_rfl, by kernel_rfl, by kernel_rfl⟩
  offs := fun j off h => by simp [i43] at h
  pl := fun h => absurd rfl h
theorem o44 : TOk Tryd.prog 44 i44 where
  inf := ti44
  zav := ⟨by kernel_rfl, by kernel_rfl, by kernel_rfl, by kernel_rfl⟩
  offs := fun j off h => by simp [i44] at h
  pl := fun h => absurd rfl h
theorem o45 : TOk Tryd.prog 45 i45 where
  inf := ti45
  zav := ⟨by kernel_rfl, by kernel_rfl, by kernel_rfl, by kernel_rfl⟩
  offs := fun j off h => by simp [i45] at h
  pl := fun h => absurd rfl h
theorem o46 : TOk Tryd.prog 46 i46 where
  inf := ti46
  zav := ⟨by kernel_rfl, by kernel_rfl, by kernel_rfl, by kernel_rfl⟩
  offs := fun j off h => by simp [i46] at h
  pl := fun h => absurd rfl h
theorem o47 : TOk Tryd.prog 47 i47 where
  inf := ti47
  zav := ⟨by kernel_rfl, by kernel_rfl, by kernel_rfl, by kernel_rfl⟩
  offs := fun j off h => by simp [i47] at h
  pl := fun h => absurd rfl h
theorem o48 : TOk Tryd.prog 48 i48 where
  inf := ti48
  zav := ⟨by kernel_rfl, by kernel_rfl, by kernel_rfl, by kernel_rfl⟩
  offs := fun j off h => by simp [i48] at h
  pl := fun h => absurd rfl h
theorem o49 : TOk Tryd.prog 49 i49 where
  inf := ti49
  zav := ⟨by kernel_rfl, by kernel_rfl, by kernel_rfl, by kernel_rfl⟩
  offs := fun j off h => by simp [i49] at h
  pl := fun h => absurd rfl h
theorem o50 : TOk Tryd.prog 50 i50 where
  inf := ti50
  zav := ⟨by kernel_rfl, by kernel_rfl, by kernel_rfl, by kernel_rfl⟩
  offs := fun j off h => by simp [i50] at h
  pl := fun h => absurd rfl h
theorem o51 : TOk Tryd.prog 51 i51 where
  inf := ti51
  zav := ⟨by kernel_rfl, by kernel_rfl, by kernel_rfl, by kernel_rfl⟩
  offs := fun j off h => by simp [i51] at h
  pl := fun h => absurd rfl h
theorem o52 : TOk Tryd.prog 52 i52 where
  inf := ti52
  zav := ⟨by kernel_rfl, by kernel_rfl, by kernel_rfl, by kernel_rfl⟩
  offs := fun j off h => by simp [i52] at h
  pl := fun h => absurd rfl h
theorem o53 : TOk Tryd.prog 53 i53 where
  inf := ti53
  zav := ⟨by kernel_rfl, by kernel_rfl, by kernel_rfl, by kernel_rfl⟩
  offs := fun j off h => by simp [i53] at h
  pl := fun h => absurd rfl h
theorem o54 : TOk Tryd.prog 54 i54 where
  inf := ti54
  zav := ⟨by kernel_rfl, by kernel_rfl, by kernel_rfl, by kernel_rfl⟩
  offs := fun j off h => by simp [i54] at h
  pl := fun h => absurd rfl h
theorem o55 : TOk Tryd.prog 55 i55 where
  inf := ti55
  zav := ⟨by kernel_rfl, by kernel_rfl, by kernel_rfl, by kernel_rfl⟩
  offs := fun j off h => match j, h with
    | 0, h => by cases h; exact ⟨_, _, _, _, _, _, rfl, rfl, rfl, ti3, rfl⟩
    | 1, h => by cases h; exact ⟨_, _, _, _, _, _, rfl, rfl, rfl, ti54, rfl⟩
    | _ + 2, h => by simp [i55] at h
  pl := fun _ => ⟨_, rfl, fun w => by kernel_rfl⟩
theorem o56 : TOk Tryd.prog 56 i56 where
  inf := ti56
  zav := ⟨by kernel_rfl, by kernel_rfl, by kernel_rfl, by kernel_rfl⟩
  offs := fun j off h => match j, h with
    | 0, h => by cases h; exact ⟨_, _, _, _, _, _, rfl, rfl, rfl, ti3, rfl⟩
    | 1, h => by cases h; exact ⟨_, _, _, _, _, _, rfl, rfl, rfl, ti54, rfl⟩
    | _ + 2, h => by simp [i56] at h
  pl := fun _ => ⟨_, rfl, fun w => by kernel_rfl⟩
theorem o57 : TOk Tryd.prog 57 i57 where
  inf := ti57
  zav := ⟨by kernel_rfl, by kernel_rfl, by kernel_rfl, by kernel_rfl⟩
  offs := fun j off h => by simp [i57] at h
  pl := fun h => absurd rfl h
theorem o58 : TOk Tryd.prog 58 i58 where
  inf := ti58
  zav := ⟨by kernel_rfl, by kernel_rfl, by kernel_rfl, by kernel_rfl⟩
  offs := fun j off h => by simp [i58] at h
  pl := fun h => absurd rfl h
theorem o59 : TOk Tryd.prog 59 i59 where
  inf := ti59
  zav := ⟨by kernel_rfl, by kernel_rfl, by kernel_rfl, by kernel_rfl⟩
  offs := fun j off h => by simp [i59] at h
  pl := fun h => absurd rfl h
theorem o60 : TOk Tryd.prog 60 i60 where
  inf := ti60
  zav := ⟨by kernel_rfl, by kernel_rfl, by kernel_rfl, by kernel_rfl⟩
  offs := fun j off h => match j, h with
    | 0, h => by cases h; exact ⟨_, _, _, _, _, _, rfl, rfl, rfl, ti58, rfl⟩
    | 1, h => by cases h; exact ⟨_, _, _, _, _, _, rfl, rfl, rfl, ti59, rfl⟩
    | 2, h => by cases h; exact ⟨_, _, _, _, _, _, rfl, rfl, rfl, ti4, rfl⟩
    | _ + 3, h => by simp [i60] at h
  pl := fun _ => ⟨_, rfl, fun w => by kernel_rfl⟩
theorem o61 : TOk Tryd.prog 61 i61 where
  inf := ti61
  zav := ⟨by kernel_rfl, by kernel_rfl, by kernel_rfl, by kernel_rfl⟩
  offs := fun j off h => match j, h with
    | 0, h => by cases h; exact ⟨_, _, _, _, _, _, rfl, rfl, rfl, ti58, rfl⟩
    | 1, h => by cases h; exact ⟨_, _, _, _, _, _, rfl, rfl, rfl, ti59, rfl⟩
    | 2, h => by cases h; exact ⟨_, _, _, _, _, _, rfl, rfl, rfl, ti4, rfl⟩
    | _ + 3, h => by simp [i61] at h
  pl := fun _ => ⟨_, rfl, fun w => by kernel_rfl⟩
theorem o62 : TOk Tryd.prog 62 i62 where
  inf := ti62
  zav := ⟨by kernel_rfl, by kernel_rfl, by kernel_rfl, by kernel_rfl⟩
  offs := fun j off h => by simp [i62] at h
  pl := fun h => absurd rfl h
theorem o64 : TOk Tryd.prog 64 i64 where
  inf := ti64
  zav := ⟨by kernel_rfl, by kernel_rfl, by kernel_rfl, by kernel_rfl⟩
  offs := fun j off h => by simp [i64] at h
  pl := fun h => absurd rfl h
theorem o65 : TOk Tryd.prog 65 i65 where
  inf := ti65
  zav := ⟨by kernel_rfl, by kernel_rfl, by kernel_rfl, by kernel_rfl⟩
  offs := fun j off h => by simp [i65] at h
  pl := fun h => absurd rfl h
theorem o66 : TOk Tryd.prog 66 i66 where
  inf := ti66
  zav := ⟨by kernel_rfl, by kernel_rfl, by kernel_rfl, by kernel_rfl⟩
  offs := fun j off h => by simp [i66] at h
  pl := fun h => absurd rfl h
theorem o67 : TOk Tryd.prog 67 i67 where
  inf := ti67
  zav := ⟨by kernel_rfl, by kernel_rfl, by kernel_rfl, by kernel_rfl⟩
  offs := fun j off h => by simp [i67] at h
  pl := fun h => absurd rfl h
theorem o68 : TOk Tryd.prog 68 i68 where
  inf := ti68
  zav := ⟨by kernel_rfl, by kernel_rfl, by kernel_rfl, by kernel_rfl⟩
  offs := fun j off h => by simp [i68] at h
  pl := fun h => absurd rfl h
theorem o69 : TOk Tryd.prog 69 i69 where
  inf := ti69
  zav := ⟨by kernel_rfl, by kernel_rfl, by kernel_rfl, by kernel_rfl⟩
  offs := fun j off h => by simp [i69] at h
  pl := fun h => absurd rfl h
theorem o70 : TOk Tryd.prog 70 i70 where
  inf := ti70
  zav := ⟨by kernel_rfl, by kernel_rfl, by kernel_rfl, by kernel_rfl⟩
  offs := fun j off h => by simp [i70] at h
  pl := fun h => absurd rfl h
theorem o71 : TOk Tryd.prog 71 i71 where
  inf := ti71
  zav := ⟨by kernel_rfl, by kernel_rfl, by kernel_rfl, by kernel_rfl⟩
  offs := fun j off h => match j, h with
    | 0, h => by cases h; exact ⟨_, _, _, _, _, _, rfl, rfl, rfl, ti3, rfl⟩
    | 1, h => by cases h; exact ⟨_, _, _, _, _, _, rfl, rfl, rfl, ti3, rfl⟩
    | 2, h => by cases h; exact ⟨_, _, _, _, _, _, rfl, rfl, rfl, ti3, rfl⟩
    | 3, h => by cases h; exact ⟨_, _, _, _, _, _, rfl, rfl, rfl, ti3, rfl⟩
    | 4, h => by cases h; exact ⟨_, _, _, _, _, _, rfl, rfl, rfl, ti3, rfl⟩
    | _ + 5, h => by simp [i71] at h
  pl := fun _ => ⟨_, rfl, fun w => by kernel_rfl⟩
theorem o72 : TOk Tryd.prog 72 i72 where
  inf := ti72
  zav := ⟨by kernel_rfl, by kernel_rfl, by kernel_rfl, by kernel_rfl⟩
  offs := fun j off h => match j, h with
    | 0, h => by cases h; exact ⟨_, _, _, _, _, _, rfl, rfl, rfl, ti3, rfl⟩
    | 1, h => by cases h; exact ⟨_, _, _, _, _, _, rfl, rfl, rfl, ti3, rfl⟩
    | 2, h => by cases h; exact ⟨_, _, _, _, _, _, rfl, rfl, rfl, ti3, rfl⟩
    | 3, h => by cases h; exact ⟨_, _, _, _, _, _, rfl, rfl, rfl, ti3, rfl⟩
    | 4, h => by cases h; exact ⟨_, _, _, _, _, _, rfl, rfl, rfl, ti3, rfl⟩
    | _ + 5, h => by simp [i72] at h
  pl := fun _ => ⟨_, rfl, fun w => by kernel_rfl⟩
theorem o73 : TOk Tryd.prog 73 i73 where
  inf := ti73
  zav := ⟨by kernel_rfl, by kernel_rfl, by kernel_rfl, by kernel_rfl⟩
  offs := fun j off h => match j, h with
    | 0, h => by cases h; exact ⟨_, _, _, _, _, _, rfl, rfl, rfl, ti3, rfl⟩
    | 1, h => by cases h; exact ⟨_, _, _, _, _, _, rfl, rfl, rfl, ti3, rfl⟩
    | 2, h => by cases h; exact ⟨_, _, _, _, _, _, rfl, rfl, rfl, ti3, rfl⟩
    | 3, h => by cases h; exact ⟨_, _, _, _, _, _, rfl, rfl, rfl, ti3, rfl⟩
    | 4, h => by cases h; exact ⟨_, _, _, _, _, _, rfl, rfl, rfl, ti3, rfl⟩
    | _ + 5, h => by simp [i73] at h
  pl := fun _ => ⟨_, rfl, fun w => by kernel_rfl⟩
theorem o74 : TOk Tryd.prog 74 i74 where
  inf := ti74
  zav := ⟨by kernel_rfl, by kernel_rfl, by kernel_rfl, by kernel_rfl⟩
  offs := fun j off h => match j, h with
    | 0, h => by cases h; exact ⟨_, _, _, _, _, _, rfl, rfl, rfl, ti3, rfl⟩
    | 1, h => by cases h; exact ⟨_, _, _, _, _, _, rfl, rfl, rfl, ti3, rfl⟩
    | 2, h => by cases h; exact ⟨_, _, _, _, _, _, rfl, rfl, rfl, ti3, rfl⟩
    | 3, h => by cases h; exact ⟨_, _, _, _, _, _, rfl, rfl, rfl, ti3, rfl⟩
    | 4, h => by cases h; exact ⟨_, _, _, _, _, _, rfl, rfl, rfl, ti3, rfl⟩
    | _ + 5, h => by simp [i74] at h
  pl := fun _ => ⟨_, rfl, fun w => by kernel_rfl⟩
theorem o75 : TOk Tryd.prog 75 i75 where
  inf := ti75
  zav := ⟨by kernel_rfl, by kernel_rfl, by kernel_rfl, by kernel_rfl⟩
  offs := fun j off h => match j, h with
    | 0, h => by cases h; exact ⟨_, _, _, _, _, _, rfl, rfl, rfl, ti3, rfl⟩
    | 1, h => by cases h; exact ⟨_, _, _, _, _, _, rfl, rfl, rfl, ti3, rfl⟩
    | 2, h => by cases h; exact ⟨_, _, _, _, _, _, rfl, rfl, rfl, ti3, rfl⟩
    | 3, h => by cases h; exact ⟨_, _, _, _, _, _, rfl, rfl, rfl, ti3, rfl⟩
    | _ + 4, h => by simp [i75] at h
  pl := fun _ => ⟨_, rfl, fun w => by kernel_rfl⟩
theorem o76 : TOk Tryd.prog 76 i76 where
  inf := ti76
  zav := ⟨by kernel_rfl, by kernel_rfl, by kernel_rfl, by kernel_rfl⟩
  offs := fun j off h => match j, h with
    | 0, h => by cases h; exact ⟨_, _, _, _, _, _, rfl, rfl, rfl, ti3, rfl⟩
    | 1, h => by cases h; exact ⟨_, _, _, _, _, _, rfl, rfl, rfl, ti3, rfl⟩
    | 2, h => by cases h; exact ⟨_, _, _, _, _, _, rfl, rfl, rfl, ti3, rfl⟩
    | 3, h => by cases h; exact ⟨_, _, _, _, _, _, rfl, rfl, rfl, ti3, rfl⟩
    | _ + 4, h => by simp [i76] at h
  pl := fun _ => ⟨_, rfl, fun w => by kernel_rfl⟩
theorem o77 : TOk Tryd.prog 77 i77 where
  inf := ti77
  zav := ⟨by kernel_rfl, by kernel_rfl, by kernel_rfl, by kernel_rfl⟩
  offs := fun j off h => by simp [i77] at h
  pl := fun h => absurd rfl h
theorem o79 : TOk Tryd.prog 79 i79 where
  inf := ti79
  zav := ⟨by kernel_rfl, by kernel_rfl, by kernel_rfl, by kernel_rfl⟩
  offs := fun j off h => by simp [i79] at h
  pl := fun h => absurd rfl h
theorem o80 : TOk Tryd.prog 80 i80 where
  inf := ti80
  zav := ⟨by kernel_rfl, by kernel_rfl, by kernel_rfl, by kernel_rfl⟩
  offs := fun j off h => by simp [i80] at h
  pl := fun h => absurd rfl h
theorem o81 : TOk Tryd.prog 81 i81 where
  inf := ti81
  zav := ⟨by kernel_rfl, by kernel_rfl, by kernel_rfl, by kernel_rfl⟩
  offs := fun j off h => by simp [i81] at h
  pl := fun h => absurd rfl h
theorem o82 : TOk Tryd.prog 82 i82 where
  inf := ti82
  zav := ⟨by kernel_rfl, by kernel_rfl, by kernel_rfl, by kernel_rfl⟩
  offs := fun j off h => by simp [i82] at h
  pl := fun h => absurd rfl h
theorem o83 : TOk Tryd.prog 83 i83 where
  inf := ti83
  zav := ⟨by kernel_rfl, by kernel_rfl, by kernel_rfl, by kernel_rfl⟩
  offs := fun j off h => by simp [i83] at h
  pl := fun h => absurd rfl h
theorem o84 : TOk Tryd.prog 84 i84 where
  inf := ti84
  zav := ⟨by kernel_rfl, by kernel_rfl, by kernel_rfl, by kernel_rfl⟩
  offs := fun j off h => by simp [i84] at h
  pl := fun h => absurd rfl h
theorem o85 : TOk Tryd.prog 85 i85 where
  inf := ti85
  zav := ⟨by kernel_rfl, by kernel_rfl, by kernel_rfl, by kernel_rfl⟩
  offs := fun j off h => by simp [i85] at h
  pl := fun h => absurd rfl h
theorem o86 : TOk Tryd.prog 86 i86 where
  inf := ti86
  zav := ⟨by kernel_rfl, by kernel_rfl, by kernel_rfl, by kernel_rfl⟩
  offs := fun j off h => by simp [i86] at h
  pl := fun h => absurd rfl h
theorem o87 : TOk Tryd.prog 87 i87 where
  inf := ti87
  zav := ⟨by kernel_rfl, by kernel_rfl, by kernel_rfl, by kernel_rfl⟩
  offs := fun j off h => by simp [i87] at h
  pl := fun h => absurd rfl h
theorem o88 : TOk Tryd.prog 88 i88 where
  inf := ti88
  zav := ⟨by kernel_rfl, by kernel_rfl, by kernel_rfl, by kernel_rfl⟩
  offs := fun j off h => by simp [i88] at h
  pl := fun h => absurd rfl h
theorem o89 : TOk Tryd.prog 89 i89 where
  inf := ti89
  zav := ⟨by kernel_rfl, by kernel_rfl, by kernel_rfl, by kernel_rfl⟩
  offs := fun j off h => by simp [i89] at h
  pl := fun h => absurd rfl h
theorem o90 : TOk Tryd.prog 90 i90 where
  inf := ti90
  zav := ⟨by kernel_rfl, by kernel_rfl, by kernel_rfl, by kernel_rfl⟩
  offs := fun j off h => match j, h with
    | 0, h => by cases h; exact ⟨_, _, _, _, _, _, rfl, rfl, rfl, ti54, rfl⟩
    | 1, h => by cases h; exact ⟨_, _, _, _, _, _, rfl, rfl, rfl, ti59, rfl⟩
    | 2, h => by cases h; exact ⟨_, _, _, _, _, _, rfl, rfl, rfl, ti85, rfl⟩
    | 3, h => by cases h; exact ⟨_, _, _, _, _, _, rfl, rfl, rfl, ti86, rfl⟩
    | 4, h => by cases h; exact ⟨_, _, _, _, _, _, rfl, rfl, rfl, ti87, rfl⟩
    | 5, h => by cases h; exact ⟨_, _, _, _, _, _, rfl, rfl, rfl, ti87, rfl⟩
    | 6, h => by cases h; exact ⟨_, _, _, _, _, _, rfl, rfl, rfl, ti88, rfl⟩
    | 7, h => by cases h; exact ⟨_, _, _, _, _, _, rfl, rfl, rfl, ti89, rfl⟩
    | _ + 8, h => by simp [i90] at h
  pl := fun _ => ⟨_, rfl, fun w => by kernel_rfl⟩
theorem o91 : TOk Tryd.prog 91 i91 where
  inf := ti91
  zav := ⟨by kernel_rfl, by kernel_rfl, by kernel_rfl, by kernel_rfl⟩
  offs := fun j off h => match j, h with
    | 0, h => by cases h; exact ⟨_, _, _, _, _, _, rfl, rfl, rfl, ti54, rfl⟩
    | 1, h => by cases h; exact ⟨_, _, _, _, _, _, rfl, rfl, rfl, ti59, rfl⟩
    | 2, h => by cases h; exact ⟨_, _, _, _, _, _, rfl, rfl, rfl, ti85, rfl⟩
    | 3, h => by cases h; exact ⟨_, _, _, _, _, _, rfl, rfl, rfl, ti86, rfl⟩
    | 4, h => by cases h; exact ⟨_, _, _, _, _, _, rfl, rfl, rfl, ti87, rfl⟩
    | 5, h => by cases h; exact ⟨_, _, _, _, _, _, rfl, rfl, rfl, ti87, rfl⟩
    | 6, h => by cases h; exact ⟨_, _, _, _, _, _, rfl, rfl, rfl, ti88, rfl⟩
    | 7, h => by cases h; exact ⟨_, _, _, _, _, _, rfl, rfl, rfl, ti89, rfl⟩
    | _ + 8, h => by simp [i91] at h
  pl := fun _ => ⟨_, rfl, fun w => by kernel_rfl⟩
theorem o92 : TOk Tryd.prog 92 i92 where
  inf := ti92
  zav := ⟨by kernel_rfl, by kernel_rfl, by kernel_rfl, by kernel_rfl⟩
  offs := fun j off h => by simp [i92] at h
  pl := fun h => absurd rfl h
theorem o93 : TOk Tryd.prog 93 i93 where
  inf := ti93
  zav := ⟨by kernel_rfl, by kernel_rfl, by kernel_rfl, by kernel_rfl⟩
  offs := fun j off h => match j, h with
    | 0, h => by cases h; exact ⟨_, _, _, _, _, _, rfl, rfl, rfl, ti92, rfl⟩
    | _ + 1, h => by simp [i93] at h
  pl := fun _ => ⟨_, rfl, fun w => by kernel_rfl⟩
theorem o94 : TOk Tryd.prog 94 i94 where
  inf := ti94
  zav := ⟨by kernel_rfl, by kernel_rfl, by kernel_rfl, by kernel_rfl⟩
  offs := fun j off h => match j, h with
    | 0, h => by cases h; exact ⟨_, _, _, _, _, _, rfl, rfl, rfl, ti92, rfl⟩
    | _ + 1, h => by simp [i94] at h
  pl := fun _ => ⟨_, rfl, fun w => by kernel_rfl⟩
theorem o96 : TOk Tryd.prog 96 i96 where
  inf := ti96
  zav := ⟨by kernel_rfl, by kernel_rfl, by kernel_rfl, by kernel_rfl⟩
  offs := fun j off h => by simp [i96] at h
  pl := fun h => absurd rfl h
theorem o97 : TOk Tryd.prog 97 i97 where
  inf := ti97
  zav := ⟨by kernel_rfl, by kernel_rfl, by kernel_rfl, by kernel_rfl⟩
  offs := fun j off h => by simp [i97] at h
  pl := fun h => absurd rfl h
theorem o98 : TOk Tryd.prog 98 i98 where
  inf := ti98
  zav := ⟨by kernel_rfl, by kernel_rfl, by kernel_rfl, by kernel_rfl⟩
  offs := fun j off h => by simp [i98] at h
  pl := fun h => absurd rfl h
theorem o99 : TOk Tryd.prog 99 i99 where
  inf := ti99
  zav := ⟨by kernel_rfl, by kernel_rfl, by kernel_rfl, by kernel_rfl⟩
  offs := fun j off h => by simp [i99] at h
  pl := fun h => absurd rfl h
theorem o100 : TOk Tryd.prog 100 i100 where
  inf := ti100
  zav := ⟨by kernel_rfl, by kernel_rfl, by kernel_rfl, by kernel_rfl⟩
  offs := fun j off h => by simp [i100] at h
  pl := fun h => absurd rfl h
theorem o101 : TOk Tryd.prog 101 i101 where
  inf := ti101
  zav := ⟨by kernel_rfl, by kernel_rfl, by kernel_rfl, by kernel_rfl⟩
  offs := fun j off h => by simp [i101] at h
  pl := fun h => absurd rfl h
theorem o103 : TOk Tryd.prog 103 i103 where
  inf := ti103
  zav := ⟨by kernel_rfl, by kernel_rfl, by kernel_rfl, by kernel_rfl⟩
  offs := fun j off h => by simp [i103] at h
  pl := fun h => absurd rfl h
theorem o104 : TOk Tryd.prog 104 i104 where
  inf := ti104
  zav := ⟨by kernel_rfl, by kernel_rfl, by kernel_rfl, by kernel_rfl⟩
  offs := fun j off h => by simp [i104] at h
  pl := fun h => absurd rfl h
theorem o105 : TOk Tryd.prog 105 i105 where
  inf := ti105
  zav := ⟨by kernel_rfl, by kernel_rfl, by kernel_rfl, by kernel_rfl⟩
  offs := fun j off h => by simp [i105] at h
  pl := fun h => absurd rfl h
theorem o106 : TOk Tryd.prog 106 i106 where
  inf := ti106
  zav := ⟨by kernel_rfl, by kernel_rfl, by kernel_rfl, by kernel_rfl⟩
  offs := fun j off h => match j, h with
    | 0, h => by cases h; exact ⟨_, _, _, _, _, _, rfl, rfl, rfl, ti105, rfl⟩
    | 1, h => by cases h; exact ⟨_, _, _, _, _, _, rfl, rfl, rfl, ti3, rfl⟩
    | _ + 2, h => by simp [i106] at h
  pl := fun _ => ⟨_, rfl, fun w => by kernel_rfl⟩
theorem o107 : TOk Tryd.prog 107 i107 where
  inf := ti107
  zav := ⟨by kernel_rfl, by kernel_rfl, by kernel_rfl, by kernel_rfl⟩
  offs := fun j off h => match j, h with
    | 0, h => by cases h; exact ⟨_, _, _, _, _, _, rfl, rfl, rfl, ti105, rfl⟩
    | 1, h => by cases h; exact ⟨_, _, _, _, _, _, rfl, rfl, rfl, ti3, rfl⟩
    | _ + 2, h => by simp [i107] at h
  pl := fun _ => ⟨_, rfl, fun w => by kernel_rfl⟩
theorem o108 : TOk Tryd.prog 108 i108 where
  inf := ti108
  zav := ⟨by kernel_rfl, by kernel_rfl, by kernel_rfl, by kernel_rfl⟩
  offs := fun j off h => by simp [i108] at h
  pl := fun h => absurd rfl h
theorem o109 : TOk Tryd.prog 109 i109 where
  inf := ti109
  zav := ⟨by kernel_rfl, by kernel_rfl, by kernel_rfl, by kernel_rfl⟩
  offs := fun j off h => by simp [i109] at h
  pl := fun h => absurd rfl h
theorem o110 : TOk Tryd.prog 110 i110 where
  inf := ti110
  zav := ⟨by kernel_rfl, by kernel_rfl, by kernel_rfl, by kernel_rfl⟩
  offs := fun j off h => by simp [i110] at h
  pl := fun h => absurd rfl h
theorem o111 : TOk Tryd.prog 111 i111 where
  inf := ti111
  zav := ⟨by kernel_rfl, by kernel_rfl, by kernel_rfl, by kernel_rfl⟩
  offs := fun j off h => by simp [i111] at h
  pl := fun h => absurd rfl h
theorem o112 : TOk Tryd.prog 112 i112 where
  inf := ti112
  zav := ⟨by kernel_rfl, by kernel_rfl, by kernel_rfl, by kernel_rfl⟩
  offs := fun j off h => by simp [i112] at h
  pl := fun h => absurd rfl h
theorem o113 : TOk Tryd.prog 113 i113 where
  inf := ti113
  zav := ⟨by kernel_rfl, by kernel_rfl, by kernel_rfl, by kernel_rfl⟩
  offs := fun j off h => by simp [i113] at h
  pl := fun h => absurd rfl h
theorem o114 : TOk Tryd.prog 114 i114 where
  inf := ti114
  zav := ⟨by kernel_rfl, by kernel_rfl, by kernel_rfl, by kernel_rfl⟩
  offs := fun j off h => by simp [i114] at h
  pl := fun h => absurd rfl h
theorem o115 : TOk Tryd.prog 115 i115 where
  inf := ti115
  zav := ⟨by kernel_rfl, by kernel_rfl, by kernel_rfl, by kernel_rfl⟩
  offs := fun j off h => by simp [i115] at h
  pl := fun h => absurd rfl h
theorem o116 : TOk Tryd.prog 116 i116 where
  inf := ti116
  zav := ⟨by kernel_rfl, by kernel_rfl, by kernel_rfl, by kernel_rfl⟩
  offs := fun j off h => by simp [i116] at h
  pl := fun h => absurd rfl h
theorem o117 : TOk Tryd.prog 117 i117 where
  inf := ti117
  zav := ⟨by kernel_rfl, by kernel_rfl, by kernel_rfl, by kernel_rfl⟩
  offs := fun j off h => by simp [i117] at h
  pl := fun h => absurd rfl h
theorem o118 : TOk Tryd.prog 118 i118 where
  inf := ti118
  zav := ⟨by kernel_rfl, by kernel_rfl, by kernel_rfl, by kernel_rfl⟩
  offs := fun j off h => by simp [i118] at h
  pl := fun h => absurd rfl h
theorem o119 : TOk Tryd.prog 119 i119 where
  inf := ti119
  zav := ⟨by kernel_rfl, by kernel_rfl, by kernel_rfl, by kernel_rfl⟩
  offs := fun j off h => by simp [i119] at h
  pl := fun h => absurd rfl h
theorem o120 : TOk Tryd.prog 120 i120 where
  inf := ti120
  zav := ⟨by kernel_rfl, by kernel_rfl, by kernel_rfl, by kernel_rfl⟩
  offs := fun j off h => by simp [i120] at h
  pl := fun h => absurd rfl h
theorem o121 : TOk Tryd.prog 121 i121 where
  inf := ti121
  zav := ⟨by kernel_rfl, by kernel_rfl, by kernel_rfl, by kernel_rfl⟩
  offs := fun j off h => by simp [i121] at h
  pl := fun h => absurd rfl h
theorem o122 : TOk Tryd.prog 122 i122 where
  inf := ti122
  zav := ⟨by kernel_rfl, by kernel_rfl, by kernel_rfl, by kernel_rfl⟩
  offs := fun j off h => by simp [i122] at h
  pl := fun h => absurd rfl h
theorem o123 : TOk Tryd.prog 123 i123 where
  inf := ti123
  zav := ⟨by kernel_rfl, by kernel_rfl, by kernel_rfl, by kernel_rfl⟩
  offs := fun j off h => by simp [i123] at h
  pl := fun h => absurd rfl h
theorem o124 : TOk Tryd.prog 124 i124 where
  inf := ti124
  zav := ⟨by kernel_rfl, by kernel_rfl, by kernel_rfl, by kernel_rfl⟩
  offs := fun j off h => by simp [i124] at h
  pl := fun h => absurd rfl h
theorem o125 : TOk Tryd.prog 125 i125 where
  inf := ti125
  zav := ⟨by kernel_rfl, by kernel_rfl, by kernel_rfl, by kernel_rfl⟩
  offs := fun j off h => by simp [i125] at h
  pl := fun h => absurd rfl h
theorem o126 : TOk Tryd.prog 126 i126 where
  inf := ti126
  zav := ⟨by kernel_rfl, by kernel_rfl, by kernel_rfl, by kernel_rfl⟩
  offs := fun j off h => by simp [i126] at h
  pl := fun h => absurd rfl h
theorem o127 : TOk Tryd.prog 127 i127 where
  inf := ti127
  zav := ⟨by kernel_rfl, by kernel_rfl, by kernel_rfl, by kernel_rfl⟩
  offs := fun j off h => by simp [i127] at h
  pl := fun h => absurd rfl h
theorem o128 : TOk Tryd.prog 128 i128 where
  inf := ti128
  zav := ⟨by kernel_rfl, by kernel_rfl, by kernel_rfl, by kernel_rfl⟩
  offs := fun j off h => by simp [i128] at h
  pl := fun h => absurd rfl h
theorem o129 : TOk Tryd.prog 129 i129 where
  inf := ti129
  zav := ⟨by kernel_rfl, by kernel_rfl, by kernel_rfl, by kernel_rfl⟩
  offs := fun j off h => by simp [i129] at h
  pl := fun h => absurd rfl h
theorem o130 : TOk Tryd.prog 130 i130 where
  inf := ti130
  zav := ⟨by kernel_rfl, by kernel_rfl, by kernel_rfl, by kernel_rfl⟩
  offs := fun j off h => by simp [i130] at h
  pl := fun h => absurd rfl h
theorem o131 : TOk Tryd.prog 131 i131 where
  inf := ti131
  zav := ⟨by kernel_rfl, by kernel_rfl, by kernel_rfl, by kernel_rfl⟩
  offs := fun j off h => by simp [i131] at h
  pl := fun h => absurd rfl h
theorem o132 : TOk Tryd.prog 132 i132 where
  inf := ti132
  zav := ⟨by kernel_rfl, by kernel_rfl, by kernel_rfl, by kernel_rfl⟩
  offs := fun j off h => by simp [i132] at h
  pl := fun h => absurd rfl h
theorem o133 : TOk Tryd.prog 133 i133 where
  inf := ti133
  zav := ⟨by kernel_rfl, by kernel_rfl, by kernel_rfl, by kernel_rfl⟩
  offs := fun j off h => by simp [i133] at h
  pl := fun h => absurd rfl h
theorem o134 : TOk Tryd.prog 134 i134 where
  inf := ti134
  zav := ⟨by kernel_rfl, by kernel_rfl, by kernel_rfl, by kernel_rfl⟩
  offs := fun j off h => by simp [i134] at h
  pl := fun h => absurd rfl h
theorem o135 : TOk Tryd.prog 135 i135 where
  inf := ti135
  zav := ⟨by kernel_rfl, by kernel_rfl, by kernel_rfl, by kernel_rfl⟩
  offs := fun j off h => by simp [i135] at h
  pl := fun h => absurd rfl h
theorem o136 : TOk Tryd.prog 136 i136 where
  inf := ti136
  zav := ⟨by kernel_rfl, by kernel_rfl, by kernel_rfl, by kernel_rfl⟩
  offs := fun j off h => by simp [i136] at h
  pl := fun h => absurd rfl h
theorem o137 : TOk Tryd.prog 137 i137 where
  inf := ti137
  zav := ⟨by kernel_rfl, by kernel_rfl, by kernel_rfl, by kernel_rfl⟩
  offs := fun j off h => by simp [i137] at h
  pl := fun h => absurd rfl h
theorem o138 : TOk Tryd.prog 138 i138 where
  inf := ti138
  zav := ⟨by kernel_rfl, by kernel_rfl, by kernel_rfl, by kernel_rfl⟩
  offs := fun j off h => by simp [i138] at h
  pl := fun h => absurd rfl h
theorem o139 : TOk Tryd.prog 139 i139 where
  inf := ti139
  zav := ⟨by kernel_rfl, by kernel_rfl, by kernel_rfl, by kernel_rfl⟩
  offs := fun j off h => by simp [i139] at h
  pl := fun h => absurd rfl h
theorem o140 : TOk Tryd.prog 140 i140 where
  inf := ti140
  zav := ⟨by kernel_rfl, by kernel_rfl, by kernel_rfl, by kernel_rfl⟩
  offs := fun j off h => by simp [i140] at h
  pl := fun h => absurd rfl h
theorem o141 : TOk Tryd.prog 141 i141 where
  inf := ti141
  zav := ⟨by kernel_rfl, by kernel_rfl, by kernel_rfl, by kernel_rfl⟩
  offs := fun j off h => by simp [i141] at h
  pl := fun h => absurd rfl h
theorem o142 : TOk Tryd.prog 142 i142 where
  inf := ti142
  zav := ⟨by kernel_rfl, by kernel_rfl, by kernel_rfl, by kernel_rfl⟩
  offs := fun j off h => by simp [i142] at h
  pl := fun h => absurd rfl h
theorem o143 : TOk Tryd.prog 143 i143 where
  inf := ti143
  zav := ⟨by kernel_rfl, by kernel_rfl, by kernel_rfl, by kernel_rfl⟩
  offs := fun j off h => by simp [i143] at h
  pl := fun h => absurd rfl h
theorem o144 : TOk Tryd.prog 144 i144 where
  inf := ti144
  zav := ⟨by kernel_rfl, by kernel_rfl, by kernel_rfl, by kernel_rfl⟩
  offs := fun j off h => by simp [i144] at h
  pl := fun h => absurd rfl h
theorem o145 : TOk Tryd.prog 145 i145 where
  inf := ti145
  zav := ⟨by kernel_rfl, by kernel_rfl, by kernel_rfl, by kernel_rfl⟩
  offs := fun j off h => by simp [i145] at h
  pl := fun h => absurd rfl h
theorem o146 : TOk Tryd.prog 146 i146 where
  inf := ti146
  zav := ⟨by kernel_rfl, by kernel_rfl, by kernel_rfl, by kernel_rfl⟩
  offs := fun j off h => by simp [i146] at h
  pl := fun h => absurd rfl h
theorem o147 : TOk Tryd.prog 147 i147 where
  inf := ti147
  zav := ⟨by kernel_rfl, by kernel_rfl, by kernel_rfl, by kernel_rfl⟩
  offs := fun j off h => by simp [i147] at h
  pl := fun h => absurd rfl h
theorem o148 : TOk Tryd.prog 148 i148 where
  inf := ti148
  zav := ⟨by kernel_rfl, by kernel_rfl, by kernel_rfl, by kernel_rfl⟩
  offs := fun j off h => by simp [i148] at h
  pl := fun h => absurd rfl h
theorem o149 : TOk Tryd.prog 149 i149 where
  inf := ti149
  zav := ⟨by kernel_rfl, by kernel_rfl, by kernel_rfl, by kernel_rfl⟩
  offs := fun j off h => by simp [i149] at h
  pl := fun h => absurd rfl h
theorem o150 : TOk Tryd.prog 150 i150 where
  inf := ti150
  zav := ⟨by kernel_rfl, by kernel_rfl, by kernel_rfl, by kernel_rfl⟩
  offs := fun j off h => by simp [i150] at h
  pl := fun h => absurd rfl h
theorem o151 : TOk Tryd.prog 151 i151 where
  inf := ti151
  zav := ⟨by kernel_rfl, by kernel_rfl, by kernel_rfl, by kernel_rfl⟩
  offs := fun j off h => by simp [i151] at h
  pl := fun h => absurd rfl h
theorem o152 : TOk Tryd.prog 152 i152 where
  inf := ti152
  zav := ⟨by kernel_rfl, by kernel_rfl, by kernel_rfl, by kernel_rfl⟩
  offs := fun j off h => by simp [i152] at h
  pl := fun h => absurd rfl h
theorem o153 : TOk Tryd.prog 153 i153 where
  inf := ti153
  zav := ⟨by kernel_rfl, by kernel_rfl, by kernel_rfl, by kernel_rfl⟩
  offs := fun j off h => by simp [i153] at h
  pl := fun h => absurd rfl h
theorem o154 : TOk Tryd.prog 154 i154 where
  inf := ti154
  zav := ⟨by kernel_rfl, by kernel_rfl, by kernel_rfl, by kernel_rfl⟩
  offs := fun j off h => by simp [i154] at h
  pl := fun h => absurd rfl h
theorem o155 : TOk Tryd.prog 155 i155 where
  inf := ti155
  zav := ⟨by kernel_rfl, by kernel_rfl, by kernel_rfl, by kernel_rfl⟩
  offs := fun j off h => by simp [i155] at h
  pl := fun h => absurd rfl h
theorem o156 : TOk Tryd.prog 156 i156 where
  inf := ti156
  zav := ⟨by kernel_rfl, by kernel_rfl, by kernel_rfl, by kernel_rfl⟩
  offs := fun j off h => by simp [i156] at h
  pl := fun h => absurd rfl h
theorem o157 : TOk Tryd.prog 157 i157 where
  inf := ti157
  zav := ⟨by kernel_rfl, by kernel_rfl, by kernel_rfl, by kernel_rfl⟩
  offs := fun j off h => by simp [i157] at h
  pl := fun h => absurd rfl h
theorem o158 : TOk Tryd.prog 158 i158 where
  inf := ti158
  zav := ⟨by kernel_rfl, by kernel_rfl, by kernel_rfl, by kernel_rfl⟩
  offs := fun j off h => by simp [i158] at h
  pl := fun h => absurd rfl h
theorem o159 : TOk Tryd.prog 159 i159 where
  inf := ti159
  zav := ⟨by kernel_rfl, by kernel_rfl, by kernel_rfl, by kernel_rfl⟩
  offs := fun j off h => by simp [i159] at h
  pl := fun h => absurd rfl h
theorem o160 : TOk Tryd.prog 160 i160 where
  inf := ti160
  zav := ⟨by kernel_rfl, by kernel_rfl, by kernel_rfl, by kernel_rfl⟩
  offs := fun j off h => match j, h with
    | 0, h => by cases h; exact ⟨_, _, _, _, _, _, rfl, rfl, rfl, ti17, rfl⟩
    | 1, h => by cases h; exact ⟨_, _, _, _, _, _, rfl, rfl, rfl, ti17, rfl⟩
    | 2, h => by cases h; exact ⟨_, _, _, _, _, _, rfl, rfl, rfl, ti17, rfl⟩
    | 3, h => by cases h; exact ⟨_, _, _, _, _, _, rfl, rfl, rfl, ti9, rfl⟩
    | _ + 4, h => by simp [i160] at h
  pl := fun _ => ⟨_, rfl, fun w => by kernel_rfl⟩
theorem o161 : TOk Tryd.prog 161 i161 where
  inf := ti161
  zav := ⟨by kernel_rfl, by kernel_rfl, by kernel_rfl, by kernel_rfl⟩
  offs := fun j off h => match j, h with
    | 0, h => by cases h; exact ⟨_, _, _, _, _, _, rfl, rfl, rfl, ti17, rfl⟩
    | 1, h => by cases h; exact ⟨_, _, _, _, _, _, rfl, rfl, rfl, ti17, rfl⟩
    | 2, h => by cases h; exact ⟨_, _, _, _, _, _, rfl, rfl, rfl, ti17, rfl⟩
    | 3, h => by cases h; exact ⟨_, _, _, _, _, _, rfl, rfl, rfl, ti9, rfl⟩
    | _ + 4, h => by simp [i161] at h
  pl := fun _ => ⟨_, rfl, fun w => by kernel_rfl⟩
theorem o162 : TOk Tryd.prog 162 i162 where
  inf := ti162
  zav := ⟨by kernel_rfl, by kernel_rfl, by kernel_rfl, by kernel_rfl⟩
  offs := fun j off h => by simp [i162] at h
  pl := fun h => absurd rfl h
theorem o163 : TOk Tryd.prog 163 i163 where
  inf := ti163
  zav := ⟨by kernel_rfl, by kernel_rfl, by kernel_rfl, by kernel_rfl⟩
  offs := fun j off h => by simp [i163] at h
  pl := fun _ => ⟨_, rfl, fun w => by kernel_rfl⟩
theorem o164 : TOk Tryd.prog 164 i164 where
  inf := ti164
  zav := ⟨by kernel_rfl, by kernel_rfl, by kernel_rfl, by kernel_rfl⟩
  offs := fun j off h => by simp [i164] at h
  pl := fun _ => ⟨_, rfl, fun w => by kernel_rfl⟩
theorem o165 : TOk Tryd.prog 165 i165 where
  inf := ti165
  zav := ⟨by kernel_rfl, by kernel_rfl, by kernel_rfl, by kernel_rfl⟩
  offs := fun j off h => by simp [i165] at h
  pl := fun h => absurd rfl h
theorem o166 : TOk Tryd.prog 166 i166 where
  inf := ti166
  zav := ⟨by kernel_rfl, by kernel_rfl, by kernel_rfl, by kernel_rfl⟩
  offs := fun j off h => by simp [i166] at h
  pl := fun h => absurd rfl h
theorem o167 : TOk Tryd.prog 167 i167 where
  inf := ti167
  zav := ⟨by kernel_rfl, by kernel_rfl, by kernel_rfl, by kernel_rfl⟩
  offs := fun j off h => by simp [i167] at h
  pl := fun h => absurd rfl h
theorem o168 : TOk Tryd.prog 168 i168 where
  inf := ti168
  zav := ⟨by kernel_rfl, by kernel_rfl, by kernel_rfl, by kernel_rfl⟩
  offs := fun j off h => by simp [i168] at h
  pl := fun h => absurd rfl h
theorem o169 : TOk Tryd.prog 169 i169 where
  inf := ti169
  zav := ⟨by kernel_rfl, by kernel_rfl, by kernel_rfl, by kernel_rfl⟩
  offs := fun j off h => by simp [i169] at h
  pl := fun h => absurd rfl h
theorem o170 : TOk Tryd.prog 170 i170 where
  inf := ti170
  zav := ⟨by kernel_rfl, by kernel_rfl, by kernel_rfl, by kernel_rfl⟩
  offs := fun j off h => by simp [i170] at h
  pl := fun h => absurd rfl h
theorem o171 : TOk Tryd.prog 171 i171 where
  inf := ti171
  zav := ⟨by kernel_rfl, by kernel_rfl, by kernel_rfl, by kernel_rfl⟩
  offs := fun j off h => by simp [i171] at h
  pl := fun h => absurd rfl h
theorem o172 : TOk Tryd.prog 172 i172 where
  inf := ti172
  zav := ⟨by kernel_rfl, by kernel_rfl, by kernel_rfl, by kernel_rfl⟩
  offs := fun j off h => match j, h with
    | 0, h => by cases h; exact ⟨_, _, _, _, _, _, rfl, rfl, rfl, ti12, rfl⟩
    | 1, h => by cases h; exact ⟨_, _, _, _, _, _, rfl, rfl, rfl, ti12, rfl⟩
    | 2, h => by cases h; exact ⟨_, _, _, _, _, _, rfl, rfl, rfl, ti165, rfl⟩
    | 3, h => by cases h; exact ⟨_, _, _, _, _, _, rfl, rfl, rfl, ti166, rfl⟩
    | 4, h => by cases h; exact ⟨_, _, _, _, _, _, rfl, rfl, rfl, ti5, rfl⟩
    | 5, h => by cases h; exact ⟨_, _, _, _, _, _, rfl, rfl, rfl, ti5, rfl⟩
    | 6, h => by cases h; exact ⟨_, _, _, _, _, _, rfl, rfl, rfl, ti167, rfl⟩
    | 7, h => by cases h; exact ⟨_, _, _, _, _, _, rfl, rfl, rfl, ti168, rfl⟩
    | 8, h => by cases h; exact ⟨_, _, _, _, _, _, rfl, rfl, rfl, ti169, rfl⟩
    | 9, h => by cases h; exact ⟨_, _, _, _, _, _, rfl, rfl, rfl, ti170, rfl⟩
    | 10, h => by cases h; exact ⟨_, _, _, _, _, _, rfl, rfl, rfl, ti171, rfl⟩
    | _ + 11, h => by simp [i172] at h
  pl := fun _ => ⟨_, rfl, fun w => by kernel_rfl⟩
theorem o173 : TOk Tryd.prog 173 i173 where
  inf := ti173
  zav := ⟨by kernel_rfl, by kernel_rfl, by kernel_rfl, by kernel_rfl⟩
  offs := fun j off h => match j, h with
    | 0, h => by cases h; exact ⟨_, _, _, _, _, _, rfl, rfl, rfl, ti12, rfl⟩
    | 1, h => by cases h; exact ⟨_, _, _, _, _, _, rfl, rfl, rfl, ti12, rfl⟩
    | 2, h => by cases h; exact ⟨_, _, _, _, _, _, rfl, rfl, rfl, ti165, rfl⟩
    | 3, h => by cases h; exact ⟨_, _, _, _, _, _, rfl, rfl, rfl, ti166, rfl⟩
    | 4, h => by cases h; exact ⟨_, _, _, _, _, _, rfl, rfl, rfl, ti5, rfl⟩
    | 5, h => by cases h; exact ⟨_, _, _, _, _, _, rfl, rfl, rfl, ti5, rfl⟩
    | 6, h => by cases h; exact ⟨_, _, _, _, _, _, rfl, rfl, rfl, ti167, rfl⟩
    | 7, h => by cases h; exact ⟨_, _, _, _, _, _, rfl, rfl, rfl, ti168, rfl⟩
    | 8, h => by cases h; exact ⟨_, _, _, _, _, _, rfl, rfl, rfl, ti169, rfl⟩
    | 9, h => by cases h; exact ⟨_, _, _, _, _, _, rfl, rfl, rfl, ti170, rfl⟩
    | 10, h => by cases h; exact ⟨_, _, _, _, _, _, rfl, rfl, rfl, ti171, rfl⟩
    | _ + 11, h => by simp [i173] at h
  pl := fun _ => ⟨_, rfl, fun w => by kernel_rfl⟩
noncomputable def tt : TT := (.node 88 i88 (.node 44 i44 (.node 22 i22 (.node 11 i11 (.node 6 i6 (.node 3 i3 (.node 2 i2 (.node 1 i1 .leaf .leaf) .leaf) (.node 5 i5 (.node 4 i4 .leaf .leaf) .leaf)) (.node 9 i9 (.node 8 i8 (.node 7 i7 .leaf .leaf) .leaf) (.node 10 i10 .leaf .leaf))) (.node 16 i16 (.node 14 i14 (.node 13 i13 (.node 12 i12 .leaf .leaf) .leaf) (.node 15 i15 .leaf .leaf)) (.node 19 i19 (.node 18 i18 (.node 17 i17 .leaf .leaf) .leaf) (.node 21 i21 .leaf .leaf)))) (.node 33 i33 (.node 28 i28 (.node 25 i25 (.node 24 i24 (.node 23 i23 .leaf .leaf) .leaf) (.node 27 i27 (.node 26 i26 .leaf .leaf) .leaf)) (.node 31 i31 (.node 30 i30 (.node 29 i29 .leaf .leaf) .leaf) (.node 32 i32 .leaf .leaf))) (.node 39 i39 (.node 37 i37 (.node 35 i35 (.node 34 i34 .leaf .leaf) .leaf) (.node 38 i38 .leaf .leaf)) (.node 42 i42 (.node 41 i41 (.node 40 i40 .leaf .leaf) .leaf) (.node 43 i43 .leaf .leaf))))) (.node 66 i66 (.node 55 i55 (.node 50 i50 (.node 47 i47 (.node 46 i46 (.node 45 i45 .leaf .leaf) .leaf) (.node 49 i49 (.node 48 i48 .leaf .leaf) .leaf)) (.node 53 i53 (.node 52 i52 (.node 51 i51 .leaf .leaf) .leaf) (.node 54 i54 .leaf .leaf))) (.node 60 i60 (.node 58 i58 (.node 57 i57 (.node 56 i56 .leaf .leaf) .leaf) (.node 59 i59 .leaf .leaf)) (.node 64 i64 (.node 62 i62 (.node 61 i61 .leaf .leaf) .leaf) (.node 65 i65 .leaf .leaf)))) (.node 77 i77 (.node 72 i72 (.node 69 i69 (.node 68 i68 (.node 67 i67 .leaf .leaf) .leaf) (.node 71 i71 (.node 70 i70 .leaf .leaf) .leaf)) (.node 75 i75 (.node 74 i74 (.node 73 i73 .leaf .leaf) .leaf) (.node 76 i76 .leaf .leaf))) (.node 83 i83 (.node 81 i81 (.node 80 i80 (.node 79 i79 .leaf .leaf) .leaf) (.node 82 i82 .leaf .leaf)) (.node 86 i86 (.node 85 i85 (.node 84 i84 .leaf .leaf) .leaf) (.node 87 i87 .leaf .leaf)))))) (.node 132 i132 (.node 111 i111 (.node 100 i100 (.node 94 i94 (.node 91 i91 (.node 90 i90 (.node 89 i89 .leaf .leaf) .leaf) (.node 93 i93 (.node 92 i92 .leaf .leaf) .leaf)) (.node 98 i98 (.node 97 i97 (.node 96 i96 .leaf .leaf) .leaf) (.node 99 i99 .leaf .leaf))) (.node 106 i106 (.node 104 i104 (.node 103 i103 (.node 101 i101 .leaf .leaf) .leaf) (.node 105 i105 .leaf .leaf)) (.node 109 i109 (.node 108 i108 (.node 107 i107 .leaf .leaf) .leaf) (.node 110 i110 .leaf .leaf)))) (.node 122 i122 (.node 117 i117 (.node 114 i114 (.node 113 i113 (.node 112 i112 .leaf .leaf) .leaf) (.node 116 i116 (.node 115 i115 .leaf .leaf) .leaf)) (.node 120 i120 (.node 119 i119 (.node 118 i118 .leaf .leaf) .leaf) (.node 121 i121 .leaf .leaf))) (.node 127 i127 (.node 125 i125 (.node 124 i124 (.node 123 i123 .leaf .leaf) .leaf) (.node 126 i126 .leaf .leaf)) (.node 130 i130 (.node 129 i129 (.node 128 i128 .leaf .leaf) .leaf) (.node 131 i131 .leaf .leaf))))) (.node 153 i153 (.node 143 i143 (.node 138 i138 (.node 135 i135 (.node 134 i134 (.node 133 i133 .leaf .leaf) .leaf) (.node 137 i137 (.node 136 i136 .leaf .leaf) .leaf)) (.node 141 i141 (.node 140 i140 (.node 139 i139 .leaf .leaf) .leaf) (.node 142 i142 .leaf .leaf))) (.node 148 i148 (.node 146 i146 (.node 145 i145 (.node 144 i144 .leaf .leaf) .leaf) (.node 147 i147 .leaf .leaf)) (.node 151 i151 (.node 150 i150 (.node 149 i149 .leaf .leaf) .leaf) (.node 152 i152 .leaf .leaf)))) (.node 164 i164 (.node 159 i159 (.node 156 i156 (.node 155 i155 (.node 154 i154 .leaf .leaf) .leaf) (.node 158 i158 (.node 157 i157 .leaf .leaf) .leaf)) (.node 162 i162 (.node 161 i161 (.node 160 i160 .leaf .leaf) .leaf) (.node 163 i163 .leaf .leaf))) (.node 169 i169 (.node 167 i167 (.node 166 i166 (.node 165 i165 .leaf .leaf) .leaf) (.node 168 i168 .leaf .leaf)) (.node 172 i172 (.node 171 i171 (.node 170 i170 .leaf .leaf) .leaf) (.node 173 i173 .leaf .leaf)))))))
theorem ttok : TT.All Tryd.prog tt := (.node o88 (.node o44 (.node o22 (.node o11 (.node o6 (.node o3 (.node o2 (.node o1 .leaf .leaf) .leaf) (.node o5 (.node o4 .leaf .leaf) .leaf)) (.node o9 (.node o8 (.node o7 .leaf .leaf) .leaf) (.node o10 .leaf .leaf))) (.node o16 (.node o14 (.node o13 (.node o12 .leaf .leaf) .leaf) (.node o15 .leaf .leaf)) (.node o19 (.node o18 (.node o17 .leaf .leaf) .leaf) (.node o21 .leaf .leaf)))) (.node o33 (.node o28 (.node o25 (.node o24 (.node o23 .leaf .leaf) .leaf) (.node o27 (.node o26 .leaf .leaf) .leaf)) (.node o31 (.node o30 (.node o29 .leaf .leaf) .leaf) (.node o32 .leaf .leaf))) (.node o39 (.node o37 (.node o35 (.node o34 .leaf .leaf) .leaf) (.node o38 .leaf .leaf)) (.node o42 (.node o41 (.node o40 .leaf .leaf) .leaf) (.node o43 .leaf .leaf))))) (.node o66 (.node o55 (.node o50 (.node o47 (.node o46 (.node o45 .leaf .leaf) .leaf) (.node o49 (.node o48 .leaf .leaf) .leaf)) (.node o53 (.node o52 (.node o51 .leaf .leaf) .leaf) (.node o54 .leaf .leaf))) (.node o60 (.node o58 (.node o57 (.node o56 .leaf .leaf) .leaf) (.node o59 .leaf .leaf)) (.node o64 (.node o62 (.node o61 .leaf .leaf) .leaf) (.node o65 .leaf .leaf)))) (.node o77 (.node o72 (.node o69 (.node o68 (.node o67 .leaf .leaf) .leaf) (.node o71 (.node o70 .leaf .leaf) .leaf)) (.node o75 (.node o74 (.node o73 .leaf .leaf) .leaf) (.node o76 .leaf .leaf))) (.node o83 (.node o81 (.node o80 (.node o79 .leaf .leaf) .leaf) (.node o82 .leaf .leaf)) (.node o86 (.node o85 (.node o84 .leaf .leaf) .leaf) (.node o87 .leaf .leaf)))))) (.node o132 (.node o111 (.node o100 (.node o94 (.node o91 (.node o90 (.node o89 .leaf .leaf) .leaf) (.node o93 (.node o92 .leaf .leaf) .leaf)) (.node o98 (.node o97 (.node o96 .leaf .leaf) .leaf) (.node o99 .leaf .leaf))) (.node o106 (.node o104 (.node o103 (.node o101 .leaf .leaf) .leaf) (.node o105 .leaf .leaf)) (.node o109 (.node o108 (.node o107 .leaf .leaf) .leaf) (.node o110 .leaf .leaf)))) (.node o122 (.node o117 (.node o114 (.node o113 (.node o112 .leaf .leaf) .leaf) (.node o116 (.node o115 .leaf .leaf) .leaf)) (.node o120 (.node o119 (.node o118 .leaf .leaf) .leaf) (.node o121 .leaf .leaf))) (.node o127 (.node o125 (.node o124 (.node o123 .leaf .leaf) .leaf) (.node o126 .leaf .leaf)) (.node o130 (.node o129 (.node o128 .leaf .leaf) .leaf) (.node o131 .leaf .leaf))))) (.node o153 (.node o143 (.node o138 (.node o135 (.node o134 (.node o133 .leaf .leaf) .leaf) (.node o137 (.node o136 .leaf .leaf) .leaf)) (.node o141 (.node o140 (.node o139 .leaf .leaf) .leaf) (.node o142 .leaf .leaf))) (.node o148 (.node o146 (.node o145 (.node o144 .leaf .leaf) .leaf) (.node o147 .leaf .leaf)) (.node o151 (.node o150 (.node o149 .leaf .leaf) .leaf) (.node o152 .leaf .leaf)))) (.node o164 (.node o159 (.node o156 (.node o155 (.node o154 .leaf .leaf) .leaf) (.node o158 (.node o157 .leaf .leaf) .leaf)) (.node o162 (.node o161 (.node o160 .leaf .leaf) .leaf) (.node o163 .leaf .leaf))) (.node o169 (.node o167 (.node o166 (.node o165 .leaf .leaf) .leaf) (.node o168 .leaf .leaf)) (.node o172 (.node o171 (.node o170 .leaf .leaf) .leaf) (.node o173 .leaf .leaf)))))))
theorem mix : Tryd.prog.follows .mixedOrders = true := by kernel_rfl
noncomputable def cx : Cx := ⟨Tryd.prog, tt.get, fun t i h => ttok.get t i h, mix⟩
theorem en3 : Enters Tryd.prog 3 := enters Tryd.func3 rfl (by decide)
theorem en4 : Enters Tryd.prog 4 := enters Tryd.func4 rfl (by decide)
theorem en5 : Enters Tryd.prog 5 := enters Tryd.func5 rfl (by decide)
theorem en6 : Enters Tryd.prog 6 := enters Tryd.func6 rfl (by decide)
theorem en7 : Enters Tryd.prog 7 := enters Tryd.func7 rfl (by decide)
theorem en8 : Enters Tryd.prog 8 := enters Tryd.func8 rfl (by decide)
theorem en9 : Enters Tryd.prog 9 := enters Tryd.func9 rfl (by decide)
theorem en10 : Enters Tryd.prog 10 := enters Tryd.func10 rfl (by decide)
theorem en11 : Enters Tryd.prog 11 := enters Tryd.func11 rfl (by decide)
theorem en12 : Enters Tryd.prog 12 := enters Tryd.func12 rfl (by decide)
theorem en13 : Enters Tryd.prog 13 := enters Tryd.func13 rfl (by decide)
theorem en14 : Enters Tryd.prog 14 := enters Tryd.func14 rfl (by decide)
theorem en15 : Enters Tryd.prog 15 := enters Tryd.func15 rfl (by decide)
theorem en16 : Enters Tryd.prog 16 := enters Tryd.func16 rfl (by decide)
theorem en17 : Enters Tryd.prog 17 := enters Tryd.func17 rfl (by decide)
theorem en18 : Enters Tryd.prog 18 := enters Tryd.func18 rfl (by decide)
theorem en19 : Enters Tryd.prog 19 := enters Tryd.func19 rfl (by decide)
theorem en20 : Enters Tryd.prog 20 := enters Tryd.func20 rfl (by decide)
theorem en21 : Enters Tryd.prog 21 := enters Tryd.func21 rfl (by decide)
theorem en22 : Enters Tryd.prog 22 := enters Tryd.func22 rfl (by decide)
theorem en23 : Enters Tryd.prog 23 := enters Tryd.func23 rfl (by decide)
theorem en24 : Enters Tryd.prog 24 := enters Tryd.func24 rfl (by decide)
theorem en25 : Enters Tryd.prog 25 := enters Tryd.func25 rfl (by decide)
theorem en26 : Enters Tryd.prog 26 := enters Tryd.func26 rfl (by decide)
theorem en27 : Enters Tryd.prog 27 := enters Tryd.func27 rfl (by decide)
theorem en28 : Enters Tryd.prog 28 := enters Tryd.func28 rfl (by decide)
theorem en29 : Enters Tryd.prog 29 := enters Tryd.func29 rfl (by decide)
theorem en30 : Enters Tryd.prog 30 := enters Tryd.func30 rfl (by decide)
theorem en31 : Enters Tryd.prog 31 := enters Tryd.func31 rfl (by decide)
theorem en32 : Enters Tryd.prog 32 := enters Tryd.func32 rfl (by decide)
theorem en33 : Enters Tryd.prog 33 := enters Tryd.func33 rfl (by decide)
theorem en34 : Enters Tryd.prog 34 := enters Tryd.func34 rfl (by decide)
theorem en35 : Enters Tryd.prog 35 := enters Tryd.func35 rfl (by decide)
theorem en36 : Enters Tryd.prog 36 := enters Tryd.func36 rfl (by decide)
theorem en37 : Enters Tryd.prog 37 := enters Tryd.func37 rfl (by decide)
theorem en38 : Enters Tryd.prog 38 := enters Tryd.func38 rfl (by decide)
theorem en39 : Enters Tryd.prog 39 := enters Tryd.func39 rfl (by decide)
theorem en40 : Enters Tryd.prog 40 := enters Tryd.func40 rfl (by decide)
theorem en41 : Enters Tryd.prog 41 := enters Tryd.func41 rfl (by decide)
theorem en42 : Enters Tryd.prog 42 := enters Tryd.func42 rfl (by decide)
theorem en43 : Enters Tryd.prog 43 := enters Tryd.func43 rfl (by decide)
theorem en44 : Enters Tryd.prog 44 := enters Tryd.func44 rfl (by decide)
theorem en45 : Enters Tryd.prog 45 := enters Tryd.func45 rfl (by decide)
theorem en46 : Enters Tryd.prog 46 := enters Tryd.func46 rfl (by decide)
theorem en47 : Enters Tryd.prog 47 := enters Tryd.func47 rfl (by decide)
theorem en48 : Enters Tryd.prog 48 := enters Tryd.func48 rfl (by decide)
theorem en49 : Enters Tryd.prog 49 := enters Tryd.func49 rfl (by decide)
theorem en50 : Enters Tryd.prog 50 := enters Tryd.func50 rfl (by decide)
theorem en51 : Enters Tryd.prog 51 := enters Tryd.func51 rfl (by decide)
theorem en52 : Enters Tryd.prog 52 := enters Tryd.func52 rfl (by decide)
theorem en53 : Enters Tryd.prog 53 := enters Tryd.func53 rfl (by decide)
theorem en54 : Enters Tryd.prog 54 := enters Tryd.func54 rfl (by decide)
theorem en55 : Enters Tryd.prog 55 := enters Tryd.func55 rfl (by decide)
theorem en56 : Enters Tryd.prog 56 := enters Tryd.func56 rfl (by decide)
theorem en57 : Enters Tryd.prog 57 := enters Tryd.func57 rfl (by decide)
theorem en58 : Enters Tryd.prog 58 := enters Tryd.func58 rfl (by decide)
theorem en59 : Enters Tryd.prog 59 := enters Tryd.func59 rfl (by decide)
theorem en60 : Enters Tryd.prog 60 := enters Tryd.func60 rfl (by decide)
theorem en61 : Enters Tryd.prog 61 := enters Tryd.func61 rfl (by decide)
theorem en62 : Enters Tryd.prog 62 := enters Tryd.func62 rfl (by decide)
theorem en63 : Enters Tryd.prog 63 := enters Tryd.func63 rfl (by decide)
theorem en64 : Enters Tryd.prog 64 := enters Tryd.func64 rfl (by decide)
theorem en65 : Enters Tryd.prog 65 := enters Tryd.func65 rfl (by decide)
theorem en66 : Enters Tryd.prog 66 := enters Tryd.func66 rfl (by decide)
theorem en67 : Enters Tryd.prog 67 := enters Tryd.func67 rfl (by decide)
theorem en68 : Enters Tryd.prog 68 := enters Tryd.func68 rfl (by decide)
theorem en69 : Enters Tryd.prog 69 := enters Tryd.func69 rfl (by decide)
theorem en70 : Enters Tryd.prog 70 := enters Tryd.func70 rfl (by decide)
theorem en71 : Enters Tryd.prog 71 := enters Tryd.func71 rfl (by decide)
theorem en72 : Enters Tryd.prog 72 := enters Tryd.func72 rfl (by decide)
theorem en73 : Enters Tryd.prog 73 := enters Tryd.func73 rfl (by decide)
theorem en74 : Enters Tryd.prog 74 := enters Tryd.func74 rfl (by decide)
theorem en75 : Enters Tryd.prog 75 := enters Tryd.func75 rfl (by decide)
theorem en76 : Enters Tryd.prog 76 := enters Tryd.func76 rfl (by decide)
theorem en77 : Enters Tryd.prog 77 := enters Tryd.func77 rfl (by decide)
theorem en78 : Enters Tryd.prog 78 := enters Tryd.func78 rfl (by decide)
theorem en79 : Enters Tryd.prog 79 := enters Tryd.func79 rfl (by decide)
theorem en80 : Enters Tryd.prog 80 := enters Tryd.func80 rfl (by decide)
theorem en81 : Enters Tryd.prog 81 := enters Tryd.func81 rfl (by decide)
theorem en82 : Enters Tryd.prog 82 := enters Tryd.func82 rfl (by decide)
theorem en83 : Enters Tryd.prog 83 := enters Tryd.func83 rfl (by decide)
theorem en84 : Enters Tryd.prog 84 := enters Tryd.func84 rfl (by decide)
theorem en85 : Enters Tryd.prog 85 := enters Tryd.func85 rfl (by decide)
theorem en86 : Enters Tryd.prog 86 := enters Tryd.func86 rfl (by decide)
theorem en87 : Enters Tryd.prog 87 := enters Tryd.func87 rfl (by decide)
theorem en88 : Enters Tryd.prog 88 := enters Tryd.func88 rfl (by decide)
theorem en89 : Enters Tryd.prog 89 := enters Tryd.func89 rfl (by decide)
theorem en90 : Enters Tryd.prog 90 := enters Tryd.func90 rfl (by decide)
theorem en91 : Enters Tryd.prog 91 := enters Tryd.func91 rfl (by decide)
theorem en92 : Enters Tryd.prog 92 := enters Tryd.func92 rfl (by decide)
theorem en93 : Enters Tryd.prog 93 := enters Tryd.func93 rfl (by decide)
theorem en94 : Enters Tryd.prog 94 := enters Tryd.func94 rfl (by decide)
theorem en95 : Enters Tryd.prog 95 := enters Tryd.func95 rfl (by decide)
theorem en96 : Enters Tryd.prog 96 := enters Tryd.func96 rfl (by decide)
theorem en97 : Enters Tryd.prog 97 := enters Tryd.func97 rfl (by decide)
theorem en98 : Enters Tryd.prog 98 := enters Tryd.func98 rfl (by decide)
theorem en99 : Enters Tryd.prog 99 := enters Tryd.func99 rfl (by decide)
theorem en100 : Enters Tryd.prog 100 := enters Tryd.func100 rfl (by decide)
theorem en101 : Enters Tryd.prog 101 := enters Tryd.func101 rfl (by decide)
theorem en102 : Enters Tryd.prog 102 := enters Tryd.func102 rfl (by decide)
theorem en103 : Enters Tryd.prog 103 := enters Tryd.func103 rfl (by decide)
theorem en104 : Enters Tryd.prog 104 := enters Tryd.func104 rfl (by decide)
theorem en105 : Enters Tryd.prog 105 := enters Tryd.func105 rfl (by decide)
theorem en106 : Enters Tryd.prog 106 := enters Tryd.func106 rfl (by decide)
theorem en107 : Enters Tryd.prog 107 := enters Tryd.func107 rfl (by decide)
end Go.Proofs.YtelgmdljcbkniaaDoor.Ti

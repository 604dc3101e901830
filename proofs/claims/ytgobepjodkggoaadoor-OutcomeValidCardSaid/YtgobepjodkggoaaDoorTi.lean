/- The types' rows and the functions' bodies that the texts use. -/
import Derived.Test.YtgobepjodkggoaaDoorProg
import Derived.Test.YtgobepjodkggoaaDoorAi13
namespace Go.Proofs.YtgobepjodkggoaaDoor.Ti
open Go Go.Proofs Go.Proofs.YtgobepjodkggoaaDoor.Ai
theorem ti3 : Inf Tryd.prog 3 1 8 (.int .i64 0) (.int .i64) := inf (by kernel_rfl) Tryd.underlying3
theorem ti4 : Inf Tryd.prog 4 1 1 (.bool false) (.bool) := inf (by kernel_rfl) Tryd.underlying4
theorem ti22 : Inf Tryd.prog 22 1 24 (.slice none 0 0) (.slice 48) := inf (by kernel_rfl) Tryd.underlying22
theorem ti23 : Inf Tryd.prog 23 1 24 (.slice none 0 0) (.slice 3) := inf (by kernel_rfl) Tryd.underlying23
theorem ti24 : Inf Tryd.prog 24 1 24 (.slice none 0 0) (.slice 50) := inf (by kernel_rfl) Tryd.underlying24
theorem ti26 : Inf Tryd.prog 26 4 80 (.agg #[.slice none 0 0, .slice none 0 0, .slice none 0 0, .int .i64 0]) (.struct #[{ name := "Winners", type := 22, offset := 0, embedded := false, tag := "", pkgPath := "", byteOffset := 0 }, { name := "Exited", type := 23, offset := 1, embedded := false, tag := "", pkgPath := "", byteOffset := 24 }, { name := "Assignment", type := 24, offset := 2, embedded := false, tag := "", pkgPath := "", byteOffset := 48 }, { name := "Cost", type := 3, offset := 3, embedded := false, tag := "", pkgPath := "", byteOffset := 72 }]) := inf (by kernel_rfl) Tryd.underlying26
theorem ti48 : Inf Tryd.prog 48 3 24 (.agg #[.int .i64 0, .int .i64 0, .int .i64 0]) (.struct #[{ name := "Station", type := 3, offset := 0, embedded := false, tag := "", pkgPath := "", byteOffset := 0 }, { name := "Option", type := 3, offset := 1, embedded := false, tag := "", pkgPath := "", byteOffset := 8 }, { name := "Payment", type := 3, offset := 2, embedded := false, tag := "", pkgPath := "", byteOffset := 16 }]) := inf (by kernel_rfl) Tryd.underlying48
theorem ti50 : Inf Tryd.prog 50 2 16 (.agg #[.int .i64 0, .int .i64 0]) (.struct #[{ name := "Station", type := 3, offset := 0, embedded := false, tag := "", pkgPath := "", byteOffset := 0 }, { name := "Channel", type := 3, offset := 1, embedded := false, tag := "", pkgPath := "", byteOffset := 8 }]) := inf (by kernel_rfl) Tryd.underlying50
theorem ti52 : Inf Tryd.prog 52 3 24 (.agg #[.int .i64 0, .int .i64 0, .int .i64 0]) (.struct #[{ name := "Station", type := 3, offset := 0, embedded := false, tag := "", pkgPath := "", byteOffset := 0 }, { name := "Home", type := 3, offset := 1, embedded := false, tag := "", pkgPath := "", byteOffset := 8 }, { name := "Volume", type := 3, offset := 2, embedded := false, tag := "", pkgPath := "", byteOffset := 16 }]) := inf (by kernel_rfl) Tryd.underlying52
theorem ti85 : Inf Tryd.prog 85 2 16 (.agg #[.int .i64 0, .int .i64 0]) (.array 2 3) := inf (by kernel_rfl) Tryd.underlying85
theorem ti86 : Inf Tryd.prog 86 8 64 (.agg #[.int .i64 0, .int .i64 0, .int .i64 0, .int .i64 0, .int .i64 0, .int .i64 0, .int .i64 0, .int .i64 0]) (.array 4 85) := inf (by kernel_rfl) Tryd.underlying86
theorem pl26 : Places Tryd.prog (match (.struct #[{ name := "Winners", type := 22, offset := 0, embedded := false, tag := "", pkgPath := "", byteOffset := 0 }, { name := "Exited", type := 23, offset := 1, embedded := false, tag := "", pkgPath := "", byteOffset := 24 }, { name := "Assignment", type := 24, offset := 2, embedded := false, tag := "", pkgPath := "", byteOffset := 48 }, { name := "Cost", type := 3, offset := 3, embedded := false, tag := "", pkgPath := "", byteOffset := 72 }] : TypeDesc) with | .struct fs => fs | _ => #[]) [(0, 1), (1, 1), (2, 1), (3, 1)] := fun w => by kernel_rfl
theorem pl48 : Places Tryd.prog (match (.struct #[{ name := "Station", type := 3, offset := 0, embedded := false, tag := "", pkgPath := "", byteOffset := 0 }, { name := "Option", type := 3, offset := 1, embedded := false, tag := "", pkgPath := "", byteOffset := 8 }, { name := "Payment", type := 3, offset := 2, embedded := false, tag := "", pkgPath := "", byteOffset := 16 }] : TypeDesc) with | .struct fs => fs | _ => #[]) [(0, 1), (1, 1), (2, 1)] := fun w => by kernel_rfl
theorem pl50 : Places Tryd.prog (match (.struct #[{ name := "Station", type := 3, offset := 0, embedded := false, tag := "", pkgPath := "", byteOffset := 0 }, { name := "Channel", type := 3, offset := 1, embedded := false, tag := "", pkgPath := "", byteOffset := 8 }] : TypeDesc) with | .struct fs => fs | _ => #[]) [(0, 1), (1, 1)] := fun w => by kernel_rfl
theorem pl52 : Places Tryd.prog (match (.struct #[{ name := "Station", type := 3, offset := 0, embedded := false, tag := "", pkgPath := "", byteOffset := 0 }, { name := "Home", type := 3, offset := 1, embedded := false, tag := "", pkgPath := "", byteOffset := 8 }, { name := "Volume", type := 3, offset := 2, embedded := false, tag := "", pkgPath := "", byteOffset := 16 }] : TypeDesc) with | .struct fs => fs | _ => #[]) [(0, 1), (1, 1), (2, 1)] := fun w => by kernel_rfl
theorem en7 : Enters Tryd.prog 7 := enters Tryd.func7 rfl (by decide)
theorem en8 : Enters Tryd.prog 8 := enters Tryd.func8 rfl (by decide)
theorem en9 : Enters Tryd.prog 9 := enters Tryd.func9 rfl (by decide)
theorem en10 : Enters Tryd.prog 10 := enters Tryd.func10 rfl (by decide)
theorem en11 : Enters Tryd.prog 11 := enters Tryd.func11 rfl (by decide)
theorem en12 : Enters Tryd.prog 12 := enters Tryd.func12 rfl (by decide)
theorem en13 : Enters Tryd.prog 13 := enters Tryd.func13 rfl (by decide)
theorem en14 : Enters Tryd.prog 14 := enters Tryd.func14 rfl (by decide)
theorem en15 : Enters Tryd.prog 15 := enters Tryd.func15 rfl (by decide)
theorem en16 : Enters Tryd.prog 16 := enters Tryd.func16 rfl (by decide)
theorem en17 : Enters Tryd.prog 17 := enters Tryd.func17 rfl (by decide)
theorem en18 : Enters Tryd.prog 18 := enters Tryd.func18 rfl (by decide)
theorem en19 : Enters Tryd.prog 19 := enters Tryd.func19 rfl (by decide)
theorem en20 : Enters Tryd.prog 20 := enters Tryd.func20 rfl (by decide)
theorem en21 : Enters Tryd.prog 21 := enters Tryd.func21 rfl (by decide)
theorem en22 : Enters Tryd.prog 22 := enters Tryd.func22 rfl (by decide)
theorem en23 : Enters Tryd.prog 23 := enters Tryd.func23 rfl (by decide)
theorem en24 : Enters Tryd.prog 24 := enters Tryd.func24 rfl (by decide)
theorem en25 : Enters Tryd.prog 25 := enters Tryd.func25 rfl (by decide)
theorem en26 : Enters Tryd.prog 26 := enters Tryd.func26 rfl (by decide)
theorem en27 : Enters Tryd.prog 27 := enters Tryd.func27 rfl (by decide)
theorem en28 : Enters Tryd.prog 28 := enters Tryd.func28 rfl (by decide)
theorem en29 : Enters Tryd.prog 29 := enters Tryd.func29 rfl (by decide)
theorem en30 : Enters Tryd.prog 30 := enters Tryd.func30 rfl (by decide)
theorem en31 : Enters Tryd.prog 31 := enters Tryd.func31 rfl (by decide)
theorem en32 : Enters Tryd.prog 32 := enters Tryd.func32 rfl (by decide)
theorem en33 : Enters Tryd.prog 33 := enters Tryd.func33 rfl (by decide)
theorem en34 : Enters Tryd.prog 34 := enters Tryd.func34 rfl (by decide)
theorem en35 : Enters Tryd.prog 35 := enters Tryd.func35 rfl (by decide)
theorem en36 : Enters Tryd.prog 36 := enters Tryd.func36 rfl (by decide)
theorem en37 : Enters Tryd.prog 37 := enters Tryd.func37 rfl (by decide)
theorem en38 : Enters Tryd.prog 38 := enters Tryd.func38 rfl (by decide)
theorem en39 : Enters Tryd.prog 39 := enters Tryd.func39 rfl (by decide)
theorem en40 : Enters Tryd.prog 40 := enters Tryd.func40 rfl (by decide)
theorem en41 : Enters Tryd.prog 41 := enters Tryd.func41 rfl (by decide)
theorem en42 : Enters Tryd.prog 42 := enters Tryd.func42 rfl (by decide)
theorem en43 : Enters Tryd.prog 43 := enters Tryd.func43 rfl (by decide)
theorem en44 : Enters Tryd.prog 44 := enters Tryd.func44 rfl (by decide)
theorem en45 : Enters Tryd.prog 45 := enters Tryd.func45 rfl (by decide)
theorem en46 : Enters Tryd.prog 46 := enters Tryd.func46 rfl (by decide)
theorem en47 : Enters Tryd.prog 47 := enters Tryd.func47 rfl (by decide)
theorem en48 : Enters Tryd.prog 48 := enters Tryd.func48 rfl (by decide)
theorem en49 : Enters Tryd.prog 49 := enters Tryd.func49 rfl (by decide)
theorem en50 : Enters Tryd.prog 50 := enters Tryd.func50 rfl (by decide)
theorem en51 : Enters Tryd.prog 51 := enters Tryd.func51 rfl (by decide)
theorem en52 : Enters Tryd.prog 52 := enters Tryd.func52 rfl (by decide)
theorem en53 : Enters Tryd.prog 53 := enters Tryd.func53 rfl (by decide)
theorem en54 : Enters Tryd.prog 54 := enters Tryd.func54 rfl (by decide)
theorem en55 : Enters Tryd.prog 55 := enters Tryd.func55 rfl (by decide)
theorem en56 : Enters Tryd.prog 56 := enters Tryd.func56 rfl (by decide)
theorem en57 : Enters Tryd.prog 57 := enters Tryd.func57 rfl (by decide)
theorem en58 : Enters Tryd.prog 58 := enters Tryd.func58 rfl (by decide)
theorem en59 : Enters Tryd.prog 59 := enters Tryd.func59 rfl (by decide)
theorem en60 : Enters Tryd.prog 60 := enters Tryd.func60 rfl (by decide)
theorem en61 : Enters Tryd.prog 61 := enters Tryd.func61 rfl (by decide)
theorem en62 : Enters Tryd.prog 62 := enters Tryd.func62 rfl (by decide)
theorem en63 : Enters Tryd.prog 63 := enters Tryd.func63 rfl (by decide)
theorem en64 : Enters Tryd.prog 64 := enters Tryd.func64 rfl (by decide)
theorem en65 : Enters Tryd.prog 65 := enters Tryd.func65 rfl (by decide)
theorem mix : Tryd.prog.follows .mixedOrders = true := by kernel_rfl
end Go.Proofs.YtgobepjodkggoaaDoor.Ti

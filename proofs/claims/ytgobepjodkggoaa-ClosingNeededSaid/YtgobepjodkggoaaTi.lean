/- The types' rows and the functions' bodies that the texts use. -/
import Derived.Test.YtgobepjodkggoaaProg
import Derived.Test.YtgobepjodkggoaaAi9
namespace Go.Proofs.Ytgobepjodkggoaa.Ti
open Go Go.Proofs Go.Proofs.Ytgobepjodkggoaa.Ai
theorem ti3 : Inf Try.prog 3 1 8 (.int .i64 0) (.int .i64) := inf (by kernel_rfl) Try.underlying3
theorem ti23 : Inf Try.prog 23 2 16 (.agg #[.int .i64 0, .int .i64 0]) (.struct #[{ name := "Fixed", type := 3, offset := 0, embedded := false, tag := "", pkgPath := "", byteOffset := 0 }, { name := "Benchmark", type := 3, offset := 1, embedded := false, tag := "", pkgPath := "", byteOffset := 8 }]) := inf (by kernel_rfl) Try.underlying23
theorem pl23 : Places Try.prog (match (.struct #[{ name := "Fixed", type := 3, offset := 0, embedded := false, tag := "", pkgPath := "", byteOffset := 0 }, { name := "Benchmark", type := 3, offset := 1, embedded := false, tag := "", pkgPath := "", byteOffset := 8 }] : TypeDesc) with | .struct fs => fs | _ => #[]) [(0, 1), (1, 1)] := fun w => by kernel_rfl
theorem en7 : Enters Try.prog 7 := enters Try.func7 rfl (by decide)
theorem en8 : Enters Try.prog 8 := enters Try.func8 rfl (by decide)
theorem en9 : Enters Try.prog 9 := enters Try.func9 rfl (by decide)
theorem en10 : Enters Try.prog 10 := enters Try.func10 rfl (by decide)
theorem en11 : Enters Try.prog 11 := enters Try.func11 rfl (by decide)
theorem en12 : Enters Try.prog 12 := enters Try.func12 rfl (by decide)
theorem en13 : Enters Try.prog 13 := enters Try.func13 rfl (by decide)
theorem en14 : Enters Try.prog 14 := enters Try.func14 rfl (by decide)
theorem en15 : Enters Try.prog 15 := enters Try.func15 rfl (by decide)
theorem en16 : Enters Try.prog 16 := enters Try.func16 rfl (by decide)
theorem en17 : Enters Try.prog 17 := enters Try.func17 rfl (by decide)
theorem en18 : Enters Try.prog 18 := enters Try.func18 rfl (by decide)
theorem en19 : Enters Try.prog 19 := enters Try.func19 rfl (by decide)
theorem en20 : Enters Try.prog 20 := enters Try.func20 rfl (by decide)
theorem mix : Try.prog.follows .mixedOrders = true := by kernel_rfl
end Go.Proofs.Ytgobepjodkggoaa.Ti

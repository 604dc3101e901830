/- The program's data as plain Lean structures, and how they stand as values. -/
import Derived.Test.YtgobepjodkggoaaAi7
namespace Go.Proofs.Ytgobepjodkggoaa.Dt
open Go Go.Proofs.Ytgobepjodkggoaa.Ai
def encL {α : Type} (e : α → AV) (l : List α) : AV := .lst false (l.map e)
structure S_api_Terms where
  f_Fixed : Int
  f_Benchmark : Int
  deriving DecidableEq, Inhabited
def S_api_Terms.enc (x : S_api_Terms) : AV := .agg [(AV.int .i64) x.f_Fixed, (AV.int .i64) x.f_Benchmark]
end Go.Proofs.Ytgobepjodkggoaa.Dt

/- The program's data as plain Lean structures, and how they stand as values. -/
import Derived.Test.YtgobepjodkggoaaDoorAi7
namespace Go.Proofs.YtgobepjodkggoaaDoor.Dt
open Go Go.Proofs.YtgobepjodkggoaaDoor.Ai
def encL {α : Type} (e : α → AV) (l : List α) : AV := .lst false (l.map e)
structure A2_Int where
  f_e0 : Int
  f_e1 : Int
  deriving DecidableEq, Inhabited
def A2_Int.enc (x : A2_Int) : AV := .agg [(AV.int .i64) x.f_e0, (AV.int .i64) x.f_e1]
structure A4_A2_Int where
  f_e0 : A2_Int
  f_e1 : A2_Int
  f_e2 : A2_Int
  f_e3 : A2_Int
  deriving DecidableEq, Inhabited
def A4_A2_Int.enc (x : A4_A2_Int) : AV := .agg [(AV.int .i64) x.f_e0.f_e0, (AV.int .i64) x.f_e0.f_e1, (AV.int .i64) x.f_e1.f_e0, (AV.int .i64) x.f_e1.f_e1, (AV.int .i64) x.f_e2.f_e0, (AV.int .i64) x.f_e2.f_e1, (AV.int .i64) x.f_e3.f_e0, (AV.int .i64) x.f_e3.f_e1]
structure S_api_Choice where
  f_Station : Int
  f_Channel : Int
  deriving DecidableEq, Inhabited
def S_api_Choice.enc (x : S_api_Choice) : AV := .agg [(AV.int .i64) x.f_Station, (AV.int .i64) x.f_Channel]
structure S_api_Winner where
  f_Station : Int
  f_Option : Int
  f_Payment : Int
  deriving DecidableEq, Inhabited
def S_api_Winner.enc (x : S_api_Winner) : AV := .agg [(AV.int .i64) x.f_Station, (AV.int .i64) x.f_Option, (AV.int .i64) x.f_Payment]
structure S_api_Outcome where
  f_Winners : (List S_api_Winner)
  f_Exited : (List Int)
  f_Assignment : (List S_api_Choice)
  f_Cost : Int
  deriving DecidableEq, Inhabited
def S_api_Outcome.enc (x : S_api_Outcome) : AV := .agg [(encL S_api_Winner.enc) x.f_Winners, (encL (AV.int .i64)) x.f_Exited, (encL S_api_Choice.enc) x.f_Assignment, (AV.int .i64) x.f_Cost]
structure S_api_Entrant where
  f_Station : Int
  f_Home : Int
  f_Volume : Int
  deriving DecidableEq, Inhabited
def S_api_Entrant.enc (x : S_api_Entrant) : AV := .agg [(AV.int .i64) x.f_Station, (AV.int .i64) x.f_Home, (AV.int .i64) x.f_Volume]
end Go.Proofs.YtgobepjodkggoaaDoor.Dt

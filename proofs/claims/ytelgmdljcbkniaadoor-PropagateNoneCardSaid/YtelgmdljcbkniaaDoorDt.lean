/- The program's data as plain Lean structures, and how they stand as values. -/
import Derived.Test.YtelgmdljcbkniaaDoorB24
namespace Go.Proofs.YtelgmdljcbkniaaDoor.Dt
open Go Go.Proofs.YtelgmdljcbkniaaDoor.Ai
def encL {α : Type} (e : α → AV) (l : List α) : AV := .lst false (l.map e)
structure S_runtime_boundsError where
  f_x : Int
  f_y : Int
  f_signed : Bool
  f_code : Int
  deriving DecidableEq, Inhabited
def S_runtime_boundsError.enc (x : S_runtime_boundsError) : AV := .agg [(AV.int .i64) x.f_x, (AV.int .i64) x.f_y, AV.bool x.f_signed, (AV.int .u8) x.f_code]
structure S_runtime_errorAddressString where
  f_msg : ByteArray
  f_addr : Int
  deriving DecidableEq, Inhabited
def S_runtime_errorAddressString.enc (x : S_runtime_errorAddressString) : AV := .agg [AV.str x.f_msg, (AV.int .u64) x.f_addr]
structure S_api_Pair where
  f_A : Int
  f_B : Int
  f_Offset : Int
  f_Low : Int
  f_High : Int
  deriving DecidableEq, Inhabited
def S_api_Pair.enc (x : S_api_Pair) : AV := .agg [(AV.int .i64) x.f_A, (AV.int .i64) x.f_B, (AV.int .i64) x.f_Offset, (AV.int .i64) x.f_Low, (AV.int .i64) x.f_High]
structure S_api_Load where
  f_To : Int
  f_From : Int
  f_Weight : Int
  f_Low : Int
  f_High : Int
  deriving DecidableEq, Inhabited
def S_api_Load.enc (x : S_api_Load) : AV := .agg [(AV.int .i64) x.f_To, (AV.int .i64) x.f_From, (AV.int .i64) x.f_Weight, (AV.int .i64) x.f_Low, (AV.int .i64) x.f_High]
structure S_api_Cap where
  f_Station : Int
  f_Max : Int
  f_Low : Int
  f_High : Int
  deriving DecidableEq, Inhabited
def S_api_Cap.enc (x : S_api_Cap) : AV := .agg [(AV.int .i64) x.f_Station, (AV.int .i64) x.f_Max, (AV.int .i64) x.f_Low, (AV.int .i64) x.f_High]
structure S_api_Rules where
  f_Pairs : (List S_api_Pair)
  f_Loads : (List S_api_Load)
  f_Caps : (List S_api_Cap)
  deriving DecidableEq, Inhabited
def S_api_Rules.enc (x : S_api_Rules) : AV := .agg [(encL S_api_Pair.enc) x.f_Pairs, (encL S_api_Load.enc) x.f_Loads, (encL S_api_Cap.enc) x.f_Caps]
structure S_api_Domain where
  f_Station : Int
  f_Channels : (List Int)
  deriving DecidableEq, Inhabited
def S_api_Domain.enc (x : S_api_Domain) : AV := .agg [(AV.int .i64) x.f_Station, (encL (AV.int .i64)) x.f_Channels]
structure S_api_Problem where
  f_Domains : (List S_api_Domain)
  f_Rules : S_api_Rules
  deriving DecidableEq, Inhabited
def S_api_Problem.enc (x : S_api_Problem) : AV := .agg [(encL S_api_Domain.enc) x.f_Domains, (encL S_api_Pair.enc) x.f_Rules.f_Pairs, (encL S_api_Load.enc) x.f_Rules.f_Loads, (encL S_api_Cap.enc) x.f_Rules.f_Caps]
structure S_api_Choice where
  f_Station : Int
  f_Channel : Int
  deriving DecidableEq, Inhabited
def S_api_Choice.enc (x : S_api_Choice) : AV := .agg [(AV.int .i64) x.f_Station, (AV.int .i64) x.f_Channel]
structure S_bandplanlaw18_Act where
  f_Kind : Int
  f_Choice : S_api_Choice
  deriving DecidableEq, Inhabited
def S_bandplanlaw18_Act.enc (x : S_bandplanlaw18_Act) : AV := .agg [(AV.int .i64) x.f_Kind, (AV.int .i64) x.f_Choice.f_Station, (AV.int .i64) x.f_Choice.f_Channel]
structure S_api_Violation where
  f_Kind : Int
  f_At : Int
  deriving DecidableEq, Inhabited
def S_api_Violation.enc (x : S_api_Violation) : AV := .agg [(AV.int .i64) x.f_Kind, (AV.int .i64) x.f_At]
end Go.Proofs.YtelgmdljcbkniaaDoor.Dt

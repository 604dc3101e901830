/- The program's data as plain Lean structures, and how they stand as values. -/
import Derived.Test.YtelgmdljcbkniaaGreatDoorBM5
namespace Go.Proofs.YtelgmdljcbkniaaGreatDoor.Dt
open Go Go.Proofs.YtelgmdljcbkniaaGreatDoor.Ai
def encL {α : Type} (e : α → AV) (l : List α) : AV := .lst false (l.map e)
structure S_runtime_boundsError where
  f_x : Int
  f_y : Int
  f_signed : Bool
  f_code : Int
  deriving DecidableEq, Inhabited
def S_runtime_boundsError.enc (x : S_runtime_boundsError) : AV := .agg [(AV.int .i64) x.f_x, (AV.int .i64) x.f_y, AV.bool x.f_signed, (AV.int .u8) x.f_code]
structure S_runtime_errorAddressString where
  f_msg : ByteArray
  f_addr : Int
  deriving DecidableEq, Inhabited
def S_runtime_errorAddressString.enc (x : S_runtime_errorAddressString) : AV := .agg [AV.str x.f_msg, (AV.int .u64) x.f_addr]
structure S_api_Pair where
  f_A : Int
  f_B : Int
  f_Offset : Int
  f_Low : Int
  f_High : Int
  deriving DecidableEq, Inhabited
def S_api_Pair.enc (x : S_api_Pair) : AV := .agg [(AV.int .i64) x.f_A, (AV.int .i64) x.f_B, (AV.int .i64) x.f_Offset, (AV.int .i64) x.f_Low, (AV.int .i64) x.f_High]
structure S_api_Load where
  f_To : Int
  f_From : Int
  f_Weight : Int
  f_Low : Int
  f_High : Int
  deriving DecidableEq, Inhabited
def S_api_Load.enc (x : S_api_Load) : AV := .agg [(AV.int .i64) x.f_To, (AV.int .i64) x.f_From, (AV.int .i64) x.f_Weight, (AV.int .i64) x.f_Low, (AV.int .i64) x.f_High]
structure S_api_Cap where
  f_Station : Int
  f_Max : Int
  f_Low : Int
  f_High : Int
  deriving DecidableEq, Inhabited
def S_api_Cap.enc (x : S_api_Cap) : AV := .agg [(AV.int .i64) x.f_Station, (AV.int .i64) x.f_Max, (AV.int .i64) x.f_Low, (AV.int .i64) x.f_High]
structure S_api_Rules where
  f_Pairs : (List S_api_Pair)
  f_Loads : (List S_api_Load)
  f_Caps : (List S_api_Cap)
  deriving DecidableEq, Inhabited
def S_api_Rules.enc (x : S_api_Rules) : AV := .agg [(encL S_api_Pair.enc) x.f_Pairs, (encL S_api_Load.enc) x.f_Loads, (encL S_api_Cap.enc) x.f_Caps]
structure S_api_Domain where
  f_Station : Int
  f_Channels : (List Int)
  deriving DecidableEq, Inhabited
def S_api_Domain.enc (x : S_api_Domain) : AV := .agg [(AV.int .i64) x.f_Station, (encL (AV.int .i64)) x.f_Channels]
structure S_api_Problem where
  f_Domains : (List S_api_Domain)
  f_Rules : S_api_Rules
  deriving DecidableEq, Inhabited
def S_api_Problem.enc (x : S_api_Problem) : AV := .agg [(encL S_api_Domain.enc) x.f_Domains, (encL S_api_Pair.enc) x.f_Rules.f_Pairs, (encL S_api_Load.enc) x.f_Rules.f_Loads, (encL S_api_Cap.enc) x.f_Rules.f_Caps]
structure S_api_Choice where
  f_Station : Int
  f_Channel : Int
  deriving DecidableEq, Inhabited
def S_api_Choice.enc (x : S_api_Choice) : AV := .agg [(AV.int .i64) x.f_Station, (AV.int .i64) x.f_Channel]
structure S_api_Proof where
  f_Stations : (List Int)
  f_Lemmas : (List (List S_api_Choice))
  deriving DecidableEq, Inhabited
def S_api_Proof.enc (x : S_api_Proof) : AV := .agg [(encL (AV.int .i64)) x.f_Stations, (encL (encL S_api_Choice.enc)) x.f_Lemmas]
structure S_wire_status where
  f_first : Int
  deriving DecidableEq, Inhabited
def S_wire_status.enc (x : S_wire_status) : AV := .agg [(AV.int .i64) x.f_first]
structure S_wire_Writer where
  f_status : S_wire_status
  f_out : (List Int)
  deriving DecidableEq, Inhabited
def S_wire_Writer.enc (x : S_wire_Writer) : AV := .agg [(AV.int .i64) x.f_status.f_first, (encL (AV.int .u8)) x.f_out]
structure S_wire_Reader where
  f_status : S_wire_status
  f_in : (List Int)
  f_at : Int
  f_open : Bool
  deriving DecidableEq, Inhabited
def S_wire_Reader.enc (x : S_wire_Reader) : AV := .agg [(AV.int .i64) x.f_status.f_first, (encL (AV.int .u8)) x.f_in, (AV.int .i64) x.f_at, AV.bool x.f_open]
end Go.Proofs.YtelgmdljcbkniaaGreatDoor.Dt

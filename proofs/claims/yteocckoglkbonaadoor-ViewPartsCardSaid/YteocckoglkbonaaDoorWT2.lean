/- Types. -/
import Derived.Test.YteocckoglkbonaaDoorWT
set_option linter.unusedSimpArgs false
namespace Go.Abs
structure T_Entry where
  mk ::
  Term : Int
  Epoch : Int
  Members : Int
  Incs : (List Int)
  Msgs : (List T_Message)
def T_Entry.av (x : T_Entry) : AV := (AV.agg [(AV.int .i64 x.Term), (AV.int .i64 x.Epoch), (AV.int .i64 x.Members), (AV.sl .p (x.Incs.map (AV.int .i64))), (AV.sl .p (x.Msgs.map T_Message.av))])
theorem cells_T_Entry (x : T_Entry) : x.av.cells.length = 5 := rfl
structure T_a3_int where
  mk ::
  c0 : Int
  c1 : Int
  c2 : Int
def T_a3_int.av (x : T_a3_int) : AV := (AV.agg [(AV.int .i64 x.c0), (AV.int .i64 x.c1), (AV.int .i64 x.c2)])
theorem cells_T_a3_int (x : T_a3_int) : x.av.cells.length = 3 := rfl
theorem flat_T_a3_int (x : T_a3_int) : x.av.hasSl = false := rfl
structure T_a4_int where
  mk ::
  c0 : Int
  c1 : Int
  c2 : Int
  c3 : Int
def T_a4_int.av (x : T_a4_int) : AV := (AV.agg [(AV.int .i64 x.c0), (AV.int .i64 x.c1), (AV.int .i64 x.c2), (AV.int .i64 x.c3)])
theorem cells_T_a4_int (x : T_a4_int) : x.av.cells.length = 4 := rfl
theorem flat_T_a4_int (x : T_a4_int) : x.av.hasSl = false := rfl
end Go.Abs

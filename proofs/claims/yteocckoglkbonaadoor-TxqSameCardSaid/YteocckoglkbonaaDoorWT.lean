/- Types. -/
import Derived.Test.YteocckoglkbonaaDoorE21
namespace Go.Abs
structure T35_Message where
  mk ::
  Id_Ext : Bool
  Id_N : Int
  Sender : Int
  Inc : Int
  Seq : Int
  Number : Int
  Data : ByteArray
def T35_Message.av (x : T35_Message) : AV := (AV.agg [(AV.bool x.Id_Ext), (AV.int .i64 x.Id_N), (AV.int .i64 x.Sender), (AV.int .i64 x.Inc), (AV.int .i64 x.Seq), (AV.int .i64 x.Number), (AV.str x.Data)])
theorem cells_T35_Message (x : T35_Message) : x.av.cells.length = 7 := rfl
theorem flat_T35_Message (x : T35_Message) : x.av.hasSl = false := rfl
structure T26_Queue where
  mk ::
  Limit : Int
  Msgs : (List T35_Message)
def T26_Queue.av (x : T26_Queue) : AV := (AV.agg [(AV.int .i64 x.Limit), (AV.sl .p (x.Msgs.map T35_Message.av))])
theorem cells_T26_Queue (x : T26_Queue) : x.av.cells.length = 2 := rfl
structure T33_Ident where
  mk ::
  Ext : Bool
  N : Int
def T33_Ident.av (x : T33_Ident) : AV := (AV.agg [(AV.bool x.Ext), (AV.int .i64 x.N)])
theorem cells_T33_Ident (x : T33_Ident) : x.av.cells.length = 2 := rfl
theorem flat_T33_Ident (x : T33_Ident) : x.av.hasSl = false := rfl
structure T37_6_int where
  mk ::
  c0 : Int
  c1 : Int
  c2 : Int
  c3 : Int
  c4 : Int
  c5 : Int
def T37_6_int.av (x : T37_6_int) : AV := (AV.agg [(AV.int .i64 x.c0), (AV.int .i64 x.c1), (AV.int .i64 x.c2), (AV.int .i64 x.c3), (AV.int .i64 x.c4), (AV.int .i64 x.c5)])
theorem cells_T37_6_int (x : T37_6_int) : x.av.cells.length = 6 := rfl
theorem flat_T37_6_int (x : T37_6_int) : x.av.hasSl = false := rfl
def T33_Ident.beq (x y : T33_Ident) : Bool := ((x.Ext == y.Ext) && ((x.N == y.N) && true))
theorem T33_Ident.beqT {x y : T33_Ident} (h : x = y) : x.beq y = true := by subst h; simp [T33_Ident.beq]
theorem T33_Ident.beqF {x y : T33_Ident} (h : ¬ x = y) : x.beq y = false := by
  cases hb : x.beq y with
  | false => rfl
  | true =>
    refine absurd ?_ h
    cases x; cases y
    simp only [T33_Ident.beq, Bool.and_eq_true, beq_iff_eq, bytes_inj, and_true] at hb
    simp only [T33_Ident.mk.injEq]
    exact hb
def T35_Message.beq (x y : T35_Message) : Bool := ((x.Id_Ext == y.Id_Ext) && ((x.Id_N == y.Id_N) && ((x.Sender == y.Sender) && ((x.Inc == y.Inc) && ((x.Seq == y.Seq) && ((x.Number == y.Number) && ((x.Data.toList == y.Data.toList) && true)))))))
theorem T35_Message.beqT {x y : T35_Message} (h : x = y) : x.beq y = true := by subst h; simp [T35_Message.beq]
theorem T35_Message.beqF {x y : T35_Message} (h : ¬ x = y) : x.beq y = false := by
  cases hb : x.beq y with
  | false => rfl
  | true =>
    refine absurd ?_ h
    cases x; cases y
    simp only [T35_Message.beq, Bool.and_eq_true, beq_iff_eq, bytes_inj, and_true] at hb
    simp only [T35_Message.mk.injEq]
    exact hb
end Go.Abs

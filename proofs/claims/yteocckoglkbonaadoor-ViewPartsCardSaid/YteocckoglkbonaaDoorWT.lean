/- Types. -/
import Derived.Test.YteocckoglkbonaaDoorWN
set_option linter.unusedSimpArgs false
namespace Go.Abs
structure T_Message where
  mk ::
  Id_Ext : Bool
  Id_N : Int
  Sender : Int
  Inc : Int
  Seq : Int
  Number : Int
  Data : ByteArray
def T_Message.av (x : T_Message) : AV := (AV.agg [(AV.bool x.Id_Ext), (AV.int .i64 x.Id_N), (AV.int .i64 x.Sender), (AV.int .i64 x.Inc), (AV.int .i64 x.Seq), (AV.int .i64 x.Number), (AV.str x.Data)])
theorem cells_T_Message (x : T_Message) : x.av.cells.length = 7 := rfl
theorem flat_T_Message (x : T_Message) : x.av.hasSl = false := rfl
structure T_Queue where
  mk ::
  Limit : Int
  Msgs : (List T_Message)
def T_Queue.av (x : T_Queue) : AV := (AV.agg [(AV.int .i64 x.Limit), (AV.sl .p (x.Msgs.map T_Message.av))])
theorem cells_T_Queue (x : T_Queue) : x.av.cells.length = 2 := rfl
structure T_Ident where
  mk ::
  Ext : Bool
  N : Int
def T_Ident.av (x : T_Ident) : AV := (AV.agg [(AV.bool x.Ext), (AV.int .i64 x.N)])
theorem cells_T_Ident (x : T_Ident) : x.av.cells.length = 2 := rfl
theorem flat_T_Ident (x : T_Ident) : x.av.hasSl = false := rfl
structure T_a6_int where
  mk ::
  c0 : Int
  c1 : Int
  c2 : Int
  c3 : Int
  c4 : Int
  c5 : Int
def T_a6_int.av (x : T_a6_int) : AV := (AV.agg [(AV.int .i64 x.c0), (AV.int .i64 x.c1), (AV.int .i64 x.c2), (AV.int .i64 x.c3), (AV.int .i64 x.c4), (AV.int .i64 x.c5)])
theorem cells_T_a6_int (x : T_a6_int) : x.av.cells.length = 6 := rfl
theorem flat_T_a6_int (x : T_a6_int) : x.av.hasSl = false := rfl
def T_Ident.beq (x y : T_Ident) : Bool := ((x.Ext == y.Ext) && ((x.N == y.N) && true))
theorem T_Ident.beqT {x y : T_Ident} (h : x = y) : x.beq y = true := by subst h; simp [T_Ident.beq]
theorem T_Ident.beqF {x y : T_Ident} (h : ¬ x = y) : x.beq y = false := by
  cases hb : x.beq y with
  | false => rfl
  | true =>
    refine absurd ?_ h
    cases x; cases y
    simp only [T_Ident.beq, Bool.and_eq_true, beq_iff_eq, bytes_inj, and_true] at hb
    simp only [T_Ident.mk.injEq]
    exact hb
def T_Message.beq (x y : T_Message) : Bool := ((x.Id_Ext == y.Id_Ext) && ((x.Id_N == y.Id_N) && ((x.Sender == y.Sender) && ((x.Inc == y.Inc) && ((x.Seq == y.Seq) && ((x.Number == y.Number) && ((x.Data.toList == y.Data.toList) && true)))))))
theorem T_Message.beqT {x y : T_Message} (h : x = y) : x.beq y = true := by subst h; simp [T_Message.beq]
theorem T_Message.beqF {x y : T_Message} (h : ¬ x = y) : x.beq y = false := by
  cases hb : x.beq y with
  | false => rfl
  | true =>
    refine absurd ?_ h
    cases x; cases y
    simp only [T_Message.beq, Bool.and_eq_true, beq_iff_eq, bytes_inj, and_true] at hb
    simp only [T_Message.mk.injEq]
    exact hb
end Go.Abs

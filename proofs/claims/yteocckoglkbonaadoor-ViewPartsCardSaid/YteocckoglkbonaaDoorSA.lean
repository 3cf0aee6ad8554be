/- What the laws of logs and views make of raw numbers: plain. -/
import Derived.Test.YteocckoglkbonaaDoorS9
set_option linter.unusedVariables false
set_option linter.unusedSimpArgs false
set_option maxRecDepth 100000
namespace Go.Abs

def I3 (r : T_a3_int) : Prop := I64 r.c0 ∧ I64 r.c1 ∧ I64 r.c2
def I4 (r : T_a4_int) : Prop := I64 r.c0 ∧ I64 r.c1 ∧ I64 r.c2 ∧ I64 r.c3
def termS (l : List T_Entry) (n : Int) : Int × Bool := if n < 0 ∨ n > (l.length : Int) then (0, false) else if n = 0 then (0, true) else ((l[(n - 1).toNat]?.map (·.Term)).getD 0, true)
def putS (l : List T_Entry) (n t : Int) (e : List T_Entry) : List T_Entry × Int × Int :=
  if logRight l = true ∧ e.length ≤ 1 ∧ e.all entRight = true then
    if (termS l n).2 = true ∧ (termS l n).1 = t then
      match e with
      | [] => (l, n, 0)
      | x :: _ =>
        if (termS l (n + 1)).2 = true ∧ (termS l (n + 1)).1 = x.Term then (l, n + 1, 0)
        else if n ≥ 300 then (l, 0, 40)
        else if logRight (l.take n.toNat ++ [x]) = true then (l.take n.toNat ++ [x], n + 1, 0)
        else (l, 0, 1)
    else (l, 0, 41)
  else (l, 0, 1)
def incAt (incs : List Int) (i : Nat) : Int := if 0 < incs.length then 1 + pickS (incs.getD (i % incs.length) 0) 65535 else 1
def incsE (incs l : List Int) : List Int := (List.range l.length).map (incAt incs)
def dataD : ByteArray := ⟨#[100, 97, 116, 97]⟩
def entMsg (y : T_a6_int) (s c : Int) : T_Message :=
  let m := messageS y (dataD.extract (0 : Int).toNat (pickS y.c4 5 : Int).toNat)
  T_Message.mk m.Id_Ext m.Id_N s c m.Seq m.Number m.Data
def rawMsgs (raw : List T_a6_int) (l incs : List Int) : List T_Message := (raw.zip (l.zip (incsE incs l))).map (fun p => entMsg p.1 p.2.1 p.2.2)
def entryS (n : T_a3_int) (incs : List Int) (raw : List T_a6_int) : T_Entry :=
  ⟨1 + pickS n.c0 65535, 1 + pickS n.c1 65535, pickS n.c2 65536, incsE incs (listS (pickS n.c2 65536)), sort4 (rawMsgs raw (listS (pickS n.c2 65536)) incs)⟩
def lterm (raw : List T_a3_int) : Nat → Int
  | 0 => 1
  | i + 1 => lterm raw i + (match raw[i]? with | some y => Int.tdiv (pickS y.c0 3) 2 | none => 0)
def entRaw (term : Int) (y : T_a3_int) (msgs : List T_a6_int) (i : Nat) : T_Entry :=
  let e := entryS ⟨0, 0, pickS y.c1 16⟩ [pickS y.c2 3] ((msgs.take (i + 1)).drop i)
  ⟨term, 2 * (i : Int) + 1 + pickS y.c2 2, e.Members, e.Incs, e.Msgs⟩
def entAt (raw : List T_a3_int) (msgs : List T_a6_int) (i : Nat) : T_Entry := match raw[i]? with
  | some y => entRaw (lterm raw (i + 1)) y msgs i
  | none => zeroE
def logN (raw : List T_a3_int) (msgs : List T_a6_int) (n : Nat) : List T_Entry := (List.range n).map (entAt raw msgs)
def logS (raw : List T_a3_int) (msgs : List T_a6_int) : List T_Entry := logN raw msgs (min raw.length 12)
def pendM (y : T_a6_int) : T_Message :=
  let m := messageS y letterD
  T_Message.mk m.Id_Ext m.Id_N (pickS y.c2 5) (1 + pickS y.c3 3) (1 + pickS y.c4 6) m.Number m.Data
def pendS (raw : List T_a6_int) : List T_Message := (raw.take 8).map pendM
theorem logN_succ (raw : List T_a3_int) (msgs : List T_a6_int) (n : Nat) : logN raw msgs (n + 1) = logN raw msgs n ++ [entAt raw msgs n] := by simp [logN, List.range_succ]
theorem incsE_get {incs l : List Int} {i : Nat} (h : i < l.length) : (incsE incs l)[i]? = some (incAt incs i) := by simp [incsE, h]
theorem incsE_length (incs l : List Int) : (incsE incs l).length = l.length := by simp [incsE]
theorem rawMsgs_length (raw : List T_a6_int) (l incs : List Int) : (rawMsgs raw l incs).length = min raw.length l.length := by simp [rawMsgs, incsE_length]
theorem rawMsgs_snoc {raw : List T_a6_int} {l incs : List Int} {i : Nat} (h1 : i < raw.length) (h2 : i < l.length) : (rawMsgs raw l incs).take (i + 1) = (rawMsgs raw l incs).take i ++ [entMsg raw[i] l[i] (incAt incs i)] := by
  have hl := rawMsgs_length raw l incs
  have hi : i < (rawMsgs raw l incs).length := by omega
  rw [← take_snoc hi]
  congr 2
  have h3 : i < (incsE incs l).length := by rw [incsE_length]; exact h2
  have h4 : (incsE incs l)[i]'h3 = incAt incs i := by have := incsE_get (incs := incs) h2; rw [List.getElem?_eq_getElem h3] at this; exact Option.some.inj this
  simp [rawMsgs, h4]
theorem SmallE.sort {e : T_Entry} (h : SmallE e) : SmallE e := h
theorem small_take {l : List T_Entry} (h : Small l) (n : Nat) : Small (l.take n) := ⟨by have := h.1; simp; omega, fun e he => h.2 e (List.mem_of_mem_take he)⟩
theorem small_append {a b : List T_Entry} (ha : Small a) (hb : Small b) (hl : a.length + b.length ≤ 1000000) : Small (a ++ b) := ⟨by simpa using hl, fun e he => by rcases List.mem_append.1 he with h | h; exact ha.2 e h; exact hb.2 e h⟩
end Go.Abs

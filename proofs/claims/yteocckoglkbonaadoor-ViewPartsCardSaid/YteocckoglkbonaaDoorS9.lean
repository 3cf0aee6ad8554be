/- Views as plain functions. -/
import Derived.Test.YteocckoglkbonaaDoorS8
set_option linter.unusedVariables false
set_option linter.unusedSimpArgs false
set_option maxRecDepth 100000
namespace Go.Abs

def someS (l : List T_Entry) : List T_Entry := if logRight l = true then l else []
def lastInc (l : List T_Entry) (n : Int) : Int × Bool := match (someS l).getLast? with | some e => incS e n | none => (0, false)
def alikeS (a b : T_Entry) : Bool := decide (a.Members = b.Members) && decide (a.Incs = b.Incs)
def alikeO (p : Option T_Entry) (e : T_Entry) : Bool := match p with | some x => alikeS x e | none => false
def viewsL (p : Option T_Entry) : List T_Entry → Int
  | [] => 0
  | e :: r => (if alikeO p e = true then 0 else 1) + viewsL (some e) r
def viewsS (l : List T_Entry) : Int := viewsL none (someS l)
def joinP (n k : Int) (e : T_Entry) : Bool := (incS e n).2 && decide ((incS e n).1 = k)
def flatM (l : List T_Entry) : List T_Message := l.flatMap (·.Msgs)
def msgCount (l : List T_Entry) : Nat := (flatM l).length
def msgsS (l : List T_Entry) (a b : Int) : List T_Message := flatM (((someS l).take b.toNat).drop a.toNat)
def seenL (n k : Int) (s : Int) (ms : List T_Message) : Int := ms.foldl (fun s m => if m.Sender = n ∧ m.Inc = k then (if m.Seq > s then m.Seq else s) else s) s
def seenS (l : List T_Entry) (n k : Int) : Int := seenL n k 0 (msgsS l 0 (l.length : Int))
def memStep (incs : List Int) (e : T_Entry) (n : Int) : T_Entry := if n < (incs.length : Int) ∧ smallS (incs.getD n.toNat 0) = true then ⟨e.Term, e.Epoch, withS e.Members n, e.Incs ++ [incs.getD n.toNat 0], e.Msgs⟩ else e
def membersS (term epoch alive : Int) (incs : List Int) : T_Entry := (listS alive).foldl (memStep incs) ⟨term, epoch, 0, [], []⟩
def goesIn (l : List T_Entry) (e : T_Entry) (met : List Int) (m : T_Message) : Bool :=
  (incS e m.Sender).2 && !memI m.Sender met && decide ((incS e m.Sender).1 = m.Inc) && msgRight m && !decide (m.Seq ≤ seenS l m.Sender (incS e m.Sender).1)
def freshS (l : List T_Entry) (e : T_Entry) (met : List Int) : List T_Message → List T_Message
  | [] => []
  | m :: r => if goesIn l e met m = true then m :: freshS l e (addK m.Sender met) r else freshS l e met r
def zeroE : T_Entry := ⟨0, 0, 0, [], []⟩
def nextS (l : List T_Entry) (term epoch alive : Int) (incs : List Int) (pending : List T_Message) : T_Entry × Bool :=
  if logRight l = true ∧ l.length < 300 ∧ smallS term = true ∧ smallS epoch = true then
    match l.getLast? with
    | none => (membersS term epoch alive incs, true)
    | some last =>
      if last.Term > term ∨ last.Epoch ≥ epoch then (zeroE, false)
      else if last.Term < term ∨ alikeS last (membersS term epoch alive incs) = false then (membersS term epoch alive incs, true)
      else if freshS l (membersS term epoch alive incs) [] pending = [] then (zeroE, false)
      else (⟨(membersS term epoch alive incs).Term, (membersS term epoch alive incs).Epoch, (membersS term epoch alive incs).Members, (membersS term epoch alive incs).Incs, sort4 (freshS l (membersS term epoch alive incs) [] pending)⟩, true)
  else (zeroE, false)

theorem memStep_keeps (incs : List Int) (e : T_Entry) (n : Int) : (memStep incs e n).Msgs = e.Msgs ∧ (memStep incs e n).Term = e.Term ∧ (memStep incs e n).Epoch = e.Epoch ∧ (memStep incs e n).Incs.length ≤ e.Incs.length + 1 := by
  unfold memStep; split <;> simp
theorem memFold_keeps (incs : List Int) : ∀ (l : List Int) (e : T_Entry), (l.foldl (memStep incs) e).Msgs = e.Msgs ∧ (l.foldl (memStep incs) e).Term = e.Term ∧ (l.foldl (memStep incs) e).Epoch = e.Epoch ∧ (l.foldl (memStep incs) e).Incs.length ≤ e.Incs.length + l.length := by
  intro l
  induction l with
  | nil => intro e; simp
  | cons n l ih =>
    intro e
    obtain ⟨h1, h2, h3, h4⟩ := ih (memStep incs e n)
    obtain ⟨g1, g2, g3, g4⟩ := memStep_keeps incs e n
    simp only [List.foldl_cons, List.length_cons]
    exact ⟨h1.trans g1, h2.trans g2, h3.trans g3, by omega⟩
theorem membersS_msgs (a b c : Int) (d : List Int) : (membersS a b c d).Msgs = [] := (memFold_keeps d _ _).1
theorem membersS_term (a b c : Int) (d : List Int) : (membersS a b c d).Term = a := (memFold_keeps d _ _).2.1
theorem membersS_epoch (a b c : Int) (d : List Int) : (membersS a b c d).Epoch = b := (memFold_keeps d _ _).2.2.1
theorem membersS_incs (a b c : Int) (d : List Int) : (membersS a b c d).Incs.length ≤ 16 := by
  have h1 := (memFold_keeps d (listS c) ⟨a, b, 0, [], []⟩).2.2.2
  have h2 := listS_length c
  unfold membersS
  simp at h1
  omega
theorem membersS_eta (a b c : Int) (d : List Int) : T_Entry.mk (membersS a b c d).Term (membersS a b c d).Epoch (membersS a b c d).Members (membersS a b c d).Incs [] = membersS a b c d := by
  rw [← membersS_msgs a b c d]
theorem freshS_length (l : List T_Entry) (e : T_Entry) : ∀ (p : List T_Message) (met : List Int), (freshS l e met p).length ≤ p.length := by
  intro p
  induction p with
  | nil => intro met; simp [freshS]
  | cons m p ih =>
    intro met
    simp only [freshS]
    split
    · have := ih (addK m.Sender met); simp; omega
    · have := ih met; simp; omega

/-! ### The program's sort is the document's -/
theorem msgLess_less4_id {a b : T_Message} (ha : idRight (Msg.id a) = true) (hb : idRight (Msg.id b) = true) : msgLess a b = less4 a b := by
  have h1 := msgLess_iff_id ha hb
  have h2 := less4_iff ha hb
  cases h3 : msgLess a b <;> cases h4 : less4 a b <;> simp_all
theorem sort4_ids (l : List T_Message) : ∀ m ∈ sort4 l, idRight (Msg.id m) = true := by
  have key : ∀ (l out : List T_Message), (∀ m ∈ out, idRight (Msg.id m) = true) → ∀ m ∈ l.foldl sortStep out, idRight (Msg.id m) = true := by
    intro l
    induction l with
    | nil => intro out h; exact h
    | cons x l ih =>
      intro out h
      refine ih _ (fun m hm => ?_)
      unfold sortStep at hm
      split at hm
      · rename_i hx
        have := (ins4_perm (l := out) (m := x)).mem_iff.1 hm
        rcases List.mem_cons.1 this with rfl | hm
        · exact hx
        · exact h m hm
      · exact h m hm
  exact key l [] (by simp)
theorem some_length (l : List T_Entry) : (someS l).length ≤ l.length := by unfold someS; split <;> simp
theorem some_small {l : List T_Entry} (h : Small l) : Small (someS l) := by
  unfold someS; split
  · exact h
  · exact ⟨by simp, by simp⟩
theorem flatM_append (a b : List T_Entry) : flatM (a ++ b) = flatM a ++ flatM b := by simp [flatM]
theorem flatM_part (x : List T_Entry) (i a : Nat) : (flatM ((x.take i).drop a)).length ≤ (flatM x).length := by
  have h1 : flatM x = flatM (x.take i) ++ flatM (x.drop i) := by rw [← flatM_append, List.take_append_drop]
  have h2 : flatM (x.take i) = flatM ((x.take i).take a) ++ flatM ((x.take i).drop a) := by rw [← flatM_append, List.take_append_drop]
  rw [h1, h2]; simp only [List.length_append]; omega
theorem count_some (l : List T_Entry) : (flatM (someS l)).length ≤ msgCount l := by
  unfold someS msgCount; split
  · exact Nat.le_refl _
  · simp [flatM]
theorem seenL_snoc (n k s : Int) (l : List T_Message) (m : T_Message) : seenL n k s (l ++ [m]) = if m.Sender = n ∧ m.Inc = k then (if m.Seq > seenL n k s l then m.Seq else seenL n k s l) else seenL n k s l := by
  simp [seenL, List.foldl_append]
theorem msgs_length (l : List T_Entry) (a b : Int) : (msgsS l a b).length ≤ msgCount l := Nat.le_trans (flatM_part _ _ _) (count_some l)
end Go.Abs

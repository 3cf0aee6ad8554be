/- Further operations: maps of numbers, rows made, rows copied into, calls that take a row over. -/
import Derived.Test.YteocckoglkbonaaDoorE14
import Derived.MapKept
set_option linter.unusedVariables false
set_option linter.unusedSimpArgs false
set_option linter.unusedSectionVars false
namespace Go.Abs
open Go.RowKit Go.MapKept

section ops
variable {P : Program} {E : Env} {C : C0} {h : SH} {φ : Nat → Value} {w : World} {a : Act} {o : Oper} {rd : Operand → AV} {look : Nat → Ob}

theorem mapA_inv {T : TypeId} (h : mapA P T = true) : ∃ k e, P.underlying T = some (.map k e) ∧ P.underlying k = some (.int .i64) ∧ zeroA P e = some (.agg []) := by
  unfold mapA at h
  split at h
  · rename_i k e h1
    split at h
    · rename_i fs h2 h3 h4
      exact ⟨k, e, h1, h2, h4⟩
    · cases h
  · cases h

theorem memI_mem (n : Int) : ∀ ks : List Int, memI n ks = true ↔ n ∈ ks
  | [] => by simp [memI]
  | k :: r => by
    simp only [memI, Bool.or_eq_true, beq_iff_eq, memI_mem n r, List.mem_cons]
    exact ⟨fun h => h.elim (fun h => .inl h.symm) .inr, fun h => h.elim (fun h => .inl h.symm) .inr⟩

theorem memN_mem (n : Nat) : ∀ l : List Nat, memN n l = true ↔ n ∈ l
  | [] => by simp [memN]
  | k :: r => by
    simp only [memN, Bool.or_eq_true, Nat.beq_eq, memN_mem n r, List.mem_cons]
    exact ⟨fun h => h.elim (fun h => .inl h.symm) .inr, fun h => h.elim (fun h => .inl h.symm) .inr⟩

/-- What is found of a number in a map's entries. -/
theorem find_int {kt : TypeId} (hk : P.underlying kt = some (.int .i64)) {es : Array MapEntry} {ks : List Int} (h1 : es.toList.map (fun e => e.key) = ks.map (Value.int .i64)) (h2 : ∀ e ∈ es.toList, e.val = .agg #[]) (n : Int) :
    (memI n ks = false ∧ (Instr.findKey kt (.int .i64 n) es.toList).run P w = .ok none w) ∨
    (memI n ks = true ∧ ∃ j e, (Instr.findKey kt (.int .i64 n) es.toList).run P w = .ok (some (j, .agg #[])) w ∧ es.toList[j]? = some e ∧ e.key = .int .i64 n) := by
  have hkeys : ∀ x ∈ es.toList, IsKey (.int .i64) x.key := by
    intro x hx
    have : x.key ∈ ks.map (Value.int .i64) := by rw [← h1]; exact List.mem_map.2 ⟨x, hx, rfl⟩
    obtain ⟨m, _, e⟩ := List.mem_map.1 this
    rw [← e]; simp [IsKey]
  rcases findNow_spec (d := .int .i64) (k := .int .i64 n) (by simp [IsKey]) es.toList 0 hkeys with ⟨g1, g2⟩ | ⟨j, e, g1, g2, g3⟩
  · refine .inl ⟨?_, run_findKey hk g1⟩
    cases hb : memI n ks with
    | false => rfl
    | true =>
      have hn := (memI_mem n ks).1 hb
      have : Value.int .i64 n ∈ es.toList.map (fun e => e.key) := by rw [h1]; exact List.mem_map.2 ⟨n, hn, rfl⟩
      obtain ⟨x, hx, e⟩ := List.mem_map.1 this
      exact absurd e (g2 x hx)
  · refine .inr ⟨?_, j, e, ?_, g2, g3⟩
    · have hx : e ∈ es.toList := List.mem_of_getElem? g2
      have : e.key ∈ ks.map (Value.int .i64) := by rw [← h1]; exact List.mem_map.2 ⟨e, hx, rfl⟩
      obtain ⟨m, hm, e2⟩ := List.mem_map.1 this
      rw [g3] at e2
      injection e2 with _ e2
      exact (memI_mem n ks).2 (e2 ▸ hm)
    · have := run_findKey (w := w) hk g1
      rw [h2 e (List.mem_of_getElem? g2)] at this
      simpa using this

variable (hr : Rel C h φ w) (hρ : ∀ x, VRep h φ (okB C h φ w) w (rd x) (a.eval x)) (hl : Sees look h)
include hr hρ hl

theorem sound_makeMap {T : TypeId} (hop : o.op = .makeMap T none) {fresh : Nat} (hf : h fresh = .unborn) (hm : mapA P T = true) : OpOK P C h φ w a o (newS (updS h []) fresh [.mp []]) (.own fresh) := by
  have hkh : KeepH h (upd1 h fresh (.mp [])) φ (upd1v φ fresh (.map (some w.heap.size))) := .new hf _ (by simp) _
  obtain ⟨r1, r2⟩ := hr.alloc hf (o := .mp []) (v := .map (some w.heap.size)) (x := .map #[] 0) (by simp) (by simp [blk]) (fun hK =>
    ⟨w.heap.size, #[], 0, rfl, hr.below.size, by show (w.heap.push _)[w.heap.size]? = _; simp, rfl, by simp⟩)
  intro F m next Q hF hn
  have hrun : (execOp a.eval o).run P w = .ok (.value (.map (some w.heap.size))) (w.alloc (.map #[] 0)) := by
    simp [execOp, hop, Instr.makeMap, newObj]
    rfl
  rw [hrun]
  exact hn _ _ _ r1 r2 hkh (.own (by simp [newS, updS, upd1]) rfl (fun _ => by simp [upd1v]))

theorem map_own {m : Operand} {id : Nat} {ks : List Int} (e1 : rd m = .own id) (e4 : look id = .mp ks) :
    ∃ b es clk, h id = .mp ks ∧ φ id = .map (some b) ∧ a.eval m = .map (some b) ∧ C.w0.heap.size ≤ b ∧ w.heap[b]? = some (.map es clk) ∧ es.toList.map (fun e => e.key) = ks.map (Value.int .i64) ∧ ∀ e ∈ es.toList, e.val = .agg #[] := by
  have hid := hl.get e4 (by simp)
  have hx := hρ m
  rw [e1] at hx
  have ho := hr.obj id
  rw [hid] at ho
  obtain ⟨b, es, clk, g1, g2, g3, g4, g5⟩ := ho
  exact ⟨b, es, clk, hid, g1, by rw [hx.inv_own.2 (by simp [hid]), g1], g2, g3, g4, g5⟩

theorem sound_mapUpdate {T : TypeId} {m k v : Operand} (hop : o.op = .mapUpdate T m k v) {id : Nat} {n : Int} {ks : List Int} (e1 : rd m = .own id) (e2 : rd k = .int .i64 n) (e3 : rd v = .agg []) (e4 : look id = .mp ks) (hm : mapA P T = true) {fresh : Nat}
    (hb : ks.length < 9223372036854775807) : OpOK P C h φ w a o (newS (updS h [(id, .mp (addK n ks))]) fresh []) .junk := by
  obtain ⟨b, es, clk, hid, hφ, hmv, g2, g3, g4, g5⟩ := map_own hr hρ hl e1 e4
  obtain ⟨kt, et, hu, huk, _⟩ := mapA_inv hm
  have hk := hρ k; rw [e2] at hk
  have hkv := hk.inv_int
  have hv := hρ v; rw [e3] at hv
  obtain ⟨vs, hvv, hvs⟩ := hv.inv_agg
  have hvs0 : vs = [] := by cases hvs; rfl
  subst hvs0
  -- the map behind the update
  have main : ∃ es' clk', (Instr.mapUpdate T (a.eval m) (a.eval k) (a.eval v)).run P w = .ok () { w with heap := w.heap.setIfInBounds b (.map es' clk') } ∧
      es'.toList.map (fun e => e.key) = (addK n ks).map (Value.int .i64) ∧ ∀ e ∈ es'.toList, e.val = .agg #[] := by
    rw [hmv, hkv, hvv]
    rcases find_int (P := P) (w := w) huk g4 g5 n with ⟨f1, f2⟩ | ⟨f1, j, e, f2, f3, f4⟩
    · refine ⟨es.push { key := .int .i64 n, val := .agg #[], born := clk }, clk + 1, ?_, ?_, ?_⟩
      · simp only [Instr.mapUpdate, Sem.run_bind, run_underlying hu, Result.andThen_ok, MapKept.run_getObj_map g3, run_checkKey huk (k := .int .i64 n) (by simp [IsKey]) false 9999, f2, run_setObj_map _ g3]
      · simp [addK, f1, g4]
      · intro x hx
        simp at hx
        rcases hx with hx | rfl
        · exact g5 x (by simpa using hx)
        · rfl
    · have hkey : ((es[j]?).map (·.key)).getD (.int .i64 n) = .int .i64 n := by
        have : es[j]? = some e := by simpa using f3
        simp [this, f4]
      refine ⟨es.modify j fun e => { e with key := .int .i64 n, val := .agg #[] }, clk, ?_, ?_, ?_⟩
      · simp only [Instr.mapUpdate, Sem.run_bind, run_underlying hu, Result.andThen_ok, MapKept.run_getObj_map g3, run_checkKey huk (k := .int .i64 n) (by simp [IsKey]) false 9999, f2, hkey]
        have hsb : Instr.sameBits 10000 (.int .i64 n) (.int .i64 n) = true := by simp [Instr.sameBits]
        simp [Instr.keyThatStays, hsb, run_setObj_map _ g3]
      · rw [show addK n ks = ks by simp [addK, f1], ← g4]
        apply List.ext_getElem?
        intro i
        simp only [List.getElem?_map, Array.toList_modify]
        by_cases hij : i = j
        · subst hij
          simp [List.getElem?_modify, f3, f4]
        · simp [List.getElem?_modify, show ¬ j = i by omega]
      · intro x hx
        rw [Array.toList_modify] at hx
        obtain ⟨i, hi⟩ := List.getElem?_of_mem hx
        by_cases hij : i = j
        · subst hij
          simp [List.getElem?_modify, f3] at hi
          rw [← hi]
        · simp [List.getElem?_modify, show ¬ j = i by omega] at hi
          exact g5 x (by simpa using Array.mem_of_getElem? hi)
  obtain ⟨es', clk', hrun, k1, k2⟩ := main
  have hlt : b < w.heap.size := (Array.getElem?_eq_some_iff.1 g3).1
  have kh : KeepH h (upd1 h id (.mp (addK n ks))) φ φ := .chg (by simp [hid]) (by simp) (by simp [hid]) (by simp)
  obtain ⟨r1, r2⟩ := hr.change (id := id) (o := .mp (addK n ks)) (w' := { w with heap := w.heap.setIfInBounds b (.map es' clk') }) (by simp [hid, Ob.live]) kh
    (hr.below.trans ⟨rfl, rfl, rfl, by simp, fun q hq => by simp [show b ≠ q by omega]⟩) (by simp)
    (fun q hq _ => by
      have : b ≠ q := fun e => hq (by rw [hφ, e]; rfl)
      simp [this])
    (fun hK => ⟨b, es', clk', hφ, g2, by simp [hlt], k1, k2⟩)
  intro F q next Q hF hn
  have : (execOp a.eval o).run P w = .ok .skip { w with heap := w.heap.setIfInBounds b (.map es' clk') } := by
    simp only [execOp, hop, Sem.run_bind, hrun, Result.andThen_ok, Sem.run_pure]
  rw [this]
  exact hn undef φ _ r1 r2 kh (.junk _)

theorem sound_lookup {T : TypeId} {m k : Operand} (hop : o.op = .lookup T m k true) {id : Nat} {n : Int} {ks : List Int} (e1 : rd m = .own id) (e2 : rd k = .int .i64 n) (e4 : look id = .mp ks) (hm : mapA P T = true) :
    OpOK P C h φ w a o h (.tup [.agg [], .bool (memI n ks)]) := by
  obtain ⟨b, es, clk, hid, hφ, hmv, g2, g3, g4, g5⟩ := map_own hr hρ hl e1 e4
  obtain ⟨kt, et, hu, huk, hz⟩ := mapA_inv hm
  have hk := hρ k; rw [e2] at hk
  have hkv := hk.inv_int
  obtain ⟨zv, i, h1, h2, h3, h4⟩ := zeroA_run (w := w) hz
  have hzv : zv = .agg #[] := by
    cases zv <;> simp [ofValue, ofCell] at h4
    case agg cs => simpa using h4
    all_goals (split at h4 <;> simp at h4)
  subst hzv
  refine .same hr (v := .tuple #[.agg #[], .bool (memI n ks)]) ?_ (.tup (.cons (.pure (.agg .nil)) (.cons (.pure (.bool _)) .nil)))
  simp only [execOp, hop, hmv, hkv, Instr.lookup, Sem.run_bind, run_underlying hu, Result.andThen_ok, MapKept.run_getObj_map g3, Sem.run_pure, run_checkKey huk (k := .int .i64 n) (by simp [IsKey]) _ 9999]
  rcases find_int (P := P) (w := w) huk g4 g5 n with ⟨f1, f2⟩ | ⟨f1, j, e, f2, f3, f4⟩
  · simp [f2, f1, h3, Result.andThen]
  · simp [f2, f1, Result.andThen]

omit hr hρ hl in
theorem pures_known : ∀ l : List AV, pures l = true → known l = true
  | [], _ => rfl
  | x :: l, h => by
    simp only [pures, Bool.and_eq_true] at h
    simp only [known, Bool.and_eq_true]
    refine ⟨?_, pures_known l h.2⟩
    cases x <;> first | rfl | (simp [AV.pc] at h; done)
omit hr hρ hl in
theorem flat_replicate (z : AV) : ∀ n, (List.replicate n z).flatMap AV.cells = repl z.cells n
  | 0 => rfl
  | n + 1 => by rw [List.replicate_succ, List.flatMap_cons, flat_replicate z n]; rfl

theorem sound_makeSlice {T : TypeId} {x y : Operand} (hop : o.op = .makeSlice T x y) {fresh : Nat} {eff : Eff} (he : makeSliceA P T (rd x) (rd y) fresh = some eff) (hf : ∀ k, k < eff.new.length → h (fresh + k) = .unborn) (hob : All eff.obl) :
    OpOK P C h φ w a o (newS (updS h eff.upd) fresh eff.new) eff.val := by
  have hx := hρ x
  have hy := hρ y
  unfold makeSliceA at he
  split at he
  · rename_i e n m hT e1 e2
    have hu : P.underlying T = some (.slice e) := by unfold elemA at hT; split at hT <;> simp_all
    rw [e1] at hx; rw [e2] at hy
    split at he
    · rename_i s z inf hsz hz hinf
      split at he
      · rename_i hc
        simp only [Bool.and_eq_true, decide_eq_true_eq] at hc
        obtain ⟨⟨c1, c2⟩, c3⟩ := hc
        simp at he; subst he
        obtain ⟨o1, o2, o3, o4, _⟩ := hob
        have hfr : h fresh = .unborn := by simpa using hf 0 (by simp)
        obtain ⟨zv, i, h1, h2, h3, h4⟩ := zeroA_run (w := w) hz
        rw [hinf] at h1
        injection h1 with h1
        subst h1
        have hin : inf.size = s := by unfold sz at hsz; simp [hinf] at hsz; exact hsz
        obtain ⟨us, u1, u2⟩ := zero_cells (h := h) (φ := φ) (C := C) (w := w) zv
        rw [← h4] at u2
        have hul : us.length = s := by rw [← u2.length]; simpa using c1
        have hu1 : ∀ u ∈ us, u.oneCell' = true := u2.ones (pures_known _ c3)
        subst o1
        obtain ⟨N, rfl⟩ : ∃ N : Nat, n = N := ⟨n.toNat, by omega⟩
        simp only [Int.toNat_natCast] at o3 o4 ⊢
        have hs0 : 0 < s := by simpa [Nat.pos_iff_ne_zero] using c2
        have hN : N ≤ 16777216 := Nat.le_trans (Nat.le_mul_of_pos_right N hs0) o4
        obtain ⟨w', g1, g2, g3⟩ := run_makeSlice_full (P := P) w C.w0.heap.size T e inf zv s hu hinf h2 hin .i64 .i64 N o4 (by rw [Nat.mul_comm]; omega) (by unfold maxLen; omega) hr.below.size
        have hcells : (madeCells zv.cells (N * s)).toList = vrepl us N := by
          unfold madeCells
          rw [u1]
          have := vrepl_range us (by omega) N
          rw [hul] at this
          simpa using this
        have hrl : ∀ k, RepL (okB C h φ w) w (repl z.cells k) (vrepl us k) := by
          intro k
          have hz1 : RepL (okB C h φ w) w z.cells us := pures_rep c3 u2
          induction k with
          | zero => exact .nil
          | succ k ih => exact hz1.append ih
        have hvone : ∀ k, ∀ u ∈ vrepl us k, u.oneCell' = true := by
          intro k
          induction k with
          | zero => intro u hu; simp [vrepl] at hu
          | succ k ih => intro u hu; rcases List.mem_append.1 hu with hu | hu; exact hu1 u hu; exact ih u hu
        obtain ⟨r1, r2, r3, r4⟩ := Rel.regrow hr hρ hl (T := e) (s := s) hfr (old := none) (xs := List.replicate N z) (fun _ h => by cases h) (v := .slice none 0 0) (v' := .slice (some ⟨w.heap.size, 0, none⟩) N N) (.inr ⟨rfl, rfl⟩)
          (cells := vrepl us N) g3 (by rw [List.length_replicate, ← hcells]; exact g2) (fun b hb => by simp [blk] at hb; exact .inl (by omega)) (by rw [flat_replicate]; exact hrl N)
          (fun q hq => by rw [List.eq_of_mem_replicate hq]; simpa using c1) hs0 (hvone N)
        intro F q next Q hF hn
        have hrun : (execOp a.eval o).run P w = .ok (.value (.slice (some ⟨w.heap.size, 0, none⟩) N N)) w' := by
          simp [execOp, hop, hx.inv_int, hy.inv_int, g1, Result.andThen]
        rw [hrun]
        exact hn _ _ w' r1 r2 r3 (.own (by simp [newS, updS, upd1]) rfl (fun _ => by simp [upd1v]))
      · cases he
    · cases he
  · cases he

omit hr hρ hl in
theorem RepL.take' {A : Nat → Prop} : ∀ {xs : List AV} {vs : List Value} (n : Nat), RepL A w xs vs → RepL A w (xs.take n) (vs.take n)
  | _, _, 0, _ => by simpa using RepL.nil
  | _, _, n + 1, .nil => by simpa using RepL.nil
  | _, _, n + 1, .cons p q => by simpa using RepL.cons p (RepL.take' n q)
omit hr hρ hl in
theorem RepL.drop' {A : Nat → Prop} : ∀ {xs : List AV} {vs : List Value} (n : Nat), RepL A w xs vs → RepL A w (xs.drop n) (vs.drop n)
  | _, _, 0, p => by simpa using p
  | _, _, n + 1, .nil => by simpa using RepL.nil
  | _, _, n + 1, .cons p q => by simpa using RepL.drop' n q
omit hr hρ hl in
theorem flat_take {n : Nat} : ∀ (l : List AV) (k : Nat), (∀ y ∈ l, y.cells.length = n) → (l.take k).flatMap AV.cells = (l.flatMap AV.cells).take (k * n)
  | [], k, _ => by simp
  | y :: l, 0, _ => by simp
  | y :: l, k + 1, h => by
    rw [List.take_succ_cons, List.flatMap_cons, List.flatMap_cons, flat_take l k (fun z hz => h z (by simp [hz])), Nat.add_mul, Nat.one_mul, Nat.add_comm, List.take_append, h y (by simp),
      List.take_of_length_le (l := y.cells) (by rw [h y (by simp)]; omega), Nat.add_sub_cancel_left]
omit hr hρ hl in
theorem flat_drop {n : Nat} : ∀ (l : List AV) (k : Nat), (∀ y ∈ l, y.cells.length = n) → (l.drop k).flatMap AV.cells = (l.flatMap AV.cells).drop (k * n)
  | [], k, _ => by simp
  | y :: l, 0, _ => by simp
  | y :: l, k + 1, h => by
    rw [List.drop_succ_cons, List.flatMap_cons, flat_drop l k (fun z hz => h z (by simp [hz])), Nat.add_mul, Nat.one_mul, Nat.add_comm, List.drop_append, h y (by simp),
      List.drop_of_length_le (l := y.cells) (by rw [h y (by simp)]; omega), Nat.add_sub_cancel_left, List.nil_append]

theorem sound_copy {c : Call} {T : TypeId} {d x : Operand} (hop : o.op = .call c) (hc : c.callee = .builtin .copy) (hargs : c.args.toList = [d, x]) (hts : c.argTypes.toList = [T, T]) {fresh : Nat} {eff : Eff}
    (he : copyA P look T (rd d) (rd x) = some eff) (hob : All eff.obl) : OpOK P C h φ w a o (newS (updS h eff.upd) fresh eff.new) eff.val := by
  have hd := hρ d
  unfold copyA at he
  split at he
  · rename_i e id hT e1
    have hu : P.underlying T = some (.slice e) := by unfold elemA at hT; split at hT <;> simp_all
    rw [e1] at hd
    split at he
    · rename_i e' n xs ys e2 hys
      split at he
      · rename_i hcnd
        simp only [Bool.and_eq_true, decide_eq_true_eq] at hcnd
        obtain ⟨hee, hsz⟩ := hcnd
        have hee := hee.symm
        subst hee
        injection he with he
        subst he
        have hyn := hob.1
        have hid := hl.get e2 (by simp)
        have hv := hd.inv_own.2 (by simp [hid])
        have ho := hr.obj id
        rw [hid] at ho
        obtain ⟨cells, g1, g2, g3, g4, g5⟩ := ho
        obtain ⟨p, m, cp, news, hx, hm, hp, hnews, hn1, hlen, hcell⟩ := elems_mem hr hρ hl hys hyn
        subst hm
        have hln : (ys.take xs.length).length = Nat.min ys.length xs.length := by rw [List.length_take]; exact Nat.min_comm _ _
        -- the cells that are copied
        obtain ⟨us, hus⟩ : ∃ us, us = news.take (Nat.min ys.length xs.length * n) := ⟨_, rfl⟩
        have husl : us.length = Nat.min ys.length xs.length * n := by
          rw [hus, List.length_take, hlen]
          exact Nat.min_eq_left (Nat.mul_le_mul_right _ (Nat.min_le_left _ _))
        have hus' : us = news.take (xs.length * n) := by
          rw [hus]
          rcases Nat.le_total ys.length xs.length with hle | hle
          · rw [show Nat.min ys.length xs.length = ys.length from Nat.min_eq_left hle, List.take_of_length_le (by omega), List.take_of_length_le (by rw [hlen]; exact Nat.mul_le_mul_right _ hle)]
          · rw [show Nat.min ys.length xs.length = xs.length from Nat.min_eq_right hle]
        have hload : (Builtin.firstCells n (Nat.min ys.length xs.length) (.slice p ys.length cp)).run P w = .ok us.toArray w := by
          cases p with
          | none =>
            obtain ⟨q1, _, q3⟩ := hp rfl
            rw [hus, q3]; simp [Builtin.firstCells]
          | some ad =>
            unfold Builtin.firstCells
            rw [← husl]
            exact run_loadCells_list w ad us (fun j u hj => by
              rw [hus, List.getElem?_take] at hj
              split at hj
              · exact hcell ad rfl j u hj
              · cases hj)
        have hflat : (ys.take xs.length ++ xs.drop ys.length).flatMap AV.cells = (ys.flatMap AV.cells).take (xs.length * n) ++ (xs.flatMap AV.cells).drop (ys.length * n) := by
          rw [List.flatMap_append, flat_take ys _ hyn, flat_drop xs _ g3]
        have hcl : cells.length = xs.length * n := g1.1
        have hdrop : cells.drop us.length = cells.drop (ys.length * n) := by
          rw [husl]
          rcases Nat.le_total ys.length xs.length with hle | hle
          · rw [show Nat.min ys.length xs.length = ys.length from Nat.min_eq_left hle]
          · rw [show Nat.min ys.length xs.length = xs.length from Nat.min_eq_right hle, List.drop_of_length_le (by omega), List.drop_of_length_le (by rw [hcl]; exact Nat.mul_le_mul_right _ hle)]
        have hrep : RepL (okB C h φ w) w ((ys.take xs.length ++ xs.drop ys.length).flatMap AV.cells) (us ++ cells.drop us.length) := by
          rw [hflat, hdrop, hus']
          exact (RepL.take' _ hnews).append (RepL.drop' _ g2)
        have hone : ∀ u ∈ us ++ cells.drop us.length, u.oneCell' = true := fun u hu => by
          rcases List.mem_append.1 hu with hu | hu
          · rw [hus] at hu; exact hn1 u (List.mem_of_mem_take hu)
          · exact g5 u (List.mem_of_mem_drop hu)
        have hxs' : (ys.take xs.length ++ xs.drop ys.length).length = xs.length := by rw [List.length_append, List.length_take, List.length_drop]; omega
        have hlens : ∀ y ∈ ys.take xs.length ++ xs.drop ys.length, y.cells.length = n := fun y hy => by
          rcases List.mem_append.1 hy with hy | hy
          · exact hyn y (List.mem_of_mem_take hy)
          · exact g3 y (List.mem_of_mem_drop hy)
        obtain ⟨cs, hres⟩ := resolve_builtin (P := P) (a := a) (w := w) hc o.type
        rcases g1.2 with ⟨q1, q2⟩ | ⟨gb, cap, cur, q1, q2, q3, q4, q5, q6, q7⟩
        · -- no row at all
          have hx0 : xs = [] := List.eq_nil_of_length_eq_zero q2
          subst hx0
          have hus0 : us = [] := by rw [hus']; simp
          have hrun : (execOp a.eval o).run P w = .ok (.value (goInt 0)) w := by
            simp only [execOp, hop, Sem.run_bind, hres, Result.andThen_ok, invoke, builtin, toList_two hargs, toList_two hts, List.map_toArray, List.map_cons, List.map_nil, hv, q1, hx]
            have h0 : Nat.min ys.length 0 = 0 := Nat.min_zero _
            simp only [List.length_nil, h0] at hload
            simp [Builtin.copy_, run_underlying hu, Builtin.lenOf, h0, run_sizeOf hsz, hload, Result.andThen]
          have hsame : newS (updS h [(id, .row e n (ys.take 0 ++ []))]) fresh [] = h := by
            funext q
            by_cases hq : q = id
            · subst hq; simp [newS, updS, upd1, hid]
            · simp [newS, updS, upd1, hq]
          intro F q next Q hF hn
          rw [hrun]
          have : (newS (updS h [(id, .row e n (ys.take ([] : List AV).length ++ ([] : List AV).drop ys.length))]) fresh []) = h := by simpa using hsame
          simp only at hn
          rw [this] at hn
          exact hn _ φ w hr (keepB_refl _ _) (.refl _ _) (by simpa [goInt] using (VRep.pure (Rep.int _ _)))
        · have hst := run_storeCells_at P gb 0 e us 0 cur w q3 (by rw [q6, husl]; simp; exact Nat.mul_le_mul_right _ (Nat.le_trans (Nat.min_le_right _ _) q4)) (fun u hu => hone u (List.mem_append_left _ hu))
          simp only [Nat.add_zero, List.take_zero, List.nil_append, Nat.zero_add] at hst
          obtain ⟨cur', hcur'⟩ : ∃ cur', cur' = (us ++ cur.toList.drop us.length).toArray := ⟨_, rfl⟩
          have hst' : (storeCells ⟨gb, 0, none⟩ us).run P w = .ok () (w.setRow gb cur') := by rw [hcur']; exact hst
          have hrun : (execOp a.eval o).run P w = .ok (.value (.int .i64 ((ys.take xs.length).length : Int))) (w.setRow gb cur') := by
            simp only [execOp, hop, Sem.run_bind, hres, Result.andThen_ok, invoke, builtin, toList_two hargs, toList_two hts, List.map_toArray, List.map_cons, List.map_nil, hv, q1, hx]
            simp [Builtin.copy_, run_underlying hu, Builtin.lenOf, run_sizeOf hsz, hload, hst', Result.andThen, goInt, hln]
          have husn : us.length ≤ xs.length * n := by rw [husl]; exact Nat.mul_le_mul_right _ (Nat.min_le_right _ _)
          have hcapn : xs.length * n ≤ cap * n := Nat.mul_le_mul_right _ q4
          have kh : KeepH h (upd1 h id (.row e n (ys.take xs.length ++ xs.drop ys.length))) φ φ := .chg (by simp [hid]) (by simp) (by simp [hid]) (fun T' s' xs' hx' => by cases hx'; exact ⟨_, _, hid⟩)
          have hbφ : blk (φ id) = some gb := by rw [q1]; rfl
          obtain ⟨r1, r2⟩ := hr.change (id := id) (o := .row e n (ys.take xs.length ++ xs.drop ys.length)) (w' := w.setRow gb cur') (by simp [hid, Ob.live]) kh
            (hr.below.trans ⟨rfl, rfl, rfl, by simp [World.setRow], fun k hk => setRow_other w gb k _ (by intro e; omega)⟩) (by simp [World.setRow])
            (fun k hk _ => setRow_other w gb k _ (fun e => hk (by rw [hbφ, e])))
            (fun hK => ⟨us ++ cells.drop us.length, ⟨by rw [List.length_append, List.length_drop, hxs', hcl]; omega, .inr ⟨gb, cap, cur', by rw [q1, hxs'], q2, setRow_heap w gb cur _ e _ q3, by rw [hxs']; exact q4, q5, by
                rw [hcur']; simp [q6]; omega, by
                rw [hcur', hxs', ← q7]
                simp only [List.toList_toArray]
                rw [List.take_append, List.take_of_length_le husn, List.drop_take]⟩⟩, hrep.mono hK, hlens, g4, hone⟩)
          intro F q next Q hF hn
          rw [hrun]
          exact hn _ φ _ r1 r2 kh (.pure (.int _ _))
      · cases he
    · cases he
  · cases he
omit hr hρ hl in
theorem updS_snoc : ∀ (us : List (Nat × Ob)) (h : SH) (p : Nat × Ob), updS h (us ++ [p]) = upd1 (updS h us) p.1 p.2
  | [], h, p => rfl
  | q :: us, h, p => updS_snoc us (upd1 h q.1 q.2) p

theorem sound_callI {c : Call} {g : Operand} (hop : o.op = .call c) (hc : c.callee = .value g) {f : FuncId} {caps : List AV} (hg : rd g = .fn f caps)
    {fresh : Nat} {T : TypeId} {s : Nat} {ys : List AV} {eff : Eff} (he : callIA P look f (evalL rd c.args.toList ++ caps) fresh T s ys = some eff) (hf : ∀ k, k < eff.new.length → h (fresh + k) = .unborn) (hob : All eff.obl) :
    OpOK P C h φ w a o (newS (updS h eff.upd) fresh eff.new) eff.val := by
  have hgv := hρ g
  rw [hg] at hgv
  obtain ⟨vcaps, hgv, hcaps⟩ := hgv.inv_fn
  have hargs : VRepL h φ (okB C h φ w) w (evalL rd c.args.toList ++ caps) (c.args.toList.map a.eval ++ vcaps) := (evalL_rep hρ c.args.toList).append hcaps.v
  have hrun : Enters P f → (execOp a.eval o).run P w = .ok (.enter f (c.args.toList.map a.eval ++ vcaps).toArray) w := by
    intro hent
    have : c.args.map a.eval ++ vcaps.toArray = (c.args.toList.map a.eval ++ vcaps).toArray := by apply Array.ext'; simp
    simp only [execOp, hop, resolve, hc, Deferred.ofValue, hgv, Sem.run_bind, Sem.run_pure, Result.andThen_ok, invoke, Array.empty_append, this, run_callFunc hent]
  -- the call, whatever row is taken over
  have go : ∀ (rest as : List AV) (v0 : Value) (vs0 : List Value) (old : Option Nat) (xs : List AV), c.args.toList.map a.eval ++ vcaps = v0 :: vs0 → AV.viewKL look rest = some as →
      VRepL h φ (okB C h φ w) w rest vs0 → h fresh = .unborn → (∀ id, old = some id → id ∉ AV.refsL rest ∧ h id = .row T s xs ∧ v0 = φ id) → (old = none → xs = [] ∧ v0 = .slice none 0 0) →
      ICalls P f T s xs as ys → (∀ y ∈ ys, y.cells.length = s) → 0 < s →
      OpOK P C h φ w a o (newS (updS h (freeze look (AV.refsL rest) ++ deadU old)) fresh [.row T s ys]) (.own fresh) := by
    intro rest as v0 vs0 old xs hvs hview hrest hfr hold hnone hcall hys hs0
    obtain ⟨r1, r2, r3, r4, r5, r6⟩ := Rel.frz (freeze look (AV.refsL rest)) (freeze_ok _) hr hl.inv
    have hvok := viewOK_frz r1 r4 (ids := AV.refsL rest) (fun id hid T' s' xs' hx => r5 _ (freeze_mem hid hx))
    have hrep := viewK_repL hview hvok (hrest.mono r2 r3)
    have hne : ∀ id, id ∉ AV.refsL rest → ∀ p ∈ freeze look (AV.refsL rest), p.1 ≠ id := fun id hid p hp e => hid (e ▸ (freeze_row hp).1)
    have hf1 : updS h (freeze look (AV.refsL rest)) fresh = .unborn := by
      rw [r6 fresh (fun p hp e => by
        obtain ⟨_, T', s', xs', hx⟩ := freeze_row hp
        have := hl.get hx (by simp)
        rw [e, hfr] at this; cases this)]
      exact hfr
    have hold1 : ∀ id, old = some id → updS h (freeze look (AV.refsL rest)) id = .row T s xs := fun id hid => by
      obtain ⟨q1, q2, _⟩ := hold id hid
      rw [r6 id (hne id q1), q2]
    have hupd : updS h (freeze look (AV.refsL rest) ++ deadU old) = updS (updS h (freeze look (AV.refsL rest))) (deadU old) := by
      cases old with
      | none => simp [deadU, updS]
      | some id => simp only [deadU]; rw [updS_snoc]; rfl
    rw [hupd]
    generalize updS h (freeze look (AV.refsL rest)) = h1 at r1 r2 r3 r4 r5 r6 hvok hrep hf1 hold1
    -- the row
    have hrow : ∃ cells, w.ownsRow C.w0.heap.size T s v0 xs.length cells ∧ RepL (okB C h1 φ w) w (xs.flatMap AV.cells) cells ∧ (∀ u ∈ cells, u.oneCell' = true) ∧ ∀ b, okB C h1 φ w b → v0.ownBlock ≠ some b := by
      cases old with
      | none =>
        obtain ⟨rfl, rfl⟩ := hnone rfl
        exact ⟨[], World.ownsRow_nil w _ T s, .nil, by simp, fun b _ e => by cases e⟩
      | some id =>
        have ho := r1.obj id
        rw [hold1 id rfl] at ho
        obtain ⟨cells, g1, g2, g3, g4, g5⟩ := ho
        obtain ⟨_, _, rfl⟩ := hold id rfl
        exact ⟨cells, g1, g2, g5, fun b hb e => hb.2.2 id (by simp [hold1 id rfl, Ob.live]) (ownBlock_blk' e)⟩
    obtain ⟨cells, g1, g2, g3, g4⟩ := hrow
    intro F n next Q hF hn
    rw [hrun hcall.1]
    have hcl := hcall.2 C.w0.heap.size (okB C h1 φ w) w v0 cells vs0 g1 g2 g3 hr.below.size (fun b hb => ⟨hb.1, g4 b hb⟩) hrep
    rw [← hvs] at hcl
    refine ⟨fun hd => (by rw [hF.depth] at hd; cases hd), (hF.calls (n - 1) hcl).mono fun e w' hres => ?_⟩
    obtain ⟨v', cells', rfl, k1, k2, k3, k4, k5⟩ := hres
    have k2' : RepL (okB C h1 φ w) w (ys.flatMap AV.cells) cells' := k2.mono fun b hb => ⟨hb, (k4.block b hb.1 (fun e => g4 b hb e.symm)).symm⟩
    obtain ⟨t1, t2, t3, t4⟩ := Rel.regrow (rd := fun _ => .junk) (a := a) (look := h1) r1 (fun _ => .junk _) (fun id => .inr rfl) (T := T) (s := s) hf1 (old := old) (xs := ys) (fun id hid => ⟨xs, hold1 id hid⟩)
      (v := v0) (v' := v') (by
        cases old with
        | none => exact .inr ⟨rfl, by rw [(hnone rfl).2]; rfl⟩
        | some id => exact .inl ⟨id, rfl, (hold id rfl).2.2⟩) (cells := cells') k4 k1 k5 k2' hys hs0 k3
    have hone : v'.oneCell' = true := by rcases k1.2 with ⟨h9, _⟩ | ⟨_, _, _, h9, _⟩ <;> rw [h9] <;> rfl
    exact hn v' _ w' t1 (r2.trans t2) (r3.trans t3) (.own (by rw [t4]; simp) hone (fun _ => by simp [upd1v]))
  unfold callIA at he
  split at he
  · rename_i x rest hlist
    rw [hlist] at hargs
    split at he
    · rename_i as hview
      generalize hvs : c.args.toList.map a.eval ++ vcaps = vs at hargs
      cases hargs with
      | cons p q =>
        rename_i v0 vs0
        split at he
        · rename_i id
          split at he
          · rename_i T' s' xs e2
            have hid := hl.get e2 (by simp)
            split at he
            · rename_i hcnd
              simp only [Bool.and_eq_true, decide_eq_true_eq, Bool.not_eq_true'] at hcnd
              obtain ⟨⟨rfl, rfl⟩, hnot⟩ := hcnd
              simp at he; subst he
              have hnot' : id ∉ AV.refsL rest := fun hm => by rw [(memN_mem id _).2 hm] at hnot; cases hnot
              exact go rest as v0 vs0 (some id) xs hvs hview q (by simpa using hf 0 (by simp)) (fun k hk => by cases hk; exact ⟨hnot', hid, p.inv_own.2 (by simp [hid])⟩) (fun h => by cases h) hob.1 hob.2.1 hob.2.2.1
            · cases he
          · cases he
        · simp at he; subst he
          obtain ⟨pp, c', e2, _, _, ⟨e3, _⟩, _⟩ := p.inv_sl
          have := go rest as v0 vs0 none [] hvs hview q (by simpa using hf 0 (by simp)) (fun k hk => by cases hk) (fun _ => ⟨rfl, e3 rfl rfl⟩) hob.1 hob.2.1 hob.2.2.1
          simpa [deadU] using this
        · cases he
    · cases he
  · cases he
end ops

end Go.Abs

/- The value interpreter, part e: what stretches of a program do to typed values, rule by rule. Conditions: none. -/
import Derived.Test.YtdligmjpeclkcaaDoorVd
namespace Go.V
open Go Go.RowKit

/-- A step, of every state that looks the same where it reads. -/
def PStep (X : Cx) (ops : Array Oper) (o : Oper) (st : St) (R : List Nat) (ps : List (Nat × SV)) : Prop :=
  ∀ st2 : St, (∀ s ∈ R, st2 s = st s) → GStep X ops o st2 (applyP st2 ps)

/-- What slots a step that goes by itself reads. -/
def rootOf : SV → List Nat
  | .addr r _ _ _ _ => [r]
  | _ => []
def opdSlots : Operand → List Nat
  | .tmp t => [t]
  | _ => []
def readsF (st : St) (o : Oper) : List Nat :=
  match o.op with
  | .move (.tmp s) | .assign (.tmp s) => [s]
  | .binOp _ _ x y _ => opdSlots x ++ opdSlots y
  | .unOp _ _ x => opdSlots x
  | .nilCheck (.tmp s) | .fieldAddr _ (.tmp s) _ | .load _ (.tmp s) | .field _ (.tmp s) _ => s :: rootOf (st s).sv
  | .pick c x y => opdSlots c ++ opdSlots x ++ opdSlots y
  | _ => []

/-- What a step that goes by itself writes. -/
def patchF (P : Program) (N : Nat) (fr : Nat → Bool) (st : St) (o : Oper) : Option (List (Nat × SV)) :=
  match o.dst with
  | none => none
  | some d => if fr d then
    match o.op with
    | .move (.tmp s) => if s < N && s != d then some [(d, match (st s).sv with | .val false [.t (.sc v)] => scv v | sv => sv.copy s (st s).ver)] else none
    | .move (.const v) => if scal v then some [(d, scv v)] else none
    | .assign (.tmp s) => if s < N && s != d then (match (st s).sv with
        | .val false [.t (.sc v)] => some [(d, scv v)]
        | sv => if sv.owns then (if fr s then some [(s, .dead), (d, (st s).sv)] else none) else some [(d, sv.copy s (st s).ver)]) else none
    | .assign (.const v) => if scal v then some [(d, scv v)] else none
    | .binOp op _ x y _ => match scF N st x, scF N st y with
      | some u, some v => (binF op u v).map fun z => [(d, scv z)]
      | _, _ => none
    | .unOp op _ x => match scF N st x with
      | some u => (unV op u).map fun z => [(d, scv z)]
      | _ => none
    | .pick c x y => match scF N st c with
      | some (.bool true) => (scF N st x).map fun z => [(d, scv z)]
      | some (.bool false) => (scF N st y).map fun z => [(d, scv z)]
      | _ => none
    | .nilCheck (.tmp s) => if s < N && s != d then (match (st s).sv with
        | .box _ => some [(d, .addr s (st s).ver [] 0 0)]
        | .val false [.t (.ptr cs)] => some [(d, one (.ptr cs))]
        | .addr r k π i j => if k = (st r).ver then some [(d, .addr r k π i j)] else none
        | _ => none) else none
    | .fieldAddr t (.tmp s) f => if s < N then (match (st s).sv, field? P t f with
        | .val false [.t (.ptr cs)], some (off, n, _) => if n ≠ 0 then some [(d, one (.ptr (cs.drop off)))] else none
        | .addr r k π i j, some (off, n, _) => if k = (st r).ver && n != 0 && r != d then some [(d, .addr r k π i (j + off))] else none
        | _, _ => none) else none
    | .load t (.tmp s) => if s < N then (match (st s).sv, cells? P t, isAgg? P t with
        | .val false [.t (.ptr cs)], some n, some ag => if (ag || n == 1) && n ≤ cs.length then some [(d, .val ag ((cs.take n).map .t))] else none
        | .addr r k π i j, some n, some ag => if k = (st r).ver && r != d && (ag || n == 1) then (match st.cells r π i j with
            | some cs => if n ≤ cs.length then some [(d, .val ag (cellOf r k π i j (cs.take n)))] else none
            | none => none) else none
        | _, _, _ => none) else none
    | .field t (.tmp s) f => if s < N && s != d then (match (st s).sv, field? P t f with
        | .val true cs, some (off, n, ag) => if (ag || n == 1) && off + n ≤ cs.length then some [(d, .val ag (((copies s (st s).ver 0 0 cs).drop off).take n))] else none
        | _, _ => none) else none
    | _ => none
    else none

section
variable {X : Cx} {st st' : St} {o : Oper} {ops : Array Oper} {l : List Oper} {Q : Exit → St → Prop}

theorem opdF_agree {N : Nat} {st st2 : St} {x : Operand} (h : ∀ s ∈ opdSlots x, st2 s = st s) : opdF N st2 x = opdF N st x := by
  cases x with
  | tmp t => simp only [opdF]; rw [h t (by simp [opdSlots])]
  | _ => rfl
theorem scF_agree {N : Nat} {st st2 : St} {x : Operand} (h : ∀ s ∈ opdSlots x, st2 s = st s) : scF N st2 x = scF N st x := by unfold scF; rw [opdF_agree h]

theorem cells_agree {st st2 : St} {r : Nat} {π : Path} {i j : Nat} (h : st2 r = st r) : st2.cells r π i j = st.cells r π i j := by
  cases π with
  | nil => simp only [St.cells, h]
  | cons q π => simp only [St.cells, St.at_, h]

theorem patch_agree {P : Program} {N : Nat} {fr : Nat → Bool} {st st2 : St} (h : ∀ s ∈ readsF st o, st2 s = st s) : patchF P N fr st2 o = patchF P N fr st o := by
  obtain ⟨dst, op, ty, pos, af, g⟩ := o
  cases dst with
  | none => rfl
  | some d =>
    have key : ∀ {s : Nat}, s ∈ readsF st ⟨some d, op, ty, pos, af, g⟩ → st2 s = st s := fun hs => h _ hs
    unfold patchF
    simp only
    split
    rotate_left
    · rfl
    cases op <;> try rfl
    case move x => cases x <;> first | rfl | (rename_i s; simp only [key (s := s) (by simp [readsF])])
    case assign x => cases x <;> first | rfl | (rename_i s; simp only [key (s := s) (by simp [readsF])])
    case binOp b t x y t' =>
      have h1 : scF N st2 x = scF N st x := scF_agree fun s hs => key (by simp [readsF, hs])
      have h2 : scF N st2 y = scF N st y := scF_agree fun s hs => key (by simp [readsF, hs])
      simp only [h1, h2]
    case unOp u t x =>
      have h1 : scF N st2 x = scF N st x := scF_agree fun s hs => key (by simp [readsF, hs])
      simp only [h1]
    case pick c x y =>
      have h0 : scF N st2 c = scF N st c := scF_agree fun s hs => key (by simp [readsF, hs])
      have h1 : scF N st2 x = scF N st x := scF_agree fun s hs => key (by simp [readsF, hs])
      have h2 : scF N st2 y = scF N st y := scF_agree fun s hs => key (by simp [readsF, hs])
      simp only [h0, h1, h2]
    case nilCheck x =>
      cases x <;> try rfl
      rename_i s
      have h1 := key (s := s) (by simp [readsF])
      simp only [h1]
      cases hsv : (st s).sv with
      | addr r k π i j =>
        have h2 := key (s := r) (by simp [readsF, hsv, rootOf])
        simp only [h2]
      | _ => (split <;> first | rfl | (split <;> first | rfl | simp_all))
    case fieldAddr t x f =>
      cases x <;> try rfl
      rename_i s
      have h1 := key (s := s) (by simp [readsF])
      simp only [h1]
      cases hsv : (st s).sv with
      | addr r k π i j =>
        have h2 := key (s := r) (by simp [readsF, hsv, rootOf])
        cases field? P t f <;> first | rfl | simp only [h2]
      | _ => (split <;> first | rfl | (split <;> first | rfl | simp_all))
    case load t x =>
      cases x <;> try rfl
      rename_i s
      have h1 := key (s := s) (by simp [readsF])
      simp only [h1]
      cases hsv : (st s).sv with
      | addr r k π i j =>
        have h2 := key (s := r) (by simp [readsF, hsv, rootOf])
        cases cells? P t <;> cases isAgg? P t <;> first | rfl | simp only [h2, cells_agree h2]
      | _ => (split <;> first | rfl | (split <;> first | rfl | simp_all))
    case field t x f =>
      cases x <;> try rfl
      rename_i s
      have h1 := key (s := s) (by simp [readsF])
      simp only [h1]

theorem patch_step {ps : List (Nat × SV)} (h : patchF X.P X.N X.free st o = some ps) : OStep X o st (applyP st ps) := by
  by_cases hpick : ∃ c x y, o.op = .pick c x y
  · obtain ⟨c, x, y, hop⟩ := hpick
    obtain ⟨dst, op, ty, pos, af, g⟩ := o
    simp only at hop
    subst hop
    unfold patchF at h
    cases dst with
    | none => cases h
    | some d =>
      simp only at h
      split at h
      rotate_left
      · cases h
      rename_i hf
      split at h
      · rename_i hc
        obtain ⟨z, hz, rfl⟩ := Option.map_eq_some_iff.1 h
        exact OS_pick (vx := z) (vy := z) (scF_ok hc) (fun _ => scF_ok hz) (fun h => by cases h) hf
      · rename_i hc
        obtain ⟨z, hz, rfl⟩ := Option.map_eq_some_iff.1 h
        exact OS_pick (vx := z) (vy := z) (scF_ok hc) (fun h => by cases h) (fun _ => scF_ok hz) hf
      · cases h
  · refine stepF_ok ?_
    obtain ⟨dst, op, ty, pos, af, g⟩ := o
    unfold patchF at h
    unfold stepF
    cases dst with
    | none => cases h
    | some d =>
      simp only at h ⊢
      split at h
      rotate_left
      · cases h
      rename_i hf
      simp only [hf, if_true]
      cases op <;> try (cases h; done)
      case pick c x y => exact absurd ⟨c, x, y, rfl⟩ hpick
      case move x =>
        cases x <;> simp only at h ⊢ <;> first | (cases h; done) | (split at h <;> first | (cases h; rename_i hc; rw [if_pos hc]; rfl) | cases h)
      case assign x =>
        cases x <;> simp only at h ⊢ <;> try (cases h; done)
        · split at h
          rotate_left
          · cases h
          rename_i hc
          rw [if_pos hc]
          split at h
          · rename_i v hv
            cases h
            rw [hv]; rfl
          · rename_i hno
            split at h
            · rename_i hown
              split at h
              rotate_left
              · cases h
              rename_i hfs
              cases h
              split
              · rename_i v hv; exact absurd hv (hno v)
              · rw [if_pos hown, if_pos hfs]; rfl
            · rename_i hown
              cases h
              split
              · rename_i v hv; exact absurd hv (hno v)
              · rw [if_neg hown]; rfl
        · split at h
          rotate_left
          · cases h
          rename_i hc
          cases h
          rw [if_pos hc]; rfl
      case binOp b t x y t' =>
        simp only at h ⊢
        split at h
        · rename_i u v hu hv
          obtain ⟨z, hz, rfl⟩ := Option.map_eq_some_iff.1 h
          rw [hu, hv]
          simp only [hz]
          rfl
        · cases h
      case unOp u t x =>
        simp only at h ⊢
        split at h
        · rename_i u' hu
          obtain ⟨z, hz, rfl⟩ := Option.map_eq_some_iff.1 h
          rw [hu]
          simp only [hz]
          rfl
        · cases h
      case nilCheck x =>
        cases x <;> simp only at h ⊢ <;> try (cases h; done)
        split at h
        rotate_left
        · cases h
        rename_i hc
        rw [if_pos hc]
        split at h
        · rename_i cs hv; cases h; rw [hv]; rfl
        · rename_i cs hv; cases h; rw [hv]; rfl
        · rename_i r k π i j hv
          split at h
          · rename_i hk; cases h; rw [hv]; simp only [if_pos hk]; rfl
          · cases h
        · cases h
      case fieldAddr t x f =>
        cases x <;> simp only at h ⊢ <;> try (cases h; done)
        split at h
        rotate_left
        · cases h
        rename_i hc
        rw [if_pos hc]
        split at h
        · rename_i hv hfd
          split at h
          · rename_i hk; cases h; rw [hv, hfd]; simp only [if_pos hk]; rfl
          · cases h
        · rename_i hv hfd
          split at h
          · rename_i hk; cases h; rw [hv, hfd]; simp only [if_pos hk]; rfl
          · cases h
        · cases h
      case load t x =>
        cases x <;> simp only at h ⊢ <;> try (cases h; done)
        split at h
        rotate_left
        · cases h
        rename_i hc
        rw [if_pos hc]
        split at h
        · rename_i hv hn hag
          split at h
          · rename_i hk; cases h; rw [hv, hn, hag]; simp only [if_pos hk]; rfl
          · cases h
        · rename_i hv hn hag
          split at h
          rotate_left
          · cases h
          rename_i hk
          split at h
          · rename_i cs hcs
            split at h
            · rename_i hk2; cases h; rw [hv, hn, hag]; simp only [if_pos hk, hcs, if_pos hk2]; rfl
            · cases h
          · cases h
        · cases h
      case field t x f =>
        cases x <;> simp only at h ⊢ <;> try (cases h; done)
        split at h
        rotate_left
        · cases h
        rename_i hc
        rw [if_pos hc]
        split at h
        · rename_i hv hfd
          split at h
          · rename_i hk; cases h; rw [hv, hfd]; simp only [if_pos hk]; rfl
          · cases h
        · cases h

/-! ### regions by their steps -/
def DL (X : Cx) (ops : Array Oper) (l : List Oper) (st : St) (k : List Foot → St → Prop) : Prop :=
  ∃ fs : List Foot, fs.length = l.length ∧ (∀ (i : Nat) o (f : Foot), l[i]? = some o → fs[i]? = some f → PStep X ops o (statesAt fs i st) f.reads f.ps) ∧ k fs (statesAt fs fs.length st)

variable {k : List Foot → St → Prop} {R : List Nat} {ps : List (Nat × SV)}

theorem statesAt_zero (fs : List Foot) (st : St) : statesAt fs 0 st = st := foldX_none 0 _ _ fun j _ => by simp
theorem foldX_shift {X X' : Nat → Bool} : ∀ (l : List (List (Nat × SV))) (i : Nat) (st : St), (∀ j, X (j + 1) = X' j) → foldX X (i + 1) l st = foldX X' i l st
  | [], _, _, _ => rfl
  | ps :: l, i, st, h => by
    simp only [foldX, h i]
    exact foldX_shift l (i + 1) _ h
theorem statesAt_succ (f : Foot) (fs : List Foot) (i : Nat) (st : St) : statesAt (f :: fs) (i + 1) st = statesAt fs i (applyP st f.ps) := by
  unfold statesAt
  simp only [List.map_cons, foldX]
  rw [if_pos (by simp)]
  exact foldX_shift _ 0 _ fun j => by simp

theorem DL_nil (h : k [] st) : DL X ops [] st k := ⟨[], rfl, fun i o f h => by simp at h, by simpa [statesAt, foldX] using h⟩
theorem DL_cons (h : PStep X ops o st R ps) (hl : DL X ops l (applyP st ps) (fun fs st' => k (⟨R, ps⟩ :: fs) st')) : DL X ops (o :: l) st k := by
  obtain ⟨fs, h1, h2, h3⟩ := hl
  refine ⟨⟨R, ps⟩ :: fs, by simp [h1], fun i o' f ho hf => ?_, by simpa [statesAt_succ] using h3⟩
  cases i with
  | zero =>
    simp only [List.getElem?_cons_zero, Option.some.injEq] at ho hf
    subst ho; subst hf
    rw [statesAt_zero]; exact h
  | succ i =>
    rw [statesAt_succ]
    exact h2 i o' f (by simpa using ho) (by simpa using hf)

/-- A region that keeps the text's order, by its steps. -/
theorem W_text {id : Nat} (h : DL X l.toArray l st fun _ st' => Q .normal st') : W X (.region id l.toArray false) st Q := by
  obtain ⟨fs, h1, h2, h3⟩ := h
  refine W_region ?_
  have : ∀ (l2 : List Oper) (fs : List Foot) (st : St), fs.length = l2.length → (∀ (i : Nat) o (f : Foot), l2[i]? = some o → fs[i]? = some f → PStep X l.toArray o (statesAt fs i st) f.reads f.ps) → Q .normal (statesAt fs fs.length st) → WL X l.toArray l2 st Q := by
    intro l2
    induction l2 with
    | nil =>
      intro fs st hl _ hq
      have : fs = [] := List.eq_nil_of_length_eq_zero hl
      subst this
      exact WL_nil (by simpa [statesAt, foldX] using hq)
    | cons o l2 ih =>
      intro fs st hl hs hq
      match fs, hl with
      | f :: fs, hl =>
        have h0 := hs 0 o f rfl rfl
        rw [statesAt_zero] at h0
        refine WL_g (h0 st fun _ _ => rfl) (ih fs _ (by simpa using hl) (fun i o' f' ho hf => ?_) (by simpa [statesAt_succ] using hq))
        have := hs (i + 1) o' f' (by simpa using ho) (by simpa using hf)
        rwa [statesAt_succ] at this
  exact this l fs st h1 h2 h3

/-- The table of what must come ahead, as bits. -/
def aheadB : List Oper → List Nat → List Nat
  | [], acc => acc
  | o :: ops, acc => aheadB ops (acc ++ [o.after.toList.foldl (fun s e => if Region.binds .any e then s ||| 2 ^ e.on ||| (acc[e.on]?).getD 0 else s) 0])
def bitsOf (n : Nat) (b : Nat) : List Nat := (List.range n).filter fun i => b.testBit i

/-- Is the table closed, each entry of it an edge or one's entry? -/
def tableB (ops : List Oper) (D : List (List Nat)) : Bool :=
  ops.length == D.length && (List.range ops.length).all fun j => match ops[j]?, D[j]? with
    | some o, some ds => o.after.toList.all (fun e => !Region.binds .any e || decide (e.on < j)) &&
        ds.all fun i => o.after.toList.any fun e => Region.binds .any e && (e.on == i || match D[e.on]? with | some es => es.contains i | none => false)
    | _, _ => false
theorem tableB_ok {ops : List Oper} {D : List (List Nat)} (h : tableB ops D = true) : TableOK ops D := by
  simp only [tableB, Bool.and_eq_true, beq_iff_eq, List.all_eq_true, List.mem_range] at h
  refine ⟨h.1, fun j o ds ho hd => ?_⟩
  have h1 := h.2 j (List.getElem?_eq_some_iff.1 ho).1
  rw [ho, hd] at h1
  simp only [Bool.and_eq_true, List.all_eq_true, Bool.or_eq_true, Bool.not_eq_true', decide_eq_true_eq, List.any_eq_true, beq_iff_eq] at h1
  refine ⟨fun e he hb => (h1.1 e he).resolve_left (by simp [hb]), fun i hi => ?_⟩
  obtain ⟨e, he, hb, h2⟩ := h1.2 i hi
  refine ⟨e, he, hb, h2.imp id fun h3 => ?_⟩
  split at h3
  · rename_i es hes; exact ⟨es, hes, by simpa using h3⟩
  · cases h3

def pairsB (F : List (List Nat × List Nat)) (D : List (List Nat)) : Bool :=
  (List.range F.length).all fun j => (List.range j).all fun i => match F[i]?, F[j]?, D[j]? with
    | some f, some g, some ds => ds.contains i || apartF f g
    | _, _, _ => true
/-- May the region's order be left open? -/
def drawB (l : List Oper) (F : List (List Nat × List Nat)) : Bool :=
  let D := (aheadB l []).map (bitsOf l.length)
  tableB l D && pairsB F D

theorem W_drawn {id : Nat} (hm : X.P.follows .mixedOrders = true) (h : DL X l.toArray l st fun fs st' => ∃ F, (fs.map fun f => (f.reads, f.ps.map (·.1))) = F ∧ drawB l F = true ∧ Q .normal st') : W X (.region id l.toArray true) st Q := by
  obtain ⟨fs, h1, h2, F, rfl, h3, h4⟩ := h
  simp only [drawB, Bool.and_eq_true] at h3
  refine W_draw hm h1.symm (tableB_ok h3.1) (fun i j f g ds hij hf hg hd => ?_) (fun i o f ho hf st2 hst => h2 i o f ho hf st2 hst) h4
  have h5 := h3.2
  simp only [pairsB, List.all_eq_true, List.mem_range, List.length_map] at h5
  have := h5 j (List.getElem?_eq_some_iff.1 hg).1 i hij
  simp only [List.getElem?_map, hf, hg, Option.map_some] at this
  simp only [List.getElem?_map] at hd
  rw [hd] at this
  simp only [Bool.or_eq_true, List.contains_eq_mem, decide_eq_true_eq] at this
  exact this

/-! ### the steps in this form -/
theorem PStep.of (hg : o.guard = none) (h : ∀ st2 : St, (∀ s ∈ R, st2 s = st s) → OStep X o st2 (applyP st2 ps)) : PStep X ops o st R ps := fun st2 h2 => GStep.run hg (h st2 h2)
/-- A step that goes by itself. -/
theorem du (hg : o.guard = none) (h : patchF X.P X.N X.free st o = some ps) (hl : DL X ops l (applyP st ps) (fun fs st' => k (⟨readsF st o, ps⟩ :: fs) st')) : DL X ops (o :: l) st k :=
  DL_cons (PStep.of hg fun st2 h2 => patch_step (by rw [patch_agree h2]; exact h)) hl

/-- The slot of a step's guard. -/
def gslot (ops : Array Oper) (o : Oper) : List Nat := match o.guard with | some (j, _) => ((ops[j]?).bind (·.dst)).toList | none => []
theorem guardF_agree {N : Nat} {st st2 : St} (h : ∀ s ∈ gslot ops o, st2 s = st s) : guardF N ops st2 o = guardF N ops st o := by
  unfold guardF
  unfold gslot at h
  split
  · rfl
  · rename_i j b hg
    rw [hg] at h
    split
    · rename_i d hd
      simp only [hd] at h
      rw [h d (by simp)]
    · rfl
theorem PStep.on {b : Bool} (hg : guardF X.N ops st o = some (b, b)) (h : ∀ st2 : St, (∀ s ∈ R, st2 s = st s) → OStep X o st2 (applyP st2 ps)) : PStep X ops o st (gslot ops o ++ R) ps := fun st2 h2 => by
  have hg2 : guardF X.N ops st2 o = some (b, b) := by rw [guardF_agree fun s hs => h2 s (by simp [hs])]; exact hg
  obtain ⟨j, d, h3, h4, h5, h6⟩ := guardF_ok hg2
  exact GStep.on h3 h4 h5 h6 (h st2 fun s hs => h2 s (by simp [hs]))
/-- Guarded, it runs, by itself. -/
theorem da {b : Bool} (hg : guardF X.N ops st o = some (b, b)) (h : patchF X.P X.N X.free st o = some ps) (hl : DL X ops l (applyP st ps) (fun fs st' => k (⟨gslot ops o ++ readsF st o, ps⟩ :: fs) st')) : DL X ops (o :: l) st k :=
  DL_cons (PStep.on hg fun st2 h2 => patch_step (by rw [patch_agree h2]; exact h)) hl
/-- Guarded, it is passed by. -/
theorem do_ {b : Bool} {e : Nat} (hg : guardF X.N ops st o = some (b, !b)) (he : o.dst = some e) (hf : X.free e = true) (hl : DL X ops l (applyP st [(e, .dead)]) (fun fs st' => k (⟨gslot ops o, [(e, .dead)]⟩ :: fs) st')) : DL X ops (o :: l) st k :=
  DL_cons (fun st2 h2 => by
    have hg2 : guardF X.N ops st2 o = some (b, !b) := by rw [guardF_agree h2]; exact hg
    obtain ⟨j, d, h3, h4, h5, h6⟩ := guardF_ok hg2
    exact GStep.off h3 h4 h5 h6 (by cases b <;> simp) he hf) hl
theorem don {b : Bool} (hg : guardF X.N ops st o = some (b, !b)) (he : o.dst = none) (hl : DL X ops l (applyP st []) (fun fs st' => k (⟨gslot ops o, []⟩ :: fs) st')) : DL X ops (o :: l) st k :=
  DL_cons (fun st2 h2 => by
    have hg2 : guardF X.N ops st2 o = some (b, !b) := by rw [guardF_agree h2]; exact hg
    obtain ⟨j, d, h3, h4, h5, h6⟩ := guardF_ok hg2
    exact GStep.offN h3 h4 h5 h6 (by cases b <;> simp) he) hl
/-- Any step by its rule, guarded or not. -/
theorem dr (R : List Nat) (hg : o.guard = none ∨ ∃ b, guardF X.N ops st o = some (b, b)) (h : ∀ st2 : St, (∀ s ∈ R, st2 s = st s) → OStep X o st2 (applyP st2 ps)) (hl : DL X ops l (applyP st ps) (fun fs st' => k (⟨gslot ops o ++ R, ps⟩ :: fs) st')) : DL X ops (o :: l) st k := by
  rcases hg with hg | ⟨b, hg⟩
  · exact DL_cons (fun st2 h2 => GStep.run hg (h st2 fun s hs => h2 s (by simp [hs]))) hl
  · exact DL_cons (PStep.on hg h) hl
/-- A test that is not decided: both ways. -/
theorem ds (d : Nat) {b : Bool} (h : (st d).sv = scv (.bool b)) (h1 : b = true → DL X ops l st k) (h2 : b = false → DL X ops l st k) : DL X ops l st k := by
  cases b
  · exact h2 rfl
  · exact h1 rfl
theorem W_split {c : Operand} {x y : Code} {b : Bool} (hc : Opd X.N st c (scv (.bool b))) (h1 : b = true → W X x st Q) (h2 : b = false → W X y st Q) : W X (.cond c x y) st Q := by
  cases b
  · exact W_cond hc (h2 rfl)
  · exact W_cond hc (h1 rfl)
theorem ite_some {α : Type} {p : Prop} [Decidable p] {x : Option α} {r : α} (h : (if p then x else none) = some r) : p ∧ x = some r := by
  by_cases hp : p
  · rw [if_pos hp] at h; exact ⟨hp, h⟩
  · rw [if_neg hp] at h; cases h
theorem ite_yes {α : Type} {p : Prop} [Decidable p] {x y r : α} (hp : p) (h : (if p then x else y) = r) : x = r := by rwa [if_pos hp] at h
theorem ite_no {α : Type} {b : Bool} {x y r : α} (hp : b = false) (h : (if b = true then x else y) = r) : y = r := by rw [hp] at h; exact h
theorem bind_some {α β : Type} {x : Option α} {f : α → Option β} {r : β} (h : x.bind f = some r) : ∃ a, x = some a ∧ f a = some r := Option.bind_eq_some_iff.1 h
end
end Go.V

/- The value interpreter, part d: what stretches of a program do to typed values, rule by rule. Conditions: none. -/
import Derived.Test.YtdligmjpeclkcaaDoorVc
namespace Go.V
open Go Go.RowKit

def opdF (N : Nat) (st : St) : Operand → Option SV
  | .tmp t => if t < N then some (st t).sv else none
  | .const v => if scal v then some (scv v) else none
  | .func f => some (one (.fn f []))
  | .global _ => none
theorem opdF_ok {N : Nat} {st : St} {x : Operand} {sv : SV} (h : opdF N st x = some sv) : Opd N st x sv := by
  cases x with
  | tmp t => simp only [opdF] at h; split at h <;> cases h; exact ⟨‹_›, rfl⟩
  | const v => simp only [opdF] at h; split at h <;> cases h; exact .inl ⟨‹_›, rfl⟩
  | func f => cases h; rfl
  | global g => cases h

/-- A scalar operand. -/
def scF (N : Nat) (st : St) (x : Operand) : Option Value :=
  match opdF N st x with
  | some (.val false [.t (.sc v)]) => some v
  | _ => none
theorem scF_ok {N : Nat} {st : St} {x : Operand} {v : Value} (h : scF N st x = some v) : Opd N st x (scv v) := by
  unfold scF at h
  split at h
  · rename_i v' h'; cases h; exact opdF_ok h'
  · cases h

def SV.owns : SV → Bool
  | .val _ cs => cs.any fun c => match c with | .t (.sl true _ _) => true | _ => false
  | .box _ => true
  | .bld .. => true
  | .tup vs => vs.any fun p => p.2.any fun c => match c with | .t (.sl true _ _) => true | _ => false
  | _ => false

/-- Two scalars of one kind compared or reckoned with. -/
def binF (op : BinOp) (x y : Value) : Option Value :=
  match x, y with
  | .int k a, .int k' b => if k = k' then intV op k a b else none
  | .string r, .string s => strV op r s
  | _, _ => none

/-- What goes without a proof: the next state. -/
def stepF (P : Program) (N : Nat) (fr : Nat → Bool) (st : St) (o : Oper) : Option St :=
  match o.dst with
  | none => none
  | some d => if fr d then
    match o.op with
    | .move (.tmp s) => if s < N && s != d then some (st.put d (match (st s).sv with | .val false [.t (.sc v)] => scv v | sv => sv.copy s (st s).ver)) else none
    | .move (.const v) => if scal v then some (st.put d (scv v)) else none
    | .assign (.tmp s) => if s < N && s != d then (match (st s).sv with
        | .val false [.t (.sc v)] => some (st.put d (scv v))
        | sv => if sv.owns then (if fr s then some ((st.put s .dead).put d (st s).sv) else none) else some (st.put d (sv.copy s (st s).ver))) else none
    | .assign (.const v) => if scal v then some (st.put d (scv v)) else none
    | .binOp op _ x y _ => match scF N st x, scF N st y with
      | some u, some v => (binF op u v).map fun z => st.put d (scv z)
      | _, _ => none
    | .unOp op _ x => match scF N st x with
      | some u => (unV op u).map fun z => st.put d (scv z)
      | _ => none
    | .nilCheck (.tmp s) => if s < N && s != d then (match (st s).sv with
        | .box _ => some (st.put d (.addr s (st s).ver [] 0 0))
        | .val false [.t (.ptr cs)] => some (st.put d (one (.ptr cs)))
        | .addr r k π i j => if k = (st r).ver then some (st.put d (.addr r k π i j)) else none
        | _ => none) else none
    | .fieldAddr t (.tmp s) f => if s < N then (match (st s).sv, field? P t f with
        | .val false [.t (.ptr cs)], some (off, n, _) => if n ≠ 0 then some (st.put d (one (.ptr (cs.drop off)))) else none
        | .addr r k π i j, some (off, n, _) => if k = (st r).ver && n != 0 && r != d then some (st.put d (.addr r k π i (j + off))) else none
        | _, _ => none) else none
    | .load t (.tmp s) => if s < N then (match (st s).sv, cells? P t, isAgg? P t with
        | .val false [.t (.ptr cs)], some n, some ag => if (ag || n == 1) && n ≤ cs.length then some (st.put d (.val ag ((cs.take n).map .t))) else none
        | .addr r k π i j, some n, some ag => if k = (st r).ver && r != d && (ag || n == 1) then (match st.cells r π i j with
            | some cs => if n ≤ cs.length then some (st.put d (.val ag (cellOf r k π i j (cs.take n)))) else none
            | none => none) else none
        | _, _, _ => none) else none
    | .field t (.tmp s) f => if s < N && s != d then (match (st s).sv, field? P t f with
        | .val true cs, some (off, n, ag) => if (ag || n == 1) && off + n ≤ cs.length then some (st.put d (.val ag (((copies s (st s).ver 0 0 cs).drop off).take n))) else none
        | _, _ => none) else none
    | .alloc _ => none
    | _ => none
    else none

section
variable {X : Cx} {st st' : St} {o : Oper} {ops : Array Oper} {l : List Oper} {Q : Exit → St → Prop}

theorem stepF_ok (h : stepF X.P X.N X.free st o = some st') : OStep X o st st' := by
  obtain ⟨dst, op, ty, pos, af, g⟩ := o
  unfold stepF at h
  cases dst with
  | none => cases h
  | some d =>
    simp only at h
    split at h
    rotate_left
    · cases h
    rename_i hf
    split at h
    · rename_i s
      split at h
      rotate_left
      · cases h
      rename_i hc
      simp only [Bool.and_eq_true, decide_eq_true_eq, bne_iff_ne] at hc
      cases h
      have := OS_move (X := X) (st := st) (d := d) (ty := ty) (pos := pos) (af := af) (g := g) (s := s) (ver := (st s).ver) (sv := (st s).sv) hc.1 hc.2 rfl hf
      have e : (match (st s).sv with | .val false [.t (.sc v)] => scv v | sv => sv.copy s (st s).ver) = (st s).sv.copy s (st s).ver := by
        split
        · rename_i v hv; rw [hv]; rfl
        · rfl
      rw [e]; exact this
    · rename_i v
      split at h <;> cases h
      exact OS_const ‹_› hf
    · rename_i s
      split at h
      rotate_left
      · cases h
      rename_i hc
      simp only [Bool.and_eq_true, decide_eq_true_eq, bne_iff_ne] at hc
      split at h
      · rename_i v hv
        cases h
        have := OS_assign (X := X) (st := st) (d := d) (ty := ty) (pos := pos) (af := af) (g := g) (s := s) (ver := (st s).ver) (sv := (st s).sv) hc.1 hc.2 rfl hf
        rw [hv] at this
        exact this
      · split at h
        · split at h <;> cases h
          exact OS_take hc.1 hc.2 hf ‹_›
        · cases h
          exact OS_assign (X := X) (st := st) (d := d) (ty := ty) (pos := pos) (af := af) (g := g) (s := s) (ver := (st s).ver) (sv := (st s).sv) hc.1 hc.2 rfl hf
    · rename_i v
      split at h <;> cases h
      exact OS_const' ‹_› hf
    · rename_i bop t x y t'
      split at h
      · rename_i u v hu hv
        obtain ⟨z, hz, rfl⟩ := Option.map_eq_some_iff.1 h
        unfold binF at hz
        split at hz
        · split at hz
          · rename_i he; subst he; exact OS_int (scF_ok hu) (scF_ok hv) hz hf
          · cases hz
        · exact OS_str (scF_ok hu) (scF_ok hv) hz hf
        · cases hz
      · cases h
    · rename_i uop t x
      split at h
      · rename_i u hu
        obtain ⟨z, hz, rfl⟩ := Option.map_eq_some_iff.1 h
        exact OS_un (scF_ok hu) hz hf
      · cases h
    · rename_i s
      split at h
      rotate_left
      · cases h
      rename_i hc
      simp only [Bool.and_eq_true, decide_eq_true_eq, bne_iff_ne] at hc
      split at h
      · rename_i cs hcs
        cases h
        have := OS_nilCheck (X := X) (st := st) (d := d) (ty := ty) (pos := pos) (af := af) (g := g) (s := s) (ver := (st s).ver) (sv := (st s).sv) hc.1 hc.2 rfl (.inl ⟨cs, hcs⟩) hf
        rw [hcs] at this; exact this
      · rename_i cs hcs
        cases h
        have := OS_nilCheck (X := X) (st := st) (d := d) (ty := ty) (pos := pos) (af := af) (g := g) (s := s) (ver := (st s).ver) (sv := (st s).sv) hc.1 hc.2 rfl (.inr (.inl ⟨cs, hcs⟩)) hf
        rw [hcs] at this; exact this
      · rename_i r k π i j hcs
        split at h <;> cases h
        rename_i hk
        subst hk
        have := OS_nilCheck (X := X) (st := st) (d := d) (ty := ty) (pos := pos) (af := af) (g := g) (s := s) (ver := (st s).ver) (sv := (st s).sv) hc.1 hc.2 rfl (.inr (.inr ⟨r, π, i, j, hcs⟩)) hf
        rw [hcs] at this; exact this
      · cases h
    · rename_i t s f
      split at h
      rotate_left
      · cases h
      rename_i hN
      split at h
      · rename_i cs off n ag hcs hfd
        split at h <;> cases h
        exact OS_fieldAddr_ptr ⟨hN, hcs⟩ hfd ‹_› hf
      · rename_i r k π i j off n ag hcs hfd
        split at h <;> cases h
        rename_i hk
        simp only [Bool.and_eq_true, decide_eq_true_eq, bne_iff_ne] at hk
        obtain ⟨⟨rfl, hn⟩, hr⟩ := hk
        exact OS_fieldAddr hN hcs hr hfd hn hf
      · cases h
    · rename_i t s
      split at h
      rotate_left
      · cases h
      rename_i hN
      split at h
      · rename_i cs n ag hcs hn hag
        split at h <;> cases h
        rename_i hk
        simp only [Bool.and_eq_true, Bool.or_eq_true, beq_iff_eq, decide_eq_true_eq] at hk
        exact OS_load_ptr ⟨hN, hcs⟩ hn hag (fun h => hk.1.resolve_left (by simp [h])) hk.2 hf
      · rename_i r k π i j n ag hcs hn hag
        split at h
        rotate_left
        · cases h
        rename_i hk
        simp only [Bool.and_eq_true, Bool.or_eq_true, beq_iff_eq, decide_eq_true_eq, bne_iff_ne] at hk
        obtain ⟨⟨rfl, hr⟩, h1⟩ := hk
        split at h
        · rename_i cs hc
          split at h <;> cases h
          exact OS_load hN hcs hc hr hn hag (fun h => h1.resolve_left (by simp [h])) ‹_› hf
        · cases h
      · cases h
    · rename_i t s f
      split at h
      rotate_left
      · cases h
      rename_i hc
      simp only [Bool.and_eq_true, decide_eq_true_eq, bne_iff_ne] at hc
      split at h
      · rename_i cs off n ag hcs hfd
        split at h <;> cases h
        rename_i hk
        simp only [Bool.and_eq_true, Bool.or_eq_true, beq_iff_eq, decide_eq_true_eq] at hk
        exact OS_field hc.1 hc.2 (by rw [← hcs]) hfd (fun h => hk.1.resolve_left (by simp [h])) hk.2 hf
      · cases h
    · cases h
    · cases h

/-- A step that goes by itself. -/
theorem au (hg : o.guard = none) (h : stepF X.P X.N X.free st o = some st') (hl : WL X ops l st' Q) : WL X ops (o :: l) st Q := WL_step hg (stepF_ok h) hl

/-- Its guard's slot. -/
def guardF (N : Nat) (ops : Array Oper) (st : St) (o : Oper) : Option (Bool × Bool) :=
  match o.guard with
  | none => none
  | some (j, b) => match (ops[j]?).bind (·.dst) with
    | some d => if d < N then (match (st d).sv with | .val false [.t (.sc (.bool b'))] => some (b, b') | _ => none) else none
    | none => none
theorem guardF_ok {b b' : Bool} (h : guardF X.N ops st o = some (b, b')) : ∃ j d, o.guard = some (j, b) ∧ (ops[j]?).bind (·.dst) = some d ∧ d < X.N ∧ (st d).sv = scv (.bool b') := by
  unfold guardF at h
  split at h
  · cases h
  · rename_i j bb hg
    split at h
    · rename_i d hd
      split at h
      · rename_i hN
        split at h
        · rename_i b'' hb
          cases h
          exact ⟨j, d, hg, hd, hN, hb⟩
        · cases h
      · cases h
    · cases h

/-- Guarded, and it runs. -/
theorem gr {b : Bool} (hg : guardF X.N ops st o = some (b, b)) (h : OStep X o st st') (hl : WL X ops l st' Q) : WL X ops (o :: l) st Q := by
  obtain ⟨j, d, h1, h2, h3, h4⟩ := guardF_ok hg
  exact WL_run h1 h2 h3 h4 h hl
theorem ga {b : Bool} (hg : guardF X.N ops st o = some (b, b)) (h : stepF X.P X.N X.free st o = some st') (hl : WL X ops l st' Q) : WL X ops (o :: l) st Q := gr hg (stepF_ok h) hl
/-- Guarded, and it is passed by. -/
theorem go {b : Bool} {e : Nat} (hg : guardF X.N ops st o = some (b, !b)) (he : o.dst = some e) (hf : X.free e = true) (hl : WL X ops l (st.put e .dead) Q) : WL X ops (o :: l) st Q := by
  obtain ⟨j, d, h1, h2, h3, h4⟩ := guardF_ok hg
  exact WL_off h1 h2 h3 h4 (by cases b <;> simp) he hf hl
end

/-! ### what a body leaves -/
theorem leaves_tmps {X : Cx} {fn : Func} {args : List Arg} {st : St} (ts : List Nat) (res : List (Bool × List T)) (h : fn.results = (ts.map ResultVar.tmp).toArray) (hl : ts.length = res.length) (hn : ts.Nodup)
    (hr : ∀ (k : Nat) t p, ts[k]? = some t → res[k]? = some p → t < X.N ∧ (st t).sv = .val p.1 (p.2.map .t)) : Leaves X fn args res [] st := by
  refine ⟨by rw [h]; simpa using hl, fun k r p hk hp => ?_, ?_, fun k a t p hk _ => ?_, fun i a h => by simp at h⟩
  · rw [h] at hk
    simp only [List.getElem?_toArray, List.getElem?_map] at hk
    obtain ⟨t, ht, rfl⟩ := Option.map_eq_some_iff.1 hk
    exact hr k t p ht hp
  · rw [h]; simpa [Function.comp_def, resSlot] using hn
  · rw [h] at hk
    simp only [List.getElem?_toArray, List.getElem?_map] at hk
    obtain ⟨t', ht, he⟩ := Option.map_eq_some_iff.1 hk
    cases he
theorem leaves_one {X : Cx} {fn : Func} {args : List Arg} {st : St} {t : Nat} {ag : Bool} {ts : List T} (h : fn.results = #[.tmp t]) (hN : t < X.N) (hs : (st t).sv = .val ag (ts.map .t)) : Leaves X fn args [(ag, ts)] [] st :=
  leaves_tmps [t] [(ag, ts)] h rfl (by simp) fun k t' p hk hp => by
    cases k with
    | zero => simp at hk hp; subst hk; subst hp; exact ⟨hN, hs⟩
    | succ k => simp at hk
theorem leaves_two {X : Cx} {fn : Func} {args : List Arg} {st : St} {t u : Nat} {p q : Bool × List T} (h : fn.results = #[.tmp t, .tmp u]) (hne : t ≠ u) (hN : t < X.N) (hN' : u < X.N) (hs : (st t).sv = .val p.1 (p.2.map .t)) (hs' : (st u).sv = .val q.1 (q.2.map .t)) : Leaves X fn args [p, q] [] st :=
  leaves_tmps [t, u] [p, q] h rfl (by simpa using hne) fun k t' r hk hp => by
    match k with
    | 0 => simp at hk hp; subst hk; subst hp; exact ⟨hN, hs⟩
    | 1 => simp at hk hp; subst hk; subst hp; exact ⟨hN', hs'⟩
    | k + 2 => simp at hk

abbrev ltF {a b : Nat} (h : Nat.ble (a + 1) b = true) : a < b := Nat.le_of_ble_eq_true h

/-- A function's contract, its number of slots written out. -/
theorem VC_of {P : Program} {g : FuncId} {fn : Func} {c : Code} {args : List Arg} {res : List (Bool × List T)} {fin : List (Option Arg)} (n : Nat) (hfn : P.funcs[g]? = some fn) (hb : fn.body = some c) (hn : fn.ntmps = n) (hN : Nat.ble args.length n = true)
    (h : ∀ (G0 : Nat → Own) (w0 : World) (pv : Nat → Value), W ⟨P, n, pins0 pv 0 args, G0, w0⟩ c (St0 args) fun e st => (e = .normal ∨ e = .ret) ∧ Leaves ⟨P, n, pins0 pv 0 args, G0, w0⟩ fn args res fin st) :
    VC P g args res fin := by
  subst hn
  exact VC_intro hfn hb (Nat.le_of_ble_eq_true hN) h
end Go.V

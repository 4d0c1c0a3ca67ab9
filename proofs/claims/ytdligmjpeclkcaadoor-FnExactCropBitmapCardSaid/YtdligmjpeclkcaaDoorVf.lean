/- The value interpreter, part f: what stretches of a program do to typed values, rule by rule. Conditions: none. -/
import Derived.Test.YtdligmjpeclkcaaDoorVe
namespace Go.V
open Go Go.RowKit

/-- The row that an operand means: of its own slot, or of a place. -/
def ownOf (st : St) (s : Nat) : Option (Nat × Path × Nat × List (List T)) :=
  match (st s).sv with
  | .val false [.t (.sl true sz els)] => some (s, [(0, 0)], sz, els)
  | .val false [.ref r k π] => if k = (st r).ver then (match st.at_ r π with
      | some (.sl true sz els) => some (r, π, sz, els)
      | _ => none) else none
  | _ => none
def ownSlots (st : St) (s : Nat) : List Nat :=
  match (st s).sv with
  | .val false [.ref r _ _] => [s, r]
  | _ => [s]
theorem at_agree {st st2 : St} {r : Nat} {π : Path} (h : st2 r = st r) : st2.at_ r π = st.at_ r π := by
  cases π with
  | nil => rfl
  | cons q π => simp only [St.at_, h]
theorem ownOf_agree {st st2 : St} {s : Nat} (h : ∀ t ∈ ownSlots st s, st2 t = st t) : ownOf st2 s = ownOf st s := by
  have h0 : st2 s = st s := h s (by unfold ownSlots; split <;> simp)
  unfold ownOf
  rw [h0]
  split
  · rfl
  · rename_i r k π hsv
    have h1 : st2 r = st r := h r (by unfold ownSlots; rw [hsv]; simp)
    rw [h1, at_agree h1]
  · rfl
theorem ownOf_ok {X : Cx} {st : St} {s r sz : Nat} {π : Path} {els : List (List T)} (hN : s < X.N) (h : ownOf st s = some (r, π, sz, els)) : OwnAt X st (.tmp s) r π ∧ st.at_ r π = some (.sl true sz els) := by
  unfold ownOf at h
  split at h
  · rename_i hsv
    cases h
    exact ⟨⟨s, rfl, hN, .inr ⟨rfl, rfl, _, _, hsv⟩⟩, by simp [St.at_, hsv, SV.cell, T.at_]⟩
  · rename_i hsv
    split at h
    · rename_i hk
      split at h
      · rename_i hat
        cases h
        exact ⟨⟨s, rfl, hN, .inl (by rw [hsv, hk])⟩, hat⟩
      · cases h
    · cases h
  · cases h

/-- What one slot's row is, whoever owns it. -/
def rowOf (st : St) (s : Nat) : Option (List (List T)) :=
  match (st s).sv with
  | .val false [.t (.sl _ _ els)] => some els
  | _ => (ownOf st s).map fun p => p.2.2.2
theorem rowOf_agree {st st2 : St} {s : Nat} (h : ∀ t ∈ ownSlots st s, st2 t = st t) : rowOf st2 s = rowOf st s := by
  have h0 : st2 s = st s := h s (by unfold ownSlots; split <;> simp)
  unfold rowOf
  rw [h0, ownOf_agree h]

/-- More that goes by itself. -/
def patchX (P : Program) (N : Nat) (fr : Nat → Bool) (st : St) (o : Oper) : Option (List (Nat × SV)) :=
  match o.dst with
  | none => none
  | some d => if fr d then
    match o.op with
    | .convert src t x => (match P.underlying src, P.underlying t, scF N st x with
        | some (.int k), some (.int k'), some (.int k2 a) => if k2 = k then some [(d, scv (.int k' (k'.wrap a)))] else none
        | some .string, some .string, some (.string r) => some [(d, scv (.string r))]
        | _, _, _ => none)
    | .binOp op t x y _ => (match op, scF N st x, scF N st y with
        | .quo, some (.int k a), some (.int k' b) => if k' = k && b != 0 then some [(d, scv (.int k (k.wrap (a.tdiv b))))] else none
        | .rem, some (.int k a), some (.int k' b) => if k' = k && b != 0 then some [(d, scv (.int k (a.tmod b)))] else none
        | .shl, some (.int k a), some (.int _ b) => if 0 ≤ b then some [(d, scv (.int k (k.wrap (a * 2 ^ (min b.toNat k.bits)))))] else none
        | .shr, some (.int k a), some (.int _ b) => if 0 ≤ b then some [(d, scv (.int k (a.fdiv (2 ^ (min b.toNat k.bits)))))] else none
        | .eql, some (.bool p), some (.bool q) => (match P.underlying t with | some .bool => some [(d, scv (.bool (p == q)))] | _ => none)
        | .neq, some (.bool p), some (.bool q) => (match P.underlying t with | some .bool => some [(d, scv (.bool (p != q)))] | _ => none)
        | _, _, _ => none)
    | _ => none
    else none
def readsX (o : Oper) : List Nat :=
  match o.op with
  | .convert _ _ x => opdSlots x
  | .binOp _ _ x y _ => opdSlots x ++ opdSlots y
  | _ => []

section
variable {X : Cx} {st st' : St} {o : Oper} {ops : Array Oper} {l : List Oper} {k : List Foot → St → Prop} {ps : List (Nat × SV)}

theorem patchX_agree {P : Program} {N : Nat} {fr : Nat → Bool} {st st2 : St} (h : ∀ s ∈ readsX o, st2 s = st s) : patchX P N fr st2 o = patchX P N fr st o := by
  obtain ⟨dst, op, ty, pos, af, g⟩ := o
  cases dst with
  | none => rfl
  | some d =>
    have key : ∀ {s : Nat}, s ∈ readsX ⟨some d, op, ty, pos, af, g⟩ → st2 s = st s := fun hs => h _ hs
    unfold patchX
    simp only
    split
    rotate_left
    · rfl
    split
    · rename_i x
      have h1 : scF N st2 x = scF N st x := scF_agree fun s hs => key (by simpa [readsX] using hs)
      rw [h1]
    · rename_i x y _
      have h1 : scF N st2 x = scF N st x := scF_agree fun s hs => key (by simp [readsX, hs])
      have h2 : scF N st2 y = scF N st y := scF_agree fun s hs => key (by simp [readsX, hs])
      rw [h1, h2]
    · rfl

theorem patchX_step (h : patchX X.P X.N X.free st o = some ps) : OStep X o st (applyP st ps) := by
  obtain ⟨dst, op, ty, pos, af, g⟩ := o
  unfold patchX at h
  cases dst with
  | none => cases h
  | some d =>
    simp only at h
    split at h
    rotate_left
    · cases h
    rename_i hf
    split at h
    · split at h
      · rename_i hk hk' hx
        split at h
        · rename_i he; subst he; cases h
          exact OS_conv hk hk' (scF_ok hx) hf
        · cases h
      · rename_i hk hk' hx
        cases h
        exact OS_convStr hk hk' (scF_ok hx) hf
      · cases h
    · split at h
      · rename_i hx hy
        split at h
        · rename_i hc; simp only [Bool.and_eq_true, decide_eq_true_eq, bne_iff_ne, ne_eq] at hc; obtain ⟨rfl, hb⟩ := hc; cases h
          exact OS_quo (scF_ok hx) (scF_ok hy) hb hf
        · cases h
      · rename_i hx hy
        split at h
        · rename_i hc; simp only [Bool.and_eq_true, decide_eq_true_eq, bne_iff_ne, ne_eq] at hc; obtain ⟨rfl, hb⟩ := hc; cases h
          exact OS_rem (scF_ok hx) (scF_ok hy) hb hf
        · cases h
      · rename_i hx hy
        split at h
        · rename_i hb; cases h; exact OS_shl (scF_ok hx) (scF_ok hy) hb hf
        · cases h
      · rename_i hx hy
        split at h
        · rename_i hb; cases h; exact OS_shr (scF_ok hx) (scF_ok hy) hb hf
        · cases h
      · rename_i hx hy
        split at h
        · rename_i hu; cases h; exact OS_boolEq hu (scF_ok hx) (scF_ok hy) hf
        · cases h
      · rename_i hx hy
        split at h
        · rename_i hu; cases h; exact OS_boolNe hu (scF_ok hx) (scF_ok hy) hf
        · cases h
      · cases h
    · cases h

/-- A guard that lets the step run, or none. -/
def runs (N : Nat) (ops : Array Oper) (st : St) (o : Oper) : Bool :=
  match o.guard with
  | none => true
  | some _ => match guardF N ops st o with
    | some (b, b') => b == b'
    | none => false
theorem PStep.runs {R : List Nat} (hg : runs X.N ops st o = true) (h : ∀ st2 : St, (∀ s ∈ R, st2 s = st s) → OStep X o st2 (applyP st2 ps)) : PStep X ops o st (gslot ops o ++ R) ps := by
  unfold V.runs at hg
  split at hg
  · rename_i hn
    exact fun st2 h2 => GStep.run hn (h st2 fun s hs => h2 s (by simp [hs]))
  · split at hg
    · rename_i b b' hb
      have : b = b' := by simpa using hg
      subst this
      exact PStep.on hb h
    · cases hg

/-- One more that goes by itself. -/
theorem dx (hg : runs X.N ops st o = true) (h : patchX X.P X.N X.free st o = some ps) {R' : List Nat} (hR : gslot ops o ++ readsX o = R') (hl : DL X ops l (applyP st ps) (fun fs st' => k (⟨R', ps⟩ :: fs) st')) : DL X ops (o :: l) st k := by
  subst hR
  exact DL_cons (PStep.runs hg fun st2 h2 => patchX_step (by rw [patchX_agree h2]; exact h)) hl
/-- One that goes by itself, guarded or not. -/
theorem dq (hg : runs X.N ops st o = true) (h : patchF X.P X.N X.free st o = some ps) {R' : List Nat} (hR : gslot ops o ++ readsF st o = R') (hl : DL X ops l (applyP st ps) (fun fs st' => k (⟨R', ps⟩ :: fs) st')) : DL X ops (o :: l) st k := by
  subst hR
  exact DL_cons (PStep.runs hg fun st2 h2 => patch_step (by rw [patch_agree h2]; exact h)) hl

/-- How long the thing in a slot is. -/
def lenOf (P : Program) (N : Nat) (st : St) (s : Nat) (t : TypeId) : Option Int :=
  match P.underlying t with
  | some .string => (match scF N st (.tmp s) with
    | some (.string r) => some (r.size : Int)
    | _ => none)
  | _ => (match elem? P t, rowOf st s with
    | some _, some els => some (els.length : Int)
    | _, _ => none)
theorem lenOf_agree {P : Program} {N : Nat} {st st2 : St} {s : Nat} {t : TypeId} (h : ∀ q ∈ ownSlots st s, st2 q = st q) : lenOf P N st2 s t = lenOf P N st s t := by
  have h1 : rowOf st2 s = rowOf st s := rowOf_agree h
  have h2 : scF N st2 (.tmp s) = scF N st (.tmp s) := scF_agree fun q hq => h q (by simp only [opdSlots, List.mem_singleton] at hq; subst hq; unfold ownSlots; split <;> simp)
  unfold lenOf
  rw [h1, h2]
theorem lenOf_ok {s d : Nat} {t ty : TypeId} {pos : String} {af : Array Edge} {g : Option (Nat × Bool)} {tys : Array TypeId} {n : Int} (hN : s < X.N) (ht : tys[0]? = some t) (hf : X.free d = true) (h : lenOf X.P X.N st s t = some n) :
    OStep X ⟨some d, .call { callee := .builtin .len, args := #[.tmp s], argTypes := tys }, ty, pos, af, g⟩ st (st.put d (scv (.int .i64 n))) := by
  unfold lenOf at h
  split at h
  · rename_i hu
    split at h
    · rename_i r hr
      cases h
      exact OS_len ht hu (scF_ok hr) hf
    · cases h
  · split at h
    · rename_i e els he hrow
      cases h
      unfold rowOf at hrow
      split at hrow
      · rename_i m sz els' hsv
        cases hrow
        exact OS_len_shd (e := e.1) (n := e.2) ht he ⟨hN, hsv⟩ hf
      · obtain ⟨⟨r, π, sz, els'⟩, hown, rfl⟩ := Option.map_eq_some_iff.1 hrow
        obtain ⟨h1, h2⟩ := ownOf_ok hN hown
        exact OS_len_own (e := e.1) (n := e.2) ht he h1 h2 hf
    · cases h

/-- A byte of a string. -/
def byteAt (r : ByteArray) (i : Int) : Int := ((r.data[i.toNat]?).getD 0).toNat
variable {d : Nat} {t ty : TypeId} {x y : Operand} {pos : String} {af : Array Edge} {g : Option (Nat × Bool)}
theorem dLen {s : Nat} {tys : Array TypeId} {n : Int} (hg : runs X.N ops st ⟨some d, .call { callee := .builtin .len, args := #[.tmp s], argTypes := tys }, ty, pos, af, g⟩ = true) (hN : s < X.N) (ht : tys[0]? = some t) (hf : X.free d = true) (h : lenOf X.P X.N st s t = some n)
    {R' : List Nat} (hR : gslot ops ⟨some d, .call { callee := .builtin .len, args := #[.tmp s], argTypes := tys }, ty, pos, af, g⟩ ++ ownSlots st s = R') (hl : DL X ops l (applyP st [(d, scv (.int .i64 n))]) (fun fs st' => k (⟨R', [(d, scv (.int .i64 n))]⟩ :: fs) st')) : DL X ops (⟨some d, .call { callee := .builtin .len, args := #[.tmp s], argTypes := tys }, ty, pos, af, g⟩ :: l) st k := by
  subst hR
  exact DL_cons (PStep.runs hg fun st2 h2 => lenOf_ok hN ht hf (by rw [lenOf_agree h2]; exact h)) hl

theorem dIdx {r : ByteArray} {i : Int} {kx : IntKind} (hg : runs X.N ops st ⟨some d, .index t x y, ty, pos, af, g⟩ = true) (hu : X.P.underlying t = some .string) (hf : X.free d = true) (hx : scF X.N st x = some (.string r)) (hy : scF X.N st y = some (.int kx i)) (hb : 0 ≤ i ∧ i < r.size)
    {R' : List Nat} (hR : gslot ops ⟨some d, .index t x y, ty, pos, af, g⟩ ++ (opdSlots x ++ opdSlots y) = R') (hl : DL X ops l (applyP st [(d, scv (.int .u8 (byteAt r i)))]) (fun fs st' => k (⟨R', [(d, scv (.int .u8 (byteAt r i)))]⟩ :: fs) st')) : DL X ops (⟨some d, .index t x y, ty, pos, af, g⟩ :: l) st k := by
  subst hR
  refine DL_cons (PStep.runs hg fun st2 h2 => ?_) hl
  have h1 := OS_index (X := X) (st := st2) (ty := ty) (pos := pos) (af := af) (g := g) hu (scF_ok (by rw [scF_agree (x := x) fun s hs => h2 s (by simp [hs])]; exact hx)) (scF_ok (by rw [scF_agree (x := y) fun s hs => h2 s (by simp [hs])]; exact hy)) hb.1 hb.2 hf
  have hlt : i.toNat < r.data.size := by have := hb.2; have h3 : r.size = r.data.size := rfl; omega
  have : byteAt r i = ((r[i.toNat]'(by have := hb.2; omega)).toNat : Int) := by
    unfold byteAt
    rw [Array.getElem?_eq_getElem hlt]; rfl
  rw [this]; exact h1

/-- The place of a row's element. -/
theorem dIxA {e : TypeId} {sz : Nat} {els : List (List T)} {kx : IntKind} {i : Int} {r : List T} (hg : runs X.N ops st ⟨some d, .indexAddr t x y, ty, pos, af, g⟩ = true) (he : elem? X.P t = some (e, sz)) (hf : X.free d = true) (hx : opdF X.N st x = some (one (.sl false sz els))) (hy : scF X.N st y = some (.int kx i)) (hb : 0 ≤ i ∧ els[i.toNat]? = some r)
    {R' : List Nat} (hR : gslot ops ⟨some d, .indexAddr t x y, ty, pos, af, g⟩ ++ (opdSlots x ++ opdSlots y) = R') (hl : DL X ops l (applyP st [(d, one (.ptr r))]) (fun fs st' => k (⟨R', [(d, one (.ptr r))]⟩ :: fs) st')) : DL X ops (⟨some d, .indexAddr t x y, ty, pos, af, g⟩ :: l) st k := by
  subst hR
  refine DL_cons (PStep.runs hg fun st2 h2 => ?_) hl
  exact OS_indexAddr_shd (opdF_ok (by rw [opdF_agree (x := x) fun s hs => h2 s (by simp [hs])]; exact hx)) (scF_ok (by rw [scF_agree (x := y) fun s hs => h2 s (by simp [hs])]; exact hy)) he hb.1 hb.2 hf

/-- Two strings one after the other. -/
theorem dCat {r s : ByteArray} {t' : TypeId} (hg : runs X.N ops st ⟨some d, .binOp .add t x y t', ty, pos, af, g⟩ = true) (hf : X.free d = true) (hx : scF X.N st x = some (.string r)) (hy : scF X.N st y = some (.string s)) (hb : r.size + s.size ≤ 9223372036854775807)
    {R' : List Nat} (hR : gslot ops ⟨some d, .binOp .add t x y t', ty, pos, af, g⟩ ++ (opdSlots x ++ opdSlots y) = R') (hl : DL X ops l (applyP st [(d, scv (.string (r ++ s)))]) (fun fs st' => k (⟨R', [(d, scv (.string (r ++ s)))]⟩ :: fs) st')) : DL X ops (⟨some d, .binOp .add t x y t', ty, pos, af, g⟩ :: l) st k := by
  subst hR
  refine DL_cons (PStep.runs hg fun st2 h2 => ?_) hl
  exact OS_cat (scF_ok (by rw [scF_agree (x := x) fun s hs => h2 s (by simp [hs])]; exact hx)) (scF_ok (by rw [scF_agree (x := y) fun s hs => h2 s (by simp [hs])]; exact hy)) hb hf

/-- A test's slot, its value known now. -/
def St.fix (st : St) (d : Nat) (x : SV) : St := fun s => if s = d then ⟨(st d).ver, x⟩ else st s
theorem fix_same {d : Nat} {x : SV} (h : (st d).sv = x) : st.fix d x = st := by
  funext s
  unfold St.fix
  split
  · rename_i hs; subst hs; subst h; rfl
  · rfl
theorem dS (d : Nat) {b : Bool} (h : (st d).sv = scv (.bool b)) (h1 : b = true → DL X ops l (st.fix d (scv (.bool true))) k) (h2 : b = false → DL X ops l (st.fix d (scv (.bool false))) k) : DL X ops l st k := by
  cases hb : b
  · have := h2 hb; rwa [fix_same (by rw [h, hb])] at this
  · have := h1 hb; rwa [fix_same (by rw [h, hb])] at this
/-- The step is passed by. -/
theorem dO {b : Bool} {e : Nat} (hg : guardF X.N ops st o = some (b, !b)) (he : o.dst = some e) (hf : X.free e = true) {R' : List Nat} (hR : gslot ops o = R') (hl : DL X ops l (applyP st [(e, .dead)]) (fun fs st' => k (⟨R', [(e, .dead)]⟩ :: fs) st')) : DL X ops (o :: l) st k := by
  subst hR
  exact do_ hg he hf hl
theorem dOn {b : Bool} (hg : guardF X.N ops st o = some (b, !b)) (he : o.dst = none) {R' : List Nat} (hR : gslot ops o = R') (hl : DL X ops l (applyP st []) (fun fs st' => k (⟨R', []⟩ :: fs) st')) : DL X ops (o :: l) st k := by
  subst hR
  exact don hg he hl

/-- A call, by its contract; of rows that are lent, or of none. -/
theorem dCall {args : List Arg} {res : List (Bool × List T)} {fin : List (Option Arg)} {xs : List Operand} {f : Operand} {tys : Array TypeId} {lt : List (Nat × Path)} {cp : List T} {fn : Func} {gn : FuncId} (R : List Nat) (hV : VC X.P gn args res fin) (hfn : X.P.funcs[gn]? = some fn) (hname : (fn.name == "runtime.NumGoroutine") = false) (hbody : fn.body.isNone = false)
    (hg : runs X.N ops st ⟨some d, .call { callee := .value f, args := xs.toArray, argTypes := tys }, ty, pos, af, g⟩ = true) (hfr : X.free d = true)
    (hdeep : lt = [] ∨ (∀ p ∈ res, deepl p.2 = true) ∧ fin = []) (hfin : fin = [] ∨ ∀ (i : Nat) ar, fin[i]? ≠ some (some ar))
    (hargs : ∀ st2 : St, (∀ s ∈ R, st2 s = st s) → Opd X.N st2 f (one (.fn gn cp)) ∧ CallArgs X st2 lt [] xs cp args)
    {R' : List Nat} (hR : gslot ops ⟨some d, .call { callee := .value f, args := xs.toArray, argTypes := tys }, ty, pos, af, g⟩ ++ R = R') (hl : DL X ops l (applyP st [(d, resSV res)]) (fun fs st' => k (⟨R', [(d, resSV res)]⟩ :: fs) st')) :
    DL X ops (⟨some d, .call { callee := .value f, args := xs.toArray, argTypes := tys }, ty, pos, af, g⟩ :: l) st k := by
  subst hR
  refine DL_cons (PStep.runs hg fun st2 h2 => ?_) hl
  obtain ⟨h3, h4⟩ := hargs st2 h2
  exact OS_call hV hfn hname hbody h3 h4 hdeep hfin hfr
end

/-- An element of a list, if there is one. -/
def getI {α : Type} (xs : List α) (i : Int) : Option α := if 0 ≤ i then xs[i.toNat]? else none
theorem getI_map {α : Type} {xs : List α} {i : Int} {x : α} (c : α → List T) (h : getI xs i = some x) : 0 ≤ i ∧ (xs.map c)[i.toNat]? = some (c x) := by
  unfold getI at h
  split at h
  · rename_i h0; exact ⟨h0, by rw [List.getElem?_map, h]; rfl⟩
  · cases h
end Go.V
namespace Go.V
open Go Go.RowKit

/-- The state holds what the list says. -/
def Fits (st : St) (l : List (Nat × SV)) : Prop := ∀ p ∈ l, (st p.1).sv = p.2 ∧ p.2.plain = true
theorem fN {st : St} : Fits st [] := fun _ h => by cases h
theorem fC {st : St} {s : Nat} {x : SV} {l : List (Nat × SV)} (h : (st s).sv = x) (hp : x.plain = true) (hl : Fits st l) : Fits st ((s, x) :: l) := fun p hp' => by
  rcases List.mem_cons.1 hp' with rfl | h'
  · exact ⟨h, hp⟩
  · exact hl p h'
theorem W_fits {X : Cx} {c : Code} {st : St} {l : List (Nat × SV)} {Q : Exit → St → Prop} (h : Fits st l) (hw : W X c (ofL l) Q) : W X c st Q := W_forget h hw
theorem Fits.at {st : St} {s : Nat} {x : SV} {l : List (Nat × SV)} (h : Fits st l) (hm : (ofL l s).sv = x) (hd : (l.find? fun p => p.1 == s).isSome = true) : (st s).sv = x := by
  unfold ofL at hm
  cases hf : l.find? (fun p => p.1 == s) with
  | none => rw [hf] at hd; cases hd
  | some p =>
    rw [hf] at hm
    have h1 := h p (List.mem_of_find?_eq_some hf)
    have h2 : p.1 = s := by have := List.find?_some hf; simpa using this
    rw [← h2, h1.1]; exact hm

/-- What a part of a body comes to: on to the next, out of a block, or back to the caller. -/
inductive Out (α β : Type) where
  | go (a : α)
  | brk (n : Nat) (a : α)
  | ret (b : β)

def pI (k : IntKind) (x : Int) : SV := .val false [.t (.sc (.int k x))]
def pB (x : Bool) : SV := .val false [.t (.sc (.bool x))]
def pS (x : ByteArray) : SV := .val false [.t (.sc (.string x))]
def cS (_ : Bool) (x : ByteArray) : List T := [.sc (.string x)]
def cI (k : IntKind) (_ : Bool) (x : Int) : List T := [.sc (.int k x)]
def cB (_ : Bool) (x : Bool) : List T := [.sc (.bool x)]

theorem shrs_map {α : Type} {f g : α → List T} (h : ∀ x, shrl (f x) = g x) : ∀ xs : List α, shrs (xs.map f) = xs.map g
  | [] => rfl
  | x :: xs => by simp only [List.map_cons, shrs, h x, shrs_map h xs]
theorem wholes_map {α : Type} {f : α → List T} (h : ∀ x, wholel (f x) = true) : ∀ xs : List α, wholes (xs.map f) = true
  | [] => rfl
  | x :: xs => by simp only [List.map_cons, wholes, h x, wholes_map h xs, Bool.and_self]
theorem deeps_map {α : Type} {f : α → List T} (h : ∀ x, deepl (f x) = true) : ∀ xs : List α, deeps (xs.map f) = true
  | [] => rfl
  | x :: xs => by simp only [List.map_cons, deeps, h x, deeps_map h xs, Bool.and_self]

theorem freeAll {ts : List T} (h : ts.all T.free = true) : ∀ t ∈ ts, t.free = true := List.all_eq_true.1 h

/-! ### arguments, one after the other -/
section
variable {X : Cx} {st st' : St} {lt : List (Nat × Path)} {m : List ME}
inductive ArgsOf (X : Cx) (st : St) (lt : List (Nat × Path)) (m : List ME) : Nat → List Operand → List Arg → Prop
  | nil {i} : ArgsOf X st lt m i [] []
  | cons {i x a xs as} (h : ArgOf X st lt m i x a) (hl : ArgsOf X st lt m (i + 1) xs as) : ArgsOf X st lt m i (x :: xs) (a :: as)
theorem ArgsOf.len {i : Nat} {xs : List Operand} {as : List Arg} (h : ArgsOf X st lt m i xs as) : as.length = xs.length := by
  induction h with
  | nil => rfl
  | cons _ _ ih => simp [ih]
theorem ArgsOf.get {i : Nat} {xs : List Operand} {as : List Arg} (h : ArgsOf X st lt m i xs as) : ∀ (j : Nat) x a, xs[j]? = some x → as[j]? = some a → ArgOf X st lt m (i + j) x a := by
  induction h with
  | nil => intro j x a h; simp at h
  | cons h0 _ ih =>
    intro j x a hx ha
    cases j with
    | zero => simp at hx ha; subst hx; subst ha; exact h0
    | succ j => have := ih j x a (by simpa using hx) (by simpa using ha); rwa [Nat.add_right_comm, Nat.add_assoc] at this
theorem args_of {xs : List Operand} {as : List Arg} {cp : List T} (h : ArgsOf X st lt m 0 xs as) : CallArgs X st lt m xs cp (as ++ cp.map fun y => .sh false [y]) := by
  refine ⟨by simp [h.len], fun i x ar hx ha => ?_, fun j y ar hy ha => ?_⟩
  · have hi : i < as.length := by rw [h.len]; exact (List.getElem?_eq_some_iff.1 hx).1
    rw [List.getElem?_append_left hi] at ha
    simpa using h.get i x ar hx ha
  · rw [← h.len, List.getElem?_append_right (by omega)] at ha
    simp only [Nat.add_sub_cancel_left, List.getElem?_map, hy, Option.map_some, Option.some.injEq] at ha
    exact ha.symm

theorem args_of0 {xs : List Operand} {as : List Arg} (h : ArgsOf X st lt m 0 xs as) : CallArgs X st lt m xs [] as := by simpa using args_of (cp := []) h
theorem W_yes {c : Operand} {x y : Code} {Q : Exit → St → Prop} (hc : Opd X.N st c (scv (.bool true))) (h : W X x st Q) : W X (.cond c x y) st Q := W_cond hc h
theorem W_no {c : Operand} {x y : Code} {Q : Exit → St → Prop} (hc : Opd X.N st c (scv (.bool false))) (h : W X y st Q) : W X (.cond c x y) st Q := W_cond hc h
def codeAt : Code → List Nat → Code
  | c, [] => c
  | .seq x y, i :: p => if i = 0 then codeAt x p else codeAt y p
  | .cond _ x y, i :: p => if i = 0 then codeAt x p else codeAt y p
  | .block _ c, _ :: p => codeAt c p
  | .loop c, _ :: p => codeAt c p
  | c, _ => c
def bodyAt (f : Func) (p : List Nat) : Code := codeAt (f.body.getD .skip) p

inductive CellsArg (st : St) (lt : List (Nat × Path)) (s : Nat) : Nat → List Cell → List T → Prop
  | nil {j} : CellsArg st lt s j [] []
  | cons {j c y cs ys} (h : CellArg st lt s j c y) (hl : CellsArg st lt s (j + 1) cs ys) : CellsArg st lt s j (c :: cs) (y :: ys)
theorem CellsArg.get {s j : Nat} {cs : List Cell} {ys : List T} (h : CellsArg st lt s j cs ys) : cs.length = ys.length ∧ ∀ (i : Nat) c y, cs[i]? = some c → ys[i]? = some y → CellArg st lt s (j + i) c y := by
  induction h with
  | nil => exact ⟨rfl, fun i c y h => by simp at h⟩
  | cons h0 _ ih =>
    refine ⟨by simp [ih.1], fun i c y hc hy => ?_⟩
    cases i with
    | zero => simp at hc hy; subst hc; subst hy; exact h0
    | succ i => have := ih.2 i c y (by simpa using hc) (by simpa using hy); rwa [Nat.add_right_comm, Nat.add_assoc] at this
theorem cA_own {s j sz : Nat} {els els' : List (List T)} (hw : wholes els = true) (hs : shrs els = els') (hL : (s, [(0, j)]) ∈ lt) : CellArg st lt s j (.t (.sl true sz els)) (.sl false sz els') := by
  have := CellArg.own (st := st) (l := lt) (s := s) (j := j) (y := .sl true sz els) hw hL
  rwa [T.shr, hs] at this
theorem cA_ref {s j r k sz : Nat} {π : Path} {els els' : List (List T)} (hk : (st r).ver = k) (hy : st.at_ r π = some (.sl true sz els)) (hw : wholes els = true) (hs : shrs els = els') (hL : (r, π) ∈ lt) : CellArg st lt s j (.ref r k π) (.sl false sz els') := by
  have := CellArg.ref (s := s) (j := j) hk hy (show T.whole (.sl true sz els) = true from hw) hL
  rwa [T.shr, hs] at this
theorem aA {i s : Nat} {ag : Bool} {cs : List Cell} {ts : List T} (hN : s < X.N) (h : (st s).sv = .val ag cs) (hc : CellsArg st lt s 0 cs ts) : ArgOf X st lt m i (.tmp s) (.sh ag ts) :=
  .cells hN h hc.get.1 fun j c y h1 h2 => by simpa using hc.get.2 j c y h1 h2
theorem aF {i s : Nat} {ag : Bool} {ts : List T} (hN : s < X.N) (h : (st s).sv = .val ag (ts.map .t)) (hf : ts.all T.free = true) : ArgOf X st lt m i (.tmp s) (.sh ag ts) := .free ⟨hN, h⟩ (freeAll hf)
theorem aC {i : Nat} {v : Value} (h : scal v = true) : ArgOf X st lt m i (.const v) (.sh false [.sc v]) := .free (.inl ⟨h, rfl⟩) fun t ht => by simp at ht; subst ht; rfl
theorem aN {i sz : Nat} : ArgOf X st lt m i (.const (.slice none 0 0)) (.sh false [.sl false sz []]) := .free (.inr ⟨rfl, false, sz, rfl⟩) fun t ht => by simp at ht; subst ht; rfl
/-- A struct of the caller's, by its address, to be read. -/
theorem aP {i s r : Nat} {π : Path} {i' j n : Nat} {cs ys : List T} (hN : s < X.N) (h : (st s).sv = .addr r (st r).ver π i' j) (hc : st.cells r π i' j = some cs) (hn : cs.length = n) (hw : wholel cs = true) (hs : shrl cs = ys) (hL : (r, π) ∈ lt) : ArgOf X st lt m i (.tmp s) (.sh false [.ptr ys]) := by
  have hm : ∀ {l : List T}, wholel l = true → ∀ y ∈ l, y.whole = true := fun {l} => by
    induction l with
    | nil => intro _ y hy; cases hy
    | cons a l ih => intro h y hy; simp only [wholel, Bool.and_eq_true] at h; rcases List.mem_cons.1 hy with rfl | hy; exact h.1; exact ih h.2 y hy
  have hsm : ∀ l : List T, shrl l = l.map T.shr := fun l => by
    induction l with
    | nil => rfl
    | cons a l ih => simp [shrl, ih]
  have := ArgOf.ptr (X := X) (m := m) (i := i) (n := n) hN h hc (fun y hy => hm hw y (List.mem_of_mem_take hy)) hL
  rwa [List.take_of_length_le (by omega), ← hsm, hs] at this

theorem aB {i s n : Nat} {cs ys : List T} (hN : s < X.N) (h : (st s).sv = .box cs) (hn : cs.length = n) (hw : wholel cs = true) (hs : shrl cs = ys) (hL : (s, []) ∈ lt) : ArgOf X st lt m i (.tmp s) (.sh false [.ptr ys]) := by
  have hm : ∀ {l : List T}, wholel l = true → ∀ y ∈ l, y.whole = true := fun {l} => by
    induction l with
    | nil => intro _ y hy; cases hy
    | cons a l ih => intro h y hy; simp only [wholel, Bool.and_eq_true] at h; rcases List.mem_cons.1 hy with rfl | hy; exact h.1; exact ih h.2 y hy
  have hsm : ∀ l : List T, shrl l = l.map T.shr := fun l => by
    induction l with
    | nil => rfl
    | cons a l ih => simp [shrl, ih]
  have := ArgOf.bx (X := X) (m := m) (i := i) (n := n) hN h (fun y hy => hm hw y (List.mem_of_mem_take hy)) hL
  rwa [List.take_of_length_le (by omega), ← hsm, hs] at this

variable {o : Oper} {ops : Array Oper} {l : List Oper} {k : List Foot → St → Prop} {ps : List (Nat × SV)} {d : Nat} {t ty : TypeId} {x y : Operand} {pos : String} {af : Array Edge} {g : Option (Nat × Bool)}
theorem kill_one (st : St) (s : Nat) : st.kill [s] = st.put s .dead := by
  funext q
  simp only [St.kill, St.put, List.mem_singleton]
  split
  · rename_i h; subst h; rfl
  · rfl
/-- A box laid around cells that nobody owns. -/
theorem dBox {ag : Bool} {ts : List T} (hg : runs X.N ops st ⟨some d, .box t x, ty, pos, af, g⟩ = true) (hf : X.free d = true) (hx : opdF X.N st x = some (.val ag (ts.map .t))) (hfr : ts.all T.free = true)
    {R' : List Nat} (hR : gslot ops ⟨some d, .box t x, ty, pos, af, g⟩ ++ opdSlots x = R') (hl : DL X ops l (applyP st [(d, .box ts)]) (fun fs st' => k (⟨R', [(d, .box ts)]⟩ :: fs) st')) : DL X ops (⟨some d, .box t x, ty, pos, af, g⟩ :: l) st k := by
  subst hR
  refine DL_cons (PStep.runs hg fun st2 h2 => ?_) hl
  have h1 := OS_box (X := X) (st := st2) (C := []) (mp := fun _ _ => none) (d := d) (t := t) (ty := ty) (pos := pos) (af := af) (g := g) (fun s j π h => by cases h) (by simp) (.free (opdF_ok (by rw [opdF_agree (x := x) fun s hs => h2 s hs]; exact hx)) (freeAll hfr))
    (fun _ y hy => by have := freeAll hfr y hy; cases y <;> first | rfl | cases this) hf
  rw [kill_nil] at h1
  exact h1
/-- A box laid around what a slot owns. -/
theorem dBoxOwn {ag : Bool} {ts : List T} {s : Nat} (hg : runs X.N ops st ⟨some d, .box t (.tmp s), ty, pos, af, g⟩ = true) (hf : X.free d = true) (hN : s < X.N) (hd : (d == s) = false) (hx : (st s).sv = .val ag (ts.map .t)) (hh : ts.all T.here = true)
    {R' : List Nat} (hR : gslot ops ⟨some d, .box t (.tmp s), ty, pos, af, g⟩ ++ [s] = R') (hl : DL X ops l (applyP st [(s, .dead), (d, .box ts)]) (fun fs st' => k (⟨R', [(s, .dead), (d, .box ts)]⟩ :: fs) st')) : DL X ops (⟨some d, .box t (.tmp s), ty, pos, af, g⟩ :: l) st k := by
  subst hR
  refine DL_cons (PStep.runs hg fun st2 h2 => ?_) hl
  have h1 := OS_box (X := X) (st := st2) (C := [s]) (mp := fun q j => if q = s then some [(0, j)] else none) (d := d) (t := t) (ty := ty) (pos := pos) (af := af) (g := g) (fun q j π h => by simp only [Option.ite_none_right_eq_some] at h; simp [h.1]) (by simpa using hd) (.own hN (by simp) (by rw [h2 s (by simp)]; exact hx) fun j _ => by simp)
    (fun _ => List.all_eq_true.1 hh) hf
  rw [kill_one] at h1
  exact h1
theorem dExt {s i : Nat} {ag : Bool} {ts : List T} {vs : List (Bool × List Cell)} (hg : runs X.N ops st ⟨some d, .extract (.tmp s) i, ty, pos, af, g⟩ = true) (hf : X.free d = true) (hN : s < X.N) (hsv : (st s).sv = .tup vs) (hi : vs[i]? = some (ag, ts.map .t)) (hfr : ts.all T.free = true)
    {R' : List Nat} (hR : gslot ops ⟨some d, .extract (.tmp s) i, ty, pos, af, g⟩ ++ [s] = R') (hl : DL X ops l (applyP st [(d, .val ag (ts.map .t))]) (fun fs st' => k (⟨R', [(d, .val ag (ts.map .t))]⟩ :: fs) st')) : DL X ops (⟨some d, .extract (.tmp s) i, ty, pos, af, g⟩ :: l) st k := by
  subst hR
  refine DL_cons (PStep.runs hg fun st2 h2 => ?_) hl
  exact OS_extract hN (by rw [h2 s (by simp)]; exact hsv) hi (freeAll hfr) hf
theorem dExtOwn {s i : Nat} {ag : Bool} {ts : List T} {vs : List (Bool × List Cell)} (hg : runs X.N ops st ⟨some d, .extract (.tmp s) i, ty, pos, af, g⟩ = true) (hf : X.free d = true) (hfs : X.free s = true) (hN : s < X.N) (hd : (d == s) = false) (hsv : (st s).sv = .tup vs) (hi : vs[i]? = some (ag, ts.map .t))
    {R' : List Nat} (hR : gslot ops ⟨some d, .extract (.tmp s) i, ty, pos, af, g⟩ ++ [s] = R') (hl : DL X ops l (applyP st [(s, .tup (goneComp vs i)), (d, .val ag (ts.map .t))]) (fun fs st' => k (⟨R', [(s, .tup (goneComp vs i)), (d, .val ag (ts.map .t))]⟩ :: fs) st')) : DL X ops (⟨some d, .extract (.tmp s) i, ty, pos, af, g⟩ :: l) st k := by
  subst hR
  refine DL_cons (PStep.runs hg fun st2 h2 => ?_) hl
  exact OS_extract_own hN (fun h => by simp [h] at hd) (by rw [h2 s (by simp)]; exact hsv) hi hf hfs
end
end Go.V
namespace Go.V
open Go Go.RowKit
section
variable {X : Cx} {st st' : St} {a : Act} {w : World} {G : Nat → Own} {vals : Nat → Value} {d : Nat} {t ty : TypeId} {x y : Operand} {pos : String} {af : Array Edge} {g : Option (Nat × Bool)} {C : List Nat} {mp : Nat → Nat → Option Path}

theorem OS_fieldAddr_bx {s f off n : Nat} {ag : Bool} {cs : List T} (hN : s < X.N) (hsv : (st s).sv = .box cs) (hs : s ≠ d) (hfd : field? X.P t f = some (off, n, ag)) (hn : n ≠ 0) (hf : X.free d = true) :
    OStep X ⟨some d, .fieldAddr t (.tmp s) f, ty, pos, af, g⟩ st (st.put d (.addr s (st s).ver [] 0 off)) := by
  refine OStep.value rfl hf fun a w G vals hA => ?_
  have he : a.eval (.tmp s) = vals s := hA.link s hN
  have h0 := hA.inv.slots s
  rw [hsv] at h0
  obtain ⟨b, arr, ty', h4, h6, h7, h8, h9⟩ := h0
  refine ⟨.pointer (some ⟨b, 0 + off, none⟩), ?_, ?_⟩
  · simp only [execOp, he, h4]
    exact run_value (fieldAt_run hfd hn)
  · rw [Nat.zero_add]
    exact ⟨by rw [put_ne _ _ hs]; exact Nat.le_refl _, fun _ => ⟨rfl, b, by rw [put_ne _ _ hs, hsv]; rfl, by rw [upd_ne _ _ hs]; exact h4, rfl⟩⟩

theorem OS_load_bx {n s r i j : Nat} {ag : Bool} {π : Path} {cs : List T} (hN : s < X.N) (hsr : s = r) (hπ : π = []) (hi : i = 0) (hj : j = 0) (hsv : (st r).sv = .box cs) (hr : r ≠ d) (hs : cells? X.P t = some n) (hg : isAgg? X.P t = some ag) (h1 : ag = false → n = 1)
    (hn : n ≤ cs.length) (hf : X.free d = true) : OStep X ⟨some d, .load t (.tmp s), ty, pos, af, g⟩ st (st.put d (.val ag (cellOf r (st r).ver π i j (cs.take n)))) := by
  refine OStep.value rfl hf fun a w G vals hA => ?_
  have he : a.eval (.tmp s) = vals s := hA.link s hN
  obtain ⟨b, o, hv, -, hall⟩ := addr_cells_bx hA hsr hπ hi hj hsv
  let us := (List.range n).map fun m => (w.cell? ⟨b, o + m, none⟩).getD default
  have hget : ∀ j, j < n → ∃ y, cs[j]? = some y := fun j hj => ⟨cs[j]'(by omega), List.getElem?_eq_getElem _⟩
  have hcell : ∀ (m : Nat) u, us[m]? = some u → m < n ∧ w.cell? ⟨b, o + m, none⟩ = some u := by
    intro m u hm
    simp only [us, List.getElem?_map] at hm
    obtain ⟨i', hi', rfl⟩ := Option.map_eq_some_iff.1 hm
    have hlt := (List.getElem?_eq_some_iff.1 hi').1
    simp only [List.length_range] at hlt
    rw [List.getElem?_range hlt] at hi'
    cases hi'
    obtain ⟨y, hy⟩ := hget _ hlt
    obtain ⟨u, hu, -⟩ := hall _ y hy
    exact ⟨hlt, by rw [hu]; rfl⟩
  obtain ⟨v, hrun, hp⟩ := loadVar_run (b := b) (o := o) (w := w) (P := X.P) hs hg h1 us (by simp [us]) (fun m u hm => (hcell m u hm).2)
  refine ⟨v, ?_, us, hp, by rw [cellOf_len]; simp [us]; omega, fun m c u hcm hum => ?_⟩
  · simp only [execOp, he, hv]
    exact run_value hrun
  · obtain ⟨hlt, hcu⟩ := hcell m u hum
    rw [cellOf_get] at hcm
    obtain ⟨y, hy, rfl⟩ := Option.map_eq_some_iff.1 hcm
    rw [List.getElem?_take, if_pos hlt] at hy
    obtain ⟨u', hu', hrep, hpl⟩ := hall m y hy
    rw [hcu] at hu'
    cases hu'
    have key : y.free = true → CellRep G w (st.put d (.val ag (cellOf r (st r).ver π i j (cs.take n)))) (upd vals d v) d 0 m u (.t y) := fun hfr => hrep.free hfr (fun b h => ⟨h, rfl⟩)
    cases y with
    | sl mm sz els =>
      cases mm with
      | false => exact key rfl
      | true => exact ⟨by rw [put_ne _ _ hr]; exact Nat.le_refl _, fun _ => ⟨sz, els, by rw [place_put hA hr]; exact hpl⟩⟩
    | gone => exact .gone
    | sc => exact key rfl
    | ptr => exact key rfl
    | fn => exact key rfl

theorem OS_store_bx {s r j : Nat} {ag : Bool} {ts cs : List T} (hN : s < X.N) (hsr : s = r) (hj : j = 0) (hr : (st r).sv = .box cs) (hs : cells? X.P t = some ts.length) (hle : j + ts.length ≤ cs.length)
    (hC : Within C mp) (hrC : r ∉ C) (hx : Gives X st C mp (fun m => [(0, j + m)]) x ag ts) (h1 : ∀ y ∈ ts, y.here = true) :
    OStep X ⟨none, .store t (.tmp s) x, ty, pos, af, g⟩ st ((st.kill C).put r (.box (over cs j ts))) := by
  rintro a w next Qx ⟨G, vals, hA⟩ hn
  have he : a.eval (.tmp s) = vals s := hA.link s hN
  have hrr := hA.inv.slots r
  rw [hr] at hrr
  obtain ⟨b, arr, ty', h3, h6, h7, h8, h9⟩ := hrr
  have h4 : vals s = .pointer (some ⟨b, j, none⟩) := by rw [hsr, hj]; exact h3
  have hlt : ∀ b, G b ≠ .outer → b < w.heap.size := fun b h => Nat.lt_of_not_le fun hle => h (hA.inv.alloc b hle)
  obtain ⟨hl0, hone, -⟩ := gives_list (r := r) (G' := renameC G r mp) (w' := w) hA hx h1 (fun b h => ⟨by simp [renameC, h], rfl⟩) (fun b s j π ρ h hm => ⟨by simp [renameC, h, hm], rfl⟩)
  let new := (over arr.toList j (a.eval x).cells.toList).toArray
  have run : (execOp a.eval ⟨none, .store t (.tmp s) x, ty, pos, af, g⟩).run X.P w = .ok .skip (w.setRow b new) := by
    simp only [execOp, he, h4]
    rw [Sem.run_bind, storeAt_run (b := b) (o := j) (arr := arr) (e := ty') hs h7 (by simpa using hl0) (by rw [h8]; exact hle) hone]
    rfl
  unfold Oper.wp
  rw [run, Oper.upon_skip]
  have hother : ∀ b', b' ≠ b → (w.setRow b new).heap[b']? = w.heap[b']? := fun b' h => setRow_other w b b' new h
  have hp : ∀ b', G b' = .pers → renameC G r mp b' = .pers ∧ (w.setRow b new).heap[b']? = w.heap[b']? := fun b' h => ⟨by simp [renameC, h], hother b' (by rintro rfl; rw [h6] at h; cases h)⟩
  have hmv : ∀ b' s j π ρ, G b' = .at_ s ((0, j) :: ρ) → mp s j = some π → renameC G r mp b' = .at_ r (π ++ ρ) ∧ (w.setRow b new).heap[b']? = w.heap[b']? := fun b' s j π ρ h hm => ⟨by simp [renameC, h, hm], hother b' (by rintro rfl; rw [h6] at h; cases h)⟩
  have hst : ∀ q, ¬ (q = r ∨ q ∈ C) → ((st.kill C).put r (.box (over cs j ts))) q = st q := fun q h => by simp only [not_or] at h; rw [put_ne _ _ h.1, kill_not _ h.2]
  have hver : ∀ q, (q = r ∨ q ∈ C) → (st q).ver < (((st.kill C).put r (.box (over cs j ts))) q).ver := by
    intro q h
    by_cases hq : q = r
    · subst hq; rw [put_same, kill_not _ hrC]; simp
    · rw [put_ne _ _ hq, kill_mem _ (h.resolve_left hq)]; simp
  refine hn _ _ ⟨renameC G r mp, vals, hA.step (K := fun q => q = r ∨ q ∈ C) hst (fun _ _ => rfl) hver ?_ ?_ ?_ (fun b' hb => renameC_outer hA (by simpa using hb)) hA.inv.pin (by simp) rfl rfl rfl hA.defers hA.size hA.link⟩
  · rintro b' (h | ⟨h, hb⟩)
    · have := hp b' h; exact ⟨by rw [this.1, h], this.2⟩
    · exact ⟨by simp [renameC, h], hother b' (by rintro rfl; rw [h6] at h; cases h)⟩
  · intro b' q ρ h hq
    simp only [not_or] at hq
    refine ⟨?_, hother b' (by rintro rfl; rw [h6] at h; cases h; exact hq.1 rfl)⟩
    rcases ρ with _ | ⟨⟨k, j'⟩, ρ⟩
    · simp [renameC, h]
    · cases k with
      | zero =>
        simp only [renameC, h]
        cases hm : mp q j' with
        | none => rfl
        | some π => exact absurd (hC q j' π hm) hq.2
      | succ k => simp [renameC, h]
  · intro hp' q hq
    by_cases hqr : q = r
    · subst hqr
      rw [put_same]
      obtain ⟨-, -, hrep⟩ := gives_list (r := q) hA hx h1 hp hmv
      refine ⟨b, new, ty', h3, by simp [renameC, h6], setRow_heap w b arr new ty' (0, 0) h7, ?_, fun m tm u hm hu => ?_⟩
      · have h10 : (over arr.toList j (a.eval x).cells.toList).length = arr.size := by rw [over_len (by rw [hl0]; simp; omega)]; simp
        simp only [new, List.size_toArray, h10, over_len hle, h8]
      · simp only [new, List.getElem?_toArray] at hu
        rw [over_get (by rw [hl0]; simp; omega)] at hu
        rw [over_get hle] at hm
        rw [hl0] at hu
        by_cases hin : j ≤ m ∧ m < j + ts.length
        · rw [if_pos hin] at hm hu
          have := hrep _ _ _ hu hm
          rwa [show j + (m - j) = m by omega] at this
        · rw [if_neg hin] at hm hu
          refine (h9 m tm u hm (by simpa using hu)).move hp fun b' ρ hb => ⟨?_, hother b' (by rintro rfl; rw [h6] at hb; simp at hb)⟩
          simp only [renameC, hb, List.singleton_append]
          cases hm' : mp q m with
          | none => rfl
          | some π => exact absurd (hC q m π hm') hrC
    · rw [put_ne _ _ hqr, kill_mem _ (hq.resolve_left hqr)]; trivial


variable {o : Oper} {ops : Array Oper} {l : List Oper} {k : List Foot → St → Prop} {ps : List (Nat × SV)}
theorem dFaB {s f off n : Nat} {ag : Bool} {cs : List T} (hg : runs X.N ops st ⟨some d, .fieldAddr t (.tmp s) f, ty, pos, af, g⟩ = true) (hf : X.free d = true) (hN : s < X.N) (hsv : (st s).sv = .box cs) (hs : (s == d) = false) (hfd : field? X.P t f = some (off, n, ag)) (hn : Nat.ble 1 n = true) {v : Nat} (hv : (st s).ver = v)
    {R' : List Nat} (hR : gslot ops ⟨some d, .fieldAddr t (.tmp s) f, ty, pos, af, g⟩ ++ [s] = R') (hl : DL X ops l (applyP st [(d, .addr s v [] 0 off)]) (fun fs st' => k (⟨R', [(d, .addr s v [] 0 off)]⟩ :: fs) st')) : DL X ops (⟨some d, .fieldAddr t (.tmp s) f, ty, pos, af, g⟩ :: l) st k := by
  subst hR
  refine DL_cons (PStep.runs hg fun st2 h2 => ?_) hl
  have h3 := h2 s (by simp)
  have := OS_fieldAddr_bx (X := X) (st := st2) (ty := ty) (pos := pos) (af := af) (g := g) hN (by rw [h3]; exact hsv) (by simpa using hs) hfd (by have := Nat.le_of_ble_eq_true hn; omega) hf
  rw [h3, hv] at this
  exact this
theorem dLdB {s n : Nat} {ag : Bool} {cs : List T} {sv : SV} (hg : runs X.N ops st ⟨some d, .load t (.tmp s), ty, pos, af, g⟩ = true) (hf : X.free d = true) (hN : s < X.N) (hsv : (st s).sv = .box cs) (hs : (s == d) = false) (hc : cells? X.P t = some n) (hag : isAgg? X.P t = some ag) (h1 : (ag || n == 1) = true) (hn : Nat.ble n cs.length = true) (hv : SV.val ag (cellOf s (st s).ver [] 0 0 (cs.take n)) = sv)
    {R' : List Nat} (hR : gslot ops ⟨some d, .load t (.tmp s), ty, pos, af, g⟩ ++ [s] = R') (hl : DL X ops l (applyP st [(d, sv)]) (fun fs st' => k (⟨R', [(d, sv)]⟩ :: fs) st')) : DL X ops (⟨some d, .load t (.tmp s), ty, pos, af, g⟩ :: l) st k := by
  subst hR
  subst hv
  refine DL_cons (PStep.runs hg fun st2 h2 => ?_) hl
  have h3 := h2 s (by simp)
  have := OS_load_bx (X := X) (st := st2) (ty := ty) (pos := pos) (af := af) (g := g) hN rfl rfl rfl rfl (by rw [h3]; exact hsv) (by simpa using hs) hc hag (by rintro rfl; simpa using h1) (Nat.le_of_ble_eq_true hn) hf
  rw [h3] at this
  exact this

/-- Where what slots own goes. -/
def mpL (L : List (Nat × Nat)) (q j : Nat) : Option Path := (L.lookup q).map fun off => [(0, off + j)]
theorem lookup_mem : ∀ (L : List (Nat × Nat)) {s off : Nat}, L.lookup s = some off → s ∈ L.map (·.1)
  | [], _, _, h => by cases h
  | p :: L, s, off, h => by
    rw [List.lookup_cons] at h
    split at h
    · rename_i he; simp only [List.map_cons, List.mem_cons]; exact .inl (by simpa using he)
    · simp only [List.map_cons, List.mem_cons]; exact .inr (lookup_mem L h)
theorem mpL_within (L : List (Nat × Nat)) : Within (L.map (·.1)) (mpL L) := fun s j π h => by
  unfold mpL at h
  obtain ⟨off, h1, -⟩ := Option.map_eq_some_iff.1 h
  exact lookup_mem L h1
theorem kill_apply : ∀ (C : List Nat) (st : St), C.Nodup → applyP st (C.map fun s => (s, .dead)) = st.kill C
  | [], st, _ => (kill_nil st).symm
  | c :: C, st, h => by
    rw [List.map_cons, applyP_cons, kill_apply C _ (List.nodup_cons.1 h).2]
    funext q
    have hc := (List.nodup_cons.1 h).1
    simp only [St.kill, St.put, List.mem_cons]
    by_cases hq : q = c
    · subst hq; simp [hc]
    · simp [hq]
theorem applyP_app (st : St) (a b : List (Nat × SV)) : applyP st (a ++ b) = applyP (applyP st a) b := by simp [applyP, List.foldl_append]

/-- Cells of a value that are nobody's, or that a component of another slot owns at the same place. -/
inductive RefL (st : St) (L : List (Nat × Nat)) (off : Nat) : Nat → List Cell → List T → Prop
  | nil {j} : RefL st L off j [] []
  | fr {j x cs ts} (hf : x.free = true) (h : RefL st L off (j + 1) cs ts) : RefL st L off j (.t x :: cs) (x :: ts)
  | rf {j r v x cs ts} (hv : (st r).ver = v) (hc : (st r).sv.cell 0 j = some (.t x)) (hL : L.lookup r = some off) (h : RefL st L off (j + 1) cs ts) : RefL st L off j (.ref r v [(0, j)] :: cs) (x :: ts)
theorem RefL.get {L : List (Nat × Nat)} {off j0 : Nat} {cs : List Cell} {ts : List T} (h : RefL st L off j0 cs ts) : cs.length = ts.length ∧ ∀ (j : Nat) c y, cs[j]? = some c → ts[j]? = some y → (c = .t y ∧ y.free = true) ∨ ∃ r, c = .ref r (st r).ver [(0, j0 + j)] ∧ (st r).sv.cell 0 (j0 + j) = some (.t y) ∧ L.lookup r = some off := by
  induction h with
  | nil => exact ⟨rfl, fun j c y h => by simp at h⟩
  | fr hf _ ih =>
    refine ⟨by simp [ih.1], fun j c y hc hy => ?_⟩
    cases j with
    | zero => simp only [List.getElem?_cons_zero, Option.some.injEq] at hc hy; subst hc; subst hy; exact .inl ⟨rfl, hf⟩
    | succ j =>
      rename_i j0 _ _ _ _
      have := ih.2 j c y (by simpa using hc) (by simpa using hy)
      rwa [show j0 + 1 + j = j0 + (j + 1) by omega] at this
  | rf hv h1 hL _ ih =>
    refine ⟨by simp [ih.1], fun j c y hc hy => ?_⟩
    cases j with
    | zero => simp only [List.getElem?_cons_zero, Option.some.injEq] at hc hy; subst hc; subst hy; exact .inr ⟨_, by rw [hv]; rfl, h1, hL⟩
    | succ j =>
      rename_i j0 _ _ _ _ _ _
      have := ih.2 j c y (by simpa using hc) (by simpa using hy)
      rwa [show j0 + 1 + j = j0 + (j + 1) by omega] at this

/-- What an operand gives to a place at 'off'. -/
inductive GivesF (X : Cx) (st : St) (L : List (Nat × Nat)) (off : Nat) : Operand → Bool → List T → Prop
  | free {x ag ts} (h : Opd X.N st x (.val ag (ts.map .t))) (hf : ts.all T.free = true) : GivesF X st L off x ag ts
  | own {s ag ts} (hN : s < X.N) (h : (st s).sv = .val ag (ts.map .t)) (hL : L.lookup s = some off) : GivesF X st L off (.tmp s) ag ts
  | nilc {m sz} : GivesF X st L off (.const (.slice none 0 0)) false [.sl m sz []]
  | ref {s ag cs ts} (hN : s < X.N) (h : (st s).sv = .val ag cs) (hr : RefL st L off 0 cs ts) : GivesF X st L off (.tmp s) ag ts
theorem GivesF.to {L : List (Nat × Nat)} {off : Nat} {ag : Bool} {ts : List T} (h : GivesF X st L off x ag ts) : Gives X st (L.map (·.1)) (mpL L) (fun j => [(0, off + j)]) x ag ts := by
  cases h with
  | nilc => exact .nil
  | free h hf => exact .free h (freeAll hf)
  | ref hN h hr =>
    refine .ref hN h hr.get.1 fun j c y hc hy => ?_
    rcases hr.get.2 j c y hc hy with h1 | ⟨r, h1, h2, h3⟩
    · exact .inl h1
    · rw [Nat.zero_add] at h1 h2
      exact .inr ⟨r, j, h1, h2, by simp [mpL, h3]⟩
  | own hN h hL =>
    refine .own hN ?_ h fun j _ => by simp [mpL, hL]
    rename_i s
    have : mpL L s 0 = some [(0, off + 0)] := by simp [mpL, hL]
    exact mpL_within L s 0 _ this

/-- A store into a struct of ours, by an address of it. -/
theorem dSt {s r j i v : Nat} {ag : Bool} {ts cs : List T} (L : List (Nat × Nat)) (R : List Nat) (hg : runs X.N ops st ⟨none, .store t (.tmp s) x, ty, pos, af, g⟩ = true) (hN : s < X.N) (hsr : s ∈ R) (hrr : r ∈ R) (hsv : (st s).sv = .addr r v [] i j) (hver : (st r).ver = v) (hr : (st r).sv = .box cs) (hs : cells? X.P t = some ts.length) (hle : Nat.ble (j + ts.length) cs.length = true)
    (hL : (L.map (·.1)).Nodup ∧ r ∉ L.map (·.1)) (hh : ts.all T.here = true) {cs' : List T} (hcs : over cs j ts = cs') (hx : ∀ st2 : St, (∀ q ∈ R, st2 q = st q) → GivesF X st2 L j x ag ts)
    {R' : List Nat} (hR : gslot ops ⟨none, .store t (.tmp s) x, ty, pos, af, g⟩ ++ R = R') (hl : DL X ops l (applyP st (L.map (fun p => (p.1, .dead)) ++ [(r, .box cs')])) (fun fs st' => k (⟨R', L.map (fun p => (p.1, .dead)) ++ [(r, .box cs')]⟩ :: fs) st')) : DL X ops (⟨none, .store t (.tmp s) x, ty, pos, af, g⟩ :: l) st k := by
  subst hR
  subst hcs
  refine DL_cons (PStep.runs hg fun st2 h2 => ?_) hl
  have h3 := h2 s hsr
  have h4 := h2 r hrr
  have h1 := OS_store_box (X := X) (st := st2) (t := t) (ty := ty) (pos := pos) (af := af) (g := g) (x := x) hN (by rw [h3, h4, hver]; exact hsv) (by rw [h4]; exact hr) hs (Nat.le_of_ble_eq_true hle) (mpL_within L) hL.2 (hx st2 h2).to (List.all_eq_true.1 hh)
  rw [applyP_app, show L.map (fun p => (p.1, SV.dead)) = (L.map (·.1)).map (fun s => (s, SV.dead)) by simp, kill_apply _ _ hL.1]
  exact h1
/-- A store into a struct of ours, whole. -/
theorem dStB {s : Nat} {ag : Bool} {ts cs : List T} (L : List (Nat × Nat)) (R : List Nat) (hg : runs X.N ops st ⟨none, .store t (.tmp s) x, ty, pos, af, g⟩ = true) (hN : s < X.N) (hsr : s ∈ R) (hr : (st s).sv = .box cs) (hs : cells? X.P t = some ts.length) (hle : Nat.ble ts.length cs.length = true)
    (hL : (L.map (·.1)).Nodup ∧ s ∉ L.map (·.1)) (hh : ts.all T.here = true) {cs' : List T} (hcs : over cs 0 ts = cs') (hx : ∀ st2 : St, (∀ q ∈ R, st2 q = st q) → GivesF X st2 L 0 x ag ts)
    {R' : List Nat} (hR : gslot ops ⟨none, .store t (.tmp s) x, ty, pos, af, g⟩ ++ R = R') (hl : DL X ops l (applyP st (L.map (fun p => (p.1, .dead)) ++ [(s, .box cs')])) (fun fs st' => k (⟨R', L.map (fun p => (p.1, .dead)) ++ [(s, .box cs')]⟩ :: fs) st')) : DL X ops (⟨none, .store t (.tmp s) x, ty, pos, af, g⟩ :: l) st k := by
  subst hR
  subst hcs
  refine DL_cons (PStep.runs hg fun st2 h2 => ?_) hl
  have h3 := h2 s hsr
  have h1 := OS_store_bx (X := X) (st := st2) (t := t) (ty := ty) (pos := pos) (af := af) (g := g) (x := x) hN rfl rfl (by rw [h3]; exact hr) hs (by have := Nat.le_of_ble_eq_true hle; omega) (mpL_within L) hL.2 (hx st2 h2).to (List.all_eq_true.1 hh)
  rw [applyP_app, show L.map (fun p => (p.1, SV.dead)) = (L.map (·.1)).map (fun s => (s, SV.dead)) by simp, kill_apply _ _ hL.1]
  exact h1

/-- A struct's parts. -/
inductive PartsF (X : Cx) (st : St) (L : List (Nat × Nat)) (pl : Nat → Option (Nat × Nat)) : List (Nat × Operand) → List (Nat × List T) → Prop
  | nil : PartsF X st L pl [] []
  | cons {i x ag ts ps qs off size} (hp : pl i = some (off, size)) (h : GivesF X st L off x ag ts) (h1 : ts.all T.here = true) (hr : PartsF X st L pl ps qs) : PartsF X st L pl ((i, x) :: ps) ((i, ts) :: qs)
theorem PartsF.to {L : List (Nat × Nat)} {pl : Nat → Option (Nat × Nat)} {ps : List (Nat × Operand)} {qs : List (Nat × List T)} (h : PartsF X st L pl ps qs) : Parts X st (L.map (·.1)) (mpL L) pl (fun j => [(0, j)]) ps qs := by
  induction h with
  | nil => exact .nil
  | cons hp h h1 _ ih => exact .cons hp h.to (fun _ => List.all_eq_true.1 h1) ih
theorem dBuild {pls : List (Nat × Nat)} {zs ts : List T} {parts : List (Nat × Operand)} {qs : List (Nat × List T)} (L : List (Nat × Nat)) (R : List Nat) (hg : runs X.N ops st ⟨some d, .build t parts.toArray, ty, pos, af, g⟩ = true) (hf : X.free d = true) (hpl : places? X.P t = some pls) (hz : Zeros X.P t zs) (hL : (L.map (·.1)).Nodup ∧ d ∉ L.map (·.1)) (hts : fillL (pls[·]?) zs qs = some ts)
    (hx : ∀ st2 : St, (∀ q ∈ R, st2 q = st q) → PartsF X st2 L (pls[·]?) parts qs)
    {R' : List Nat} (hR : gslot ops ⟨some d, .build t parts.toArray, ty, pos, af, g⟩ ++ R = R') (hl : DL X ops l (applyP st (L.map (fun p => (p.1, .dead)) ++ [(d, .val true (ts.map .t))])) (fun fs st' => k (⟨R', L.map (fun p => (p.1, .dead)) ++ [(d, .val true (ts.map .t))]⟩ :: fs) st')) : DL X ops (⟨some d, .build t parts.toArray, ty, pos, af, g⟩ :: l) st k := by
  subst hR
  refine DL_cons (PStep.runs hg fun st2 h2 => ?_) hl
  have h1 := OS_build (X := X) (st := st2) (d := d) (ty := ty) (pos := pos) (af := af) (g := g) hpl hz (mpL_within L) hL.2 (hx st2 h2).to hts hf
  rw [applyP_app, show L.map (fun p => (p.1, SV.dead)) = (L.map (·.1)).map (fun s => (s, SV.dead)) by simp, kill_apply _ _ hL.1]
  exact h1
theorem dAlloc {zs : List T} (hg : runs X.N ops st ⟨some d, .alloc t, ty, pos, af, g⟩ = true) (hf : X.free d = true) (hz : Zeros X.P t zs) {R' : List Nat} (hR : gslot ops ⟨some d, .alloc t, ty, pos, af, g⟩ = R') (hl : DL X ops l (applyP st [(d, .box zs)]) (fun fs st' => k (⟨R', [(d, .box zs)]⟩ :: fs) st')) : DL X ops (⟨some d, .alloc t, ty, pos, af, g⟩ :: l) st k := by
  subst hR
  refine DL_cons (R := gslot ops ⟨some d, .alloc t, ty, pos, af, g⟩ ++ []) (PStep.runs hg fun st2 _ => OS_alloc hz hf) (by simpa using hl)
end
end Go.V
namespace Go.V
open Go Go.RowKit

def ZL : List Value → List T → Prop
  | [], [] => True
  | v :: vs, y :: ys => ZeroOK v y ∧ ZL vs ys
  | _, _ => False
theorem ZL_get : ∀ {vs : List Value} {ys : List T}, ZL vs ys → vs.length = ys.length ∧ ∀ (j : Nat) u y, vs[j]? = some u → ys[j]? = some y → ZeroOK u y
  | [], [], _ => ⟨rfl, fun j u y h => by simp at h⟩
  | v :: vs, y :: ys, ⟨h1, h2⟩ => by
    obtain ⟨h3, h4⟩ := ZL_get h2
    refine ⟨by simp [h3], fun j u z hu hz => ?_⟩
    cases j with
    | zero => simp at hu hz; subst hu; subst hz; exact h1
    | succ j => exact h4 j u z (by simpa using hu) (by simpa using hz)
  | [], _ :: _, h => h.elim
  | _ :: _, [], h => h.elim
theorem zeros_of {P : Program} {t : TypeId} {zs : List T} (v : Value) (h : (P.info? t).bind (·.zero) = some v) (hz : ZL v.cells.toList zs) : Zeros P t zs := by
  obtain ⟨h1, h2⟩ := ZL_get hz
  exact ⟨v, h, by simpa using h1, fun j u y hu hy => h2 j u y (by simpa using hu) hy⟩
theorem z1 {v : Value} (h : scal v = true) : ZeroOK v (.sc v) := .inl ⟨h, rfl⟩
theorem z2 {m : Bool} {sz : Nat} : ZeroOK (.slice none 0 0) (.sl m sz []) := .inr ⟨rfl, m, sz, rfl⟩

inductive ResL (X : Cx) (st : St) : List ResultVar → List (Bool × List T) → Prop
  | nil : ResL X st [] []
  | tmp {t ag ts rs res} (hN : t < X.N) (hs : (st t).sv = .val ag (ts.map .t)) (hl : ResL X st rs res) : ResL X st (.tmp t :: rs) ((ag, ts) :: res)
  | cell {a t ag ts rs res} (hN : a < X.N) (hs : (st a).sv = .box ts) (hc : cells? X.P t = some ts.length) (hg : isAgg? X.P t = some ag) (h1 : (ag || ts.length == 1) = true) (hl : ResL X st rs res) : ResL X st (.cell a t :: rs) ((ag, ts) :: res)
theorem ResL.get {X : Cx} {st : St} {rs : List ResultVar} {res : List (Bool × List T)} (h : ResL X st rs res) : rs.length = res.length ∧ ∀ (k : Nat) r p, rs[k]? = some r → res[k]? = some p →
    ResIs X.N st r p ∧ ∀ a t, r = .cell a t → cells? X.P t = some p.2.length ∧ isAgg? X.P t = some p.1 ∧ (p.1 = false → p.2.length = 1) := by
  induction h with
  | nil => exact ⟨rfl, fun k r p h => by simp at h⟩
  | tmp hN hs _ ih =>
    refine ⟨by simp [ih.1], fun k r p hr hp => ?_⟩
    cases k with
    | zero => simp at hr hp; subst hr; subst hp; exact ⟨⟨hN, hs⟩, fun a t h => by cases h⟩
    | succ k => exact ih.2 k r p (by simpa using hr) (by simpa using hp)
  | cell hN hs hc hg h1 _ ih =>
    refine ⟨by simp [ih.1], fun k r p hr hp => ?_⟩
    cases k with
    | zero =>
      simp at hr hp; subst hr; subst hp
      exact ⟨⟨hN, hs⟩, fun a t h => by cases h; exact ⟨hc, hg, fun h => by dsimp only at h; subst h; simpa using h1⟩⟩
    | succ k => exact ih.2 k r p (by simpa using hr) (by simpa using hp)
theorem leaves_of {X : Cx} {fn : Func} {args : List Arg} {res : List (Bool × List T)} {st : St} (rs : List ResultVar) (h : fn.results = rs.toArray) (hn : (rs.map resSlot).Nodup) (hr : ResL X st rs res) : Leaves X fn args res [] st := by
  obtain ⟨h1, h2⟩ := hr.get
  refine ⟨by rw [h]; simpa using h1, fun k r p hk hp => ?_, by rw [h]; simpa using hn, fun k a t p hk hp => ?_, fun i a h => by simp at h⟩
  · rw [h] at hk; exact (h2 k r p (by simpa using hk) hp).1
  · rw [h] at hk; exact (h2 k _ p (by simpa using hk) hp).2 a t rfl

section
variable {X : Cx} {st st' : St} {d : Nat} {t ty : TypeId} {x y : Operand} {pos : String} {af : Array Edge} {g : Option (Nat × Bool)} {ops : Array Oper} {l : List Oper} {k : List Foot → St → Prop}
theorem nil_rep {G : Nat → Own} {w : World} {vals : Nat → Value} {m : Bool} {sz : Nat} : SlotRep G w (st.put d (one (.sl m sz []))) (upd vals d (.slice none 0 0)) d (.slice none 0 0) (one (.sl m sz [])) :=
  ⟨[.slice none 0 0], rfl, rfl, fun j c u hc hu => by
    cases j with
    | zero => simp at hc hu; subst hc; subst hu; exact .nil
    | succ j => simp at hc⟩
/-- A nil slice: a row without elements. -/
theorem dNil {m : Bool} {sz : Nat} (hg : runs X.N ops st ⟨some d, .assign (.const (.slice none 0 0)), ty, pos, af, g⟩ = true) (hf : X.free d = true)
    {R' : List Nat} (hR : gslot ops ⟨some d, .assign (.const (.slice none 0 0)), ty, pos, af, g⟩ = R') (hl : DL X ops l (applyP st [(d, one (.sl m sz []))]) (fun fs st' => k (⟨R', [(d, one (.sl m sz []))]⟩ :: fs) st')) : DL X ops (⟨some d, .assign (.const (.slice none 0 0)), ty, pos, af, g⟩ :: l) st k := by
  subst hR
  refine DL_cons (R := gslot ops ⟨some d, .assign (.const (.slice none 0 0)), ty, pos, af, g⟩ ++ []) (PStep.runs hg fun st2 _ => ?_) (by simpa using hl)
  exact OStep.value rfl hf fun a w G vals hA => ⟨.slice none 0 0, rfl, nil_rep⟩
theorem dNilM {m : Bool} {sz : Nat} (hg : runs X.N ops st ⟨some d, .move (.const (.slice none 0 0)), ty, pos, af, g⟩ = true) (hf : X.free d = true)
    {R' : List Nat} (hR : gslot ops ⟨some d, .move (.const (.slice none 0 0)), ty, pos, af, g⟩ = R') (hl : DL X ops l (applyP st [(d, one (.sl m sz []))]) (fun fs st' => k (⟨R', [(d, one (.sl m sz []))]⟩ :: fs) st')) : DL X ops (⟨some d, .move (.const (.slice none 0 0)), ty, pos, af, g⟩ :: l) st k := by
  subst hR
  refine DL_cons (R := gslot ops ⟨some d, .move (.const (.slice none 0 0)), ty, pos, af, g⟩ ++ []) (PStep.runs hg fun st2 _ => ?_) (by simpa using hl)
  exact OStep.value rfl hf fun a w G vals hA => ⟨.slice none 0 0, rfl, nil_rep⟩
/-- A fresh row of zeros. -/
theorem dMake {e : TypeId} {sz by_ : Nat} {n c : Int} {zs : List T} {els : List (List T)} (hg : runs X.N ops st ⟨some d, .makeSlice t x y, ty, pos, af, g⟩ = true) (hf : X.free d = true) (he : elem? X.P t = some (e, sz)) (hz : Zeros X.P e zs) (hzl : zs.length = sz) (hby : (X.P.info? e).map (·.bytes) = some by_)
    (hx : scF X.N st x = some (.int .i64 n)) (hy : scF X.N st y = some (.int .i64 c)) (hb : 0 ≤ n ∧ n ≤ c ∧ (by_ : Int) * c ≤ 281474976710656) (hby1 : Nat.ble 1 by_ = true) (hels : List.replicate n.toNat zs = els)
    {R' : List Nat} (hR : gslot ops ⟨some d, .makeSlice t x y, ty, pos, af, g⟩ ++ (opdSlots x ++ opdSlots y) = R') (hl : DL X ops l (applyP st [(d, one (.sl true sz els))]) (fun fs st' => k (⟨R', [(d, one (.sl true sz els))]⟩ :: fs) st')) : DL X ops (⟨some d, .makeSlice t x y, ty, pos, af, g⟩ :: l) st k := by
  subst hR
  subst hels
  refine DL_cons (PStep.runs hg fun st2 h2 => ?_) hl
  have h3 := Nat.le_of_ble_eq_true hby1
  have h4 : c ≤ (by_ : Int) * c := by
    have h5 : (1 : Int) ≤ by_ := by omega
    have h6 : 0 ≤ c := by omega
    calc c = 1 * c := (Int.one_mul c).symm
      _ ≤ (by_ : Int) * c := Int.mul_le_mul_of_nonneg_right h5 h6
  exact OS_makeSlice he hz hzl hby (scF_ok (by rw [scF_agree (x := x) fun s hs => h2 s (by simp [hs])]; exact hx)) (scF_ok (by rw [scF_agree (x := y) fun s hs => h2 s (by simp [hs])]; exact hy)) hb.1 hb.2.1 (by omega) hb.2.2 hf

/-- The place of an element of a row of ours. -/
theorem dIxO {e : TypeId} {sz s r v i' : Nat} {π : Path} {els : List (List T)} {kx : IntKind} {i : Int} (hg : runs X.N ops st ⟨some d, .indexAddr t (.tmp s) y, ty, pos, af, g⟩ = true) (hf : X.free d = true) (hN : s < X.N) (ho : ownOf st s = some (r, π, sz, els)) (he : elem? X.P t = some (e, sz)) (hy : scF X.N st y = some (.int kx i)) (hb : 0 ≤ i ∧ i < els.length) (hr : (r == d) = false) (hv : (st r).ver = v) (hi : i.toNat = i') (hrs : (ownSlots st s).contains r = true)
    {R' : List Nat} (hR : gslot ops ⟨some d, .indexAddr t (.tmp s) y, ty, pos, af, g⟩ ++ (ownSlots st s ++ opdSlots y) = R') (hl : DL X ops l (applyP st [(d, .addr r v π i' 0)]) (fun fs st' => k (⟨R', [(d, .addr r v π i' 0)]⟩ :: fs) st')) : DL X ops (⟨some d, .indexAddr t (.tmp s) y, ty, pos, af, g⟩ :: l) st k := by
  subst hR
  subst hv
  subst hi
  refine DL_cons (PStep.runs hg fun st2 h2 => ?_) hl
  obtain ⟨h3, h4⟩ := ownOf_ok (X := X) hN (by rw [ownOf_agree fun q hq => h2 q (by simp [hq])]; exact ho)
  have := OS_indexAddr_own (ty := ty) (pos := pos) (af := af) (g := g) h3 h4 (scF_ok (by rw [scF_agree (x := y) fun s hs => h2 s (by simp [hs])]; exact hy)) he hb.1 (by have := hb.2; omega) (by simpa using hr) hf
  rw [h2 r (by simp only [List.mem_append]; exact .inl (by simpa using hrs))] at this
  exact this
/-- A load of an element of a row of ours, or of a part of it. -/
theorem dLdO {n s r v i j : Nat} {ag : Bool} {π : Path} {cs : List T} {sv : SV} (hg : runs X.N ops st ⟨some d, .load t (.tmp s), ty, pos, af, g⟩ = true) (hf : X.free d = true) (hN : s < X.N) (hsv : (st s).sv = .addr r v π i j) (hv : (st r).ver = v) (hc : st.cells r π i j = some cs) (hr : (r == d) = false) (hs : cells? X.P t = some n) (hag : isAgg? X.P t = some ag) (h1 : (ag || n == 1) = true) (hn : Nat.ble n cs.length = true) (hsv' : SV.val ag (cellOf r v π i j (cs.take n)) = sv)
    {R' : List Nat} (hR : gslot ops ⟨some d, .load t (.tmp s), ty, pos, af, g⟩ ++ [s, r] = R') (hl : DL X ops l (applyP st [(d, sv)]) (fun fs st' => k (⟨R', [(d, sv)]⟩ :: fs) st')) : DL X ops (⟨some d, .load t (.tmp s), ty, pos, af, g⟩ :: l) st k := by
  subst hR
  subst hsv'
  subst hv
  refine DL_cons (PStep.runs hg fun st2 h2 => ?_) hl
  have h3 := h2 s (by simp)
  have h4 := h2 r (by simp)
  have := OS_load (X := X) (st := st2) (r := r) (π := π) (i := i) (j := j) (ty := ty) (pos := pos) (af := af) (g := g) hN (by rw [h3, h4]; exact hsv) (by rw [cells_agree h4]; exact hc) (by simpa using hr) hs hag (by rintro rfl; simpa using h1) (Nat.le_of_ble_eq_true hn) hf
  rw [h4] at this
  exact this
/-- A store of free cells into an element of a row of ours. -/
theorem dStO {s r v i j sz : Nat} {ag : Bool} {ts row : List T} {π : Path} {els : List (List T)} {sv : SV} (R : List Nat) (hg : runs X.N ops st ⟨none, .store t (.tmp s) x, ty, pos, af, g⟩ = true) (hN : s < X.N) (hsr : s ∈ R) (hrr : r ∈ R) (hsv : (st s).sv = .addr r v π i j) (hv : (st r).ver = v) (hat : st.at_ r π = some (.sl true sz els)) (hrow : els[i]? = some row) (hs : cells? X.P t = some ts.length) (hle : Nat.ble (j + ts.length) sz = true)
    (hh : ts.all T.free = true) (hx : ∀ st2 : St, (∀ q ∈ R, st2 q = st q) → Opd X.N st2 x (.val ag (ts.map .t))) (hsv' : ∀ st2 : St, st2 r = st r → st2.setAt r π (.sl true sz (els.set i (over row j ts))) = applyP st2 [(r, sv)])
    {R' : List Nat} (hR : gslot ops ⟨none, .store t (.tmp s) x, ty, pos, af, g⟩ ++ R = R') (hl : DL X ops l (applyP st [(r, sv)]) (fun fs st' => k (⟨R', [(r, sv)]⟩ :: fs) st')) : DL X ops (⟨none, .store t (.tmp s) x, ty, pos, af, g⟩ :: l) st k := by
  subst hR
  subst hv
  refine DL_cons (PStep.runs hg fun st2 h2 => ?_) hl
  have h3 := h2 s hsr
  have h4 := h2 r hrr
  have h1 := OS_store (X := X) (st := st2) (r := r) (π := π) (t := t) (ty := ty) (pos := pos) (af := af) (g := g) (x := x) (C := []) (mp := fun _ _ => none) hN (by rw [h3, h4]; exact hsv) (by rw [at_agree h4]; exact hat) hrow hs (Nat.le_of_ble_eq_true hle) (fun s j π h => by cases h) (by simp) (.free (hx st2 h2) (freeAll hh))
    (fun y hy => by have := freeAll hh y hy; cases y <;> first | rfl | cases this)
  rw [kill_nil, hsv' st2 h4] at h1
  exact h1
end

theorem rep_map {α : Type} (c : α → List T) (z : α) (n : Nat) : List.replicate n (c z) = (List.replicate n z).map c := List.map_replicate.symm
theorem getI_lt {α : Type} {xs : List α} {i : Int} {x : α} (c : α → List T) (h : getI xs i = some x) : 0 ≤ i ∧ i < ((xs.map c).length : Int) := by
  unfold getI at h
  split at h
  · rename_i h0
    have := (List.getElem?_eq_some_iff.1 h).1
    rw [List.length_map]
    exact ⟨h0, by omega⟩
  · cases h
theorem getI_row {α : Type} {xs : List α} {i : Int} {x : α} (c : α → List T) (h : getI xs i = some x) : (xs.map c)[i.toNat]? = some (c x) := (getI_map c h).2
theorem cells_row {α : Type} {st : St} {r sz : Nat} {q : Nat × Nat} {π : Path} {xs : List α} {i : Int} {x : α} (c : α → List T) (hat : st.at_ r (q :: π) = some (.sl true sz (xs.map c))) (h : getI xs i = some x) (j : Nat) : st.cells r (q :: π) i.toNat j = some ((c x).drop j) := by
  simp only [St.cells, hat, getI_row c h, Option.map_some]
end Go.V

/- The value interpreter, part b: what stretches of a program do to typed values, rule by rule. Conditions: none. -/
import Derived.Test.YtdligmjpeclkcaaDoorVa
import Derived.Deep.AppendSrc
import Derived.Deep.Upon
namespace Go.V
open Go Go.RowKit

def St.kill (st : St) (C : List Nat) : St := fun s => if s ∈ C then ⟨(st s).ver + 1, .dead⟩ else st s
theorem kill_nil (st : St) : st.kill [] = st := by funext s; simp [St.kill]
theorem kill_not (st : St) {C : List Nat} {s : Nat} (h : s ∉ C) : st.kill C s = st s := by simp [St.kill, h]
theorem kill_mem (st : St) {C : List Nat} {s : Nat} (h : s ∈ C) : st.kill C s = ⟨(st s).ver + 1, .dead⟩ := by simp [St.kill, h]

/-- Cells of slots come under new places of the slot d. -/
def renameC (G : Nat → Own) (d : Nat) (mp : Nat → Nat → Option Path) : Nat → Own := fun b => match G b with
  | .at_ s ((0, j) :: ρ) => (match mp s j with | some π => .at_ d (π ++ ρ) | none => .at_ s ((0, j) :: ρ))
  | o => o

/-- An operand's cells as trees; what it owns goes where 'base' says. -/
inductive Gives (X : Cx) (st : St) (C : List Nat) (mp : Nat → Nat → Option Path) (base : Nat → Path) : Operand → Bool → List T → Prop
  | free {x ag ts} (h : Opd X.N st x (.val ag (ts.map .t))) (hf : ∀ t ∈ ts, t.free = true) : Gives X st C mp base x ag ts
  | own {s ag ts} (hN : s < X.N) (hC : s ∈ C) (h : (st s).sv = .val ag (ts.map .t)) (hm : ∀ j, j < ts.length → mp s j = some (base j)) : Gives X st C mp base (.tmp s) ag ts
  | nil {m sz} : Gives X st C mp base (.const (.slice none 0 0)) false [.sl m sz []]
  | ref {s ag cs ts} (hN : s < X.N) (h : (st s).sv = .val ag cs) (hl : cs.length = ts.length) (hc : ∀ (j : Nat) c y, cs[j]? = some c → ts[j]? = some y → (c = .t y ∧ y.free = true) ∨ ∃ r j', c = .ref r (st r).ver [(0, j')] ∧ (st r).sv.cell 0 j' = some (.t y) ∧ mp r j' = some (base j)) : Gives X st C mp base (.tmp s) ag ts
  | hd {s ag cs ts v0} (hN : s < X.N) (h : (st s).sv = .val ag cs) (hp : (s, v0) ∈ X.pins) (hl : cs.length = ts.length) (hc : ∀ (j : Nat) c y, cs[j]? = some c → ts[j]? = some y → (c = .t y ∧ y.free = true) ∨ ∃ A n c', y = .sc (.slice A n c') ∧ packed ag v0 j = some (.slice A n c')) : Gives X st C mp base (.tmp s) ag ts

section
variable {X : Cx} {st : St} {d : Nat} {t t' ty : TypeId} {x y z : Operand} {k : IntKind} {v : Value} {pos : String} {af : Array Edge} {g : Option (Nat × Bool)} {a : Act} {w w' : World} {G G' : Nat → Own} {vals : Nat → Value} {C : List Nat} {mp : Nat → Nat → Option Path}

/-- What is given, as it stands behind the move. -/
theorem gives_rep (hA : Alls X st a w G vals) {base : Nat → Path} {ag : Bool} {ts : List T} (h : Gives X st C mp base x ag ts)
    (hp : ∀ b, G b = .pers → G' b = .pers ∧ w'.heap[b]? = w.heap[b]?)
    (ho : ∀ b s j π ρ, G b = .at_ s ((0, j) :: ρ) → mp s j = some π → G' b = .at_ d (π ++ ρ) ∧ w'.heap[b]? = w.heap[b]?) :
    ∃ us, Pack ag us (a.eval x) ∧ us.length = ts.length ∧ ∀ (j : Nat) y u, ts[j]? = some y → us[j]? = some u → Rep G' w' d (base j) u y := by
  cases h with
  | free h hf =>
    obtain ⟨s, hs, -⟩ := opd_eval hA h
    obtain ⟨us, hpk, hl, hall⟩ := hs
    refine ⟨us, hpk, by simpa using hl, fun j y u hy hu => ?_⟩
    have h1 : CellRep G w st vals s 0 j u (.t y) := hall j (.t y) u (by simp [hy]) hu
    exact Rep.free h1 (hf y (List.mem_of_getElem? hy)) hp
  | own hN hC h hm =>
    rename_i s
    have he : a.eval (.tmp s) = vals s := hA.link s hN
    have h0 := hA.inv.slots s
    rw [h] at h0
    obtain ⟨us, hpk, hl, hall⟩ := h0
    refine ⟨us, by rw [he]; exact hpk, by simpa using hl, fun j y u hy hu => ?_⟩
    have h1 : CellRep G w st vals s 0 j u (.t y) := hall j (.t y) u (by simp [hy]) hu
    have hj : j < ts.length := (List.getElem?_eq_some_iff.1 hy).1
    exact Rep.move h1 hp fun b ρ hb => ho b s j _ ρ (by simpa using hb) (hm j hj)
  | ref hN h hl hc =>
    rename_i s cs
    have he : a.eval (.tmp s) = vals s := hA.link s hN
    have h0 := hA.inv.slots s
    rw [h] at h0
    obtain ⟨us, hpk, hul, hall⟩ := h0
    refine ⟨us, by rw [he]; exact hpk, by omega, fun j y u hy hu => ?_⟩
    have hlt : j < cs.length := by rw [hl]; exact (List.getElem?_eq_some_iff.1 hy).1
    have hcj : cs[j]? = some cs[j] := List.getElem?_eq_getElem hlt
    have h2 := hall j _ u hcj hu
    rcases hc j _ y hcj hy with ⟨h3, h4⟩ | ⟨r, j', h3, h4, h5⟩
    · rw [h3] at h2
      exact Rep.free h2 h4 hp
    · rw [h3] at h2
      obtain ⟨sz, els, hpl⟩ := h2.2 rfl
      have h6 : ∃ u0, place vals st w r [(0, j')] = some (u0, y) ∧ u0 = u := by
        simp only [place] at hpl ⊢
        obtain ⟨u1, hu1, hpl⟩ := Option.bind_eq_some_iff.1 hpl
        rw [h4] at hpl
        simp only [descend, Option.some.injEq, Prod.mk.injEq] at hpl
        refine ⟨u1, ?_, hpl.1⟩
        rw [hu1, h4]
        rfl
      obtain ⟨u0, h7, rfl⟩ := h6
      exact Rep.move (place_rep hA.inv h7) hp fun b ρ hb => ho b r j' _ ρ (by simpa using hb) h5
  | hd hN h hpin hl hc =>
    rename_i s cs v0
    have he : a.eval (.tmp s) = vals s := hA.link s hN
    have h0 := hA.inv.slots s
    have hv := hA.inv.pin _ hpin
    simp only at hv
    rw [h] at h0
    obtain ⟨us, hpk, hul, hall⟩ := h0
    refine ⟨us, by rw [he]; exact hpk, by omega, fun j y u hy hu => ?_⟩
    have hlt : j < cs.length := by rw [hl]; exact (List.getElem?_eq_some_iff.1 hy).1
    have hcj : cs[j]? = some cs[j] := List.getElem?_eq_getElem hlt
    have h2 := hall j _ u hcj hu
    rcases hc j _ y hcj hy with ⟨h3, h4⟩ | ⟨A, n, c', rfl, h3⟩
    · rw [h3] at h2
      exact Rep.free h2 h4 hp
    · rw [← hv, packed_of hpk, hu] at h3
      cases h3
      exact .sc rfl
  | nil =>
    refine ⟨[.slice none 0 0], rfl, rfl, fun j y u hy hu => ?_⟩
    cases j with
    | zero => simp at hy hu; subst hy; subst hu; exact .nil
    | succ j => simp at hy

/-- Does the table speak of slots in C alone? -/
def Within (C : List Nat) (mp : Nat → Nat → Option Path) : Prop := ∀ s j π, mp s j = some π → s ∈ C

theorem Act.put_link (hA : Alls X st a w G vals) {d : Nat} {v : Value} : ∀ t, t < X.N → (a.put (some d) v).tmps.getD t undef = upd vals d v t := by
  intro t ht
  simp only [Act.put, upd]
  by_cases h : t = d
  · subst h
    simp [Array.getD_eq_getD_getElem?, hA.size, ht]
  · have := hA.link t ht
    simp only [Array.getD_eq_getD_getElem?] at this ⊢
    rw [Array.getElem?_setIfInBounds_ne (fun e => h e.symm), if_neg h]
    exact this

theorem free_pin {X : Cx} {d : Nat} (hf : X.free d = true) (v : Value) {vals : Nat → Value} (hp : ∀ p ∈ X.pins, vals p.1 = p.2) : ∀ p ∈ X.pins, upd vals d v p.1 = p.2 := by
  intro p hp'
  have h1 : p.1 ≠ d := by
    have := List.all_eq_true.1 hf p hp'
    simpa using this
  simp only [upd, if_neg h1]
  exact hp p hp'

/-- ONE LEMMA FOR WHAT MAKES MEMORY: slots in C are emptied, slot d is written, blocks are added; whose the old blocks are: the table. -/
theorem Alls.make (hA : Alls X st a w G vals) {sv : SV} {v : Value} (hf : X.free d = true) (hC : Within C mp) (hdC : d ∉ C)
    (hold : ∀ b, b < w.heap.size → G' b = renameC G d mp b ∧ w'.heap[b]? = w.heap[b]?) (hsz : w.heap.size ≤ w'.heap.size) (hfr : ∀ b, w'.heap.size ≤ b → G' b = .outer)
    (hos : w'.os = w.os) (htp : w'.tape = w.tape) (hout : w'.output = w.output)
    (hnew : (∀ b, G b = .pers → G' b = .pers ∧ w'.heap[b]? = w.heap[b]?) → (∀ b s j π ρ, G b = .at_ s ((0, j) :: ρ) → mp s j = some π → G' b = .at_ d (π ++ ρ) ∧ w'.heap[b]? = w.heap[b]?) →
      SlotRep G' w' ((st.kill C).put d sv) (upd vals d v) d v sv) : Alls X ((st.kill C).put d sv) (a.put (some d) v) w' G' (upd vals d v) := by
  have hlt : ∀ b, G b ≠ .outer → b < w.heap.size := fun b h => Nat.lt_of_not_le fun hle => h (hA.inv.alloc b hle)
  have hp : ∀ b, G b = .pers → G' b = .pers ∧ w'.heap[b]? = w.heap[b]? := fun b h => by
    have h1 := hold b (hlt b (by simp [h]))
    exact ⟨by rw [h1.1]; simp [renameC, h], h1.2⟩
  have hmv : ∀ b s j π ρ, G b = .at_ s ((0, j) :: ρ) → mp s j = some π → G' b = .at_ d (π ++ ρ) ∧ w'.heap[b]? = w.heap[b]? := fun b s j π ρ h hm => by
    have h1 := hold b (hlt b (by simp [h]))
    exact ⟨by rw [h1.1]; simp [renameC, h, hm], h1.2⟩
  have hst : ∀ s, ¬ (s = d ∨ s ∈ C) → ((st.kill C).put d sv) s = st s := fun s h => by simp only [not_or] at h; rw [put_ne _ _ h.1, kill_not _ h.2]
  refine ⟨hA.defers, by simp [Act.put, hA.size], Act.put_link hA, ?_, ?_⟩
  · refine hA.inv.step (K := fun s => s = d ∨ s ∈ C) hst (fun s h => by simp only [not_or] at h; exact upd_ne _ _ h.1) ?_ hp ?_ ?_ hfr (free_pin hf v hA.inv.pin)
    · intro s h
      by_cases hd : s = d
      · subst hd; rw [put_same, kill_not _ hdC]; simp
      · have : s ∈ C := h.resolve_left hd
        rw [put_ne _ _ hd, kill_mem _ this]; simp
    · intro b s ρ h hs
      simp only [not_or] at hs
      have h1 := hold b (hlt b (by simp [h]))
      refine ⟨?_, h1.2⟩
      rw [h1.1]
      rcases ρ with _ | ⟨⟨k, j⟩, ρ⟩
      · simp [renameC, h]
      · cases k with
        | zero =>
          simp only [renameC, h]
          cases hm : mp s j with
          | none => rfl
          | some π => exact absurd (hC s j π hm) hs.2
        | succ k => simp [renameC, h]
    · intro s h
      by_cases hd : s = d
      · subst hd
        rw [put_same]
        simp only [upd, if_true]
        exact hnew hp hmv
      · have : s ∈ C := h.resolve_left hd
        rw [put_ne _ _ hd, kill_mem _ this]; trivial
  · refine ⟨fun b h => ?_, fun b hb h => ?_, Nat.le_trans hA.base.size hsz, hos.trans hA.base.os, htp.trans hA.base.tape, hout.trans hA.base.output⟩
    · have h2 := hA.base.pers b h
      have h3 := hp b h2.1
      exact ⟨h3.1, h3.2.trans h2.2⟩
    · have h2 := hA.base.outer b hb h
      have h1 := hold b (Nat.lt_of_lt_of_le hb hA.base.size)
      exact ⟨by rw [h1.1]; simp [renameC, h2.1], h1.2.trans h2.2⟩

/-- The owners behind one new block. -/
def own1 (G : Nat → Own) (d : Nat) (mp : Nat → Nat → Option Path) (n : Nat) (o : Own) : Nat → Own := fun b => if b = n then o else renameC G d mp b

theorem heap_push (w : World) (o : Obj) {b : Nat} (h : b < w.heap.size) : (w.heap.push o)[b]? = w.heap[b]? := by rw [Array.getElem?_push, if_neg (by omega)]
theorem heap_push_new (w : World) (o : Obj) : (w.heap.push o)[w.heap.size]? = some o := by simp

theorem renameC_outer (hA : Alls X st a w G vals) {b : Nat} (h : w.heap.size ≤ b) : renameC G d mp b = .outer := by simp [renameC, hA.inv.alloc b h]

/-- With one new block of cells. -/
theorem Alls.make1 (hA : Alls X st a w G vals) {sv : SV} {v : Value} {c : Array Value} {e : TypeId} {o : Own} {n : Nat} (hf : X.free d = true) (hC : Within C mp) (hdC : d ∉ C)
    (hnew : ∀ G' w', G' = own1 G d mp w.heap.size o → w' = { w with heap := w.heap.push (.cells c e), drawn := n } → (∀ b, G b = .pers → G' b = .pers ∧ w'.heap[b]? = w.heap[b]?) →
      (∀ b s j π ρ, G b = .at_ s ((0, j) :: ρ) → mp s j = some π → G' b = .at_ d (π ++ ρ) ∧ w'.heap[b]? = w.heap[b]?) → G' w.heap.size = o → w'.heap[w.heap.size]? = some (.cells c e (0, 0)) →
      SlotRep G' w' ((st.kill C).put d sv) (upd vals d v) d v sv) :
    Alls X ((st.kill C).put d sv) (a.put (some d) v) { w with heap := w.heap.push (.cells c e), drawn := n } (own1 G d mp w.heap.size o) (upd vals d v) :=
  hA.make hf hC hdC (fun b hb => ⟨by simp [own1, show b ≠ w.heap.size by omega], heap_push w _ hb⟩) (by simp) (fun b hb => by
    simp only [Array.size_push] at hb
    simp only [own1, if_neg (show b ≠ w.heap.size by omega)]
    exact renameC_outer hA (by omega)) rfl rfl rfl fun hp hm => hnew _ _ rfl rfl hp hm (by simp [own1]) (heap_push_new w _)

theorem pack_cells {ag : Bool} {us : List Value} {v : Value} (h : Pack ag us v) (h1 : ag = false → ∀ u, us = [u] → u.cells = #[u]) : v.cells = us.toArray := by
  cases ag with
  | true => cases h; rfl
  | false => cases h; exact h1 rfl v rfl

theorem pack_inj {ag : Bool} {us us' : List Value} {v : Value} (h : Pack ag us v) (h' : Pack ag us' v) : us = us' := by
  cases ag with
  | true =>
    have h1 : v = .agg us.toArray := h
    have h2 : v = .agg us'.toArray := h'
    rw [h1] at h2
    simpa using h2
  | false =>
    have h1 : us = [v] := h
    have h2 : us' = [v] := h'
    rw [h1, h2]

/-- What a tree stands for is one cell. -/
theorem rep_one {s : Nat} {π : Path} {u : Value} {y : T} (h : Rep G w s π u y) (hy : y.whole = true) : u.cells = #[u] ∧ u.oneCell' = true := by
  cases h with
  | sc hs => cases u <;> simp_all [scal, Value.cells, Value.oneCell']
  | gone => simp [T.whole] at hy
  | nil => simp [Value.cells, Value.oneCell']
  | shd => simp [Value.cells, Value.oneCell']
  | own => simp [Value.cells, Value.oneCell']
  | ptr => simp [Value.cells, Value.oneCell']
  | fn => simp [Value.cells, Value.oneCell']

/-- Not moved away at the top. -/
def T.here : T → Bool
  | .gone => false
  | _ => true
theorem rep_one' {s : Nat} {π : Path} {u : Value} {y : T} (h : Rep G w s π u y) (hy : y.here = true) : u.cells = #[u] ∧ u.oneCell' = true := by
  cases h with
  | sc hs => cases u <;> simp_all [scal, Value.cells, Value.oneCell']
  | gone => simp [T.here] at hy
  | nil => simp [Value.cells, Value.oneCell']
  | shd => simp [Value.cells, Value.oneCell']
  | own => simp [Value.cells, Value.oneCell']
  | ptr => simp [Value.cells, Value.oneCell']
  | fn => simp [Value.cells, Value.oneCell']

/-- A variable in memory. -/
theorem OS_box {ag : Bool} {ts : List T} (hC : Within C mp) (hdC : d ∉ C) (hx : Gives X st C mp (fun j => [(0, j)]) x ag ts) (hh : ag = false → ∀ y ∈ ts, y.here = true) (hf : X.free d = true) :
    OStep X ⟨some d, .box t x, ty, pos, af, g⟩ st ((st.kill C).put d (.box ts)) := by
  rintro a w next Qx ⟨G, vals, hA⟩ hn
  obtain ⟨us, hpk, hl, -⟩ := gives_rep (d := d) (G' := renameC G d mp) (w' := w) hA hx (fun b h => ⟨by simp [renameC, h], rfl⟩) (fun b s j π ρ h hm => ⟨by simp [renameC, h, hm], rfl⟩)
  have hcells : (a.eval x).cells = us.toArray := by
    refine pack_cells hpk fun hag u hu => ?_
    obtain ⟨us', hpk', hl', hall⟩ := gives_rep (d := d) (G' := renameC G d mp) (w' := w) hA hx (fun b h => ⟨by simp [renameC, h], rfl⟩) (fun b s j π ρ h hm => ⟨by simp [renameC, h, hm], rfl⟩)
    subst hag
    have h1 := pack_inj hpk hpk'
    subst h1
    subst hu
    obtain ⟨y, rfl⟩ : ∃ y, ts = [y] := by match ts, hl with | [y], _ => exact ⟨y, rfl⟩
    exact (rep_one' (hall 0 y _ rfl rfl) (hh rfl y (by simp))).1
  have hr : (execOp a.eval ⟨some d, .box t x, ty, pos, af, g⟩).run X.P w = .ok (.value (.pointer (some ⟨w.heap.size, 0, none⟩))) { w with heap := w.heap.push (.cells us.toArray t) } := by
    simp [execOp, Instr.box, newVar, newRow, hcells]
  unfold Oper.wp
  rw [hr, Oper.upon_value]
  refine hn _ _ ⟨_, _, hA.make1 (n := w.drawn) (o := .at_ d []) hf hC hdC fun G' w' _ _ hp hm hG hb => ?_⟩
  obtain ⟨us', hpk', hl', hall⟩ := gives_rep (d := d) hA hx hp hm
  have := pack_inj hpk' hpk
  subst this
  exact ⟨w.heap.size, us'.toArray, t, rfl, hG, hb, by simpa using hl', fun j y u hy hu => hall j y u hy (by simpa using hu)⟩

/-! ### literals -/
/-- A zero value's cell and its tree. -/
def ZeroOK (v : Value) (t : T) : Prop := (scal v = true ∧ t = .sc v) ∨ (v = .slice none 0 0 ∧ ∃ m sz, t = .sl m sz [])
theorem zero_rep {G : Nat → Own} {w : World} {s : Nat} {π : Path} {v : Value} {t : T} (h : ZeroOK v t) : Rep G w s π v t := by
  rcases h with ⟨hs, rfl⟩ | ⟨rfl, m, sz, rfl⟩
  · exact .sc hs
  · exact .nil
def Zeros (P : Program) (t : TypeId) (zs : List T) : Prop := ∃ v, (P.info? t).bind (·.zero) = some v ∧ v.cells.size = zs.length ∧ ∀ (j : Nat) u y, v.cells[j]? = some u → zs[j]? = some y → ZeroOK u y

theorem run_zeroValue {P : Program} {w : World} {t : TypeId} {v : Value} (h : (P.info? t).bind (·.zero) = some v) : (zeroValue t).run P w = .ok v w := by
  obtain ⟨i, hi, hz⟩ := Option.bind_eq_some_iff.1 h
  simp [zeroValue, typeInfo, hi, hz]

/-- A zero variable in memory. -/
theorem OS_alloc {zs : List T} (hz : Zeros X.P t zs) (hf : X.free d = true) : OStep X ⟨some d, .alloc t, ty, pos, af, g⟩ st (st.put d (.box zs)) := by
  rintro a w next Qx ⟨G, vals, hA⟩ hn
  obtain ⟨v, hv, hl, hall⟩ := hz
  have hr : (execOp a.eval ⟨some d, .alloc t, ty, pos, af, g⟩).run X.P w = .ok (.value (.pointer (some ⟨w.heap.size, 0, none⟩))) { w with heap := w.heap.push (.cells v.cells t) } := by
    simp [execOp, Instr.alloc, newVar, newRow, run_zeroValue hv]
  unfold Oper.wp
  rw [hr, Oper.upon_value]
  have := hA.make1 (C := []) (mp := fun _ _ => none) (sv := .box zs) (v := .pointer (some ⟨w.heap.size, 0, none⟩)) (c := v.cells) (e := t) (n := w.drawn) (o := .at_ d []) hf (fun _ _ _ h => by cases h) (by simp) fun G' w' _ _ hp hm hG hb =>
    ⟨w.heap.size, v.cells, t, rfl, hG, hb, hl, fun j y u hy hu => zero_rep (hall j u y hu hy)⟩
  rw [kill_nil] at this
  exact hn _ _ ⟨_, _, this⟩

/-- Parts laid over cells, at places that a function tells. -/
def fillL {α : Type} (place : Nat → Option (Nat × Nat)) (cells : List α) : List (Nat × List α) → Option (List α)
  | [] => some cells
  | (i, v) :: rest => match place i with
    | none => none
    | some (off, size) => if v.length ≠ size || off + v.length > cells.length then none else fillL place (cells.take off ++ v ++ cells.drop (off + v.length)) rest

theorem foldl_set : ∀ (v : List Value) (off : Nat) (cs : Array Value) (n : Nat), off + n + v.length ≤ cs.size →
    ((v.zipIdx n).foldl (fun cs (p : Value × Nat) => cs.setIfInBounds (off + p.2) p.1) cs).toList = cs.toList.take (off + n) ++ v ++ cs.toList.drop (off + n + v.length)
  | [], off, cs, n, _ => by simp
  | x :: v, off, cs, n, h => by
    simp only [List.zipIdx_cons, List.foldl_cons]
    simp only [List.length_cons] at h
    rw [foldl_set v off _ (n + 1) (by simp; omega)]
    have hlt : off + n < cs.size := by omega
    rw [Array.toList_setIfInBounds]
    apply List.ext_getElem?
    intro i
    simp only [List.getElem?_append, List.length_append, List.length_take, List.length_set, Array.length_toList, List.getElem?_take, List.getElem?_drop, List.getElem?_set, List.length_cons]
    grind

theorem fill_eq {place : Nat → Option (Nat × Nat)} : ∀ (parts : List (Nat × Value)) (cells : Array Value),
    Instr.fill place cells parts = (fillL place cells.toList (parts.map fun p => (p.1, p.2.cells.toList))).map List.toArray
  | [], cells => by simp [Instr.fill, fillL]
  | (i, v) :: rest, cells => by
    simp only [Instr.fill, fillL, List.map_cons]
    cases place i with
    | none => rfl
    | some p =>
      obtain ⟨off, size⟩ := p
      simp only [Array.length_toList]
      by_cases h : (decide (v.cells.size ≠ size) || decide (off + v.cells.size > cells.size)) = true
      · rw [if_pos h, if_pos h]; rfl
      · have h' : off + v.cells.size ≤ cells.size := by simp at h; omega
        rw [if_neg h, if_neg h, fill_eq rest]
        congr 2
        rw [← Array.foldl_toList, Array.toList_zipIdx]
        have := foldl_set v.cells.toList off cells 0 (by simp; omega)
        simpa using this

/-- The same laying over two lists keeps what holds between their cells, place by place. -/
theorem fillL_rel {α β : Type} {R : Nat → α → β → Prop} {place : Nat → Option (Nat × Nat)} : ∀ (ps : List (Nat × List α)) (qs : List (Nat × List β)) (cs : List α) (ds : List β) {es : List β},
    cs.length = ds.length → (∀ (j : Nat) c e, cs[j]? = some c → ds[j]? = some e → R j c e) → ps.length = qs.length →
    (∀ (m : Nat) p q, ps[m]? = some p → qs[m]? = some q → p.1 = q.1 ∧ p.2.length = q.2.length ∧ ∀ off size, place p.1 = some (off, size) → ∀ (j : Nat) c e, p.2[j]? = some c → q.2[j]? = some e → R (off + j) c e) →
    fillL place ds qs = some es → ∃ rs, fillL place cs ps = some rs ∧ rs.length = es.length ∧ ∀ (j : Nat) c e, rs[j]? = some c → es[j]? = some e → R j c e
  | [], [], cs, ds, es, hl, hr, _, _, h => by simp only [fillL, Option.some.injEq] at h; subst h; exact ⟨cs, rfl, hl, hr⟩
  | [], _ :: _, _, _, _, _, _, h, _, _ => by simp at h
  | _ :: _, [], _, _, _, _, _, h, _, _ => by simp at h
  | (i, v) :: ps, (i', u) :: qs, cs, ds, es, hl, hr, hlen, hall, h => by
    obtain ⟨h1, h2, h3⟩ := hall 0 _ _ rfl rfl
    simp only at h1 h2 h3
    subst h1
    simp only [fillL] at h ⊢
    cases hp : place i with
    | none => rw [hp] at h; cases h
    | some q =>
      obtain ⟨off, size⟩ := q
      rw [hp] at h
      simp only at h ⊢
      rw [← h2, ← hl] at h
      split at h
      · cases h
      · rename_i hc
        rw [if_neg hc]
        simp only [ne_eq, decide_not, gt_iff_lt, Bool.or_eq_true, Bool.not_eq_eq_eq_not, Bool.not_true, decide_eq_false_iff_not, decide_eq_true_eq, not_or, Decidable.not_not, Nat.not_lt] at hc
        refine fillL_rel ps qs _ _ ?_ ?_ (by simpa using hlen) (fun m p q hm hq => hall (m + 1) p q (by simpa using hm) (by simpa using hq)) h
        · simp [h2, hl]
        · intro j c e hj he
          have h5 := h3 off size hp
          have h2' := h2
          by_cases ha : j < off
          · refine hr j c e ?_ ?_
            · rw [List.append_assoc, List.getElem?_append_left (by simp; omega), List.getElem?_take, if_pos ha] at hj; exact hj
            · rw [List.append_assoc, List.getElem?_append_left (by simp; omega), List.getElem?_take, if_pos ha] at he; exact he
          · by_cases hb : j < off + v.length
            · have : j = off + (j - off) := by omega
              rw [this]
              refine h5 (j - off) c e ?_ ?_
              · rw [List.append_assoc, List.getElem?_append_right (by simp; omega), List.getElem?_append_left (by simp; omega)] at hj
                rw [← hj]; congr 1; simp; omega
              · rw [List.append_assoc, List.getElem?_append_right (by simp; omega), List.getElem?_append_left (by simp; omega)] at he
                rw [← he]; congr 1; simp; omega
            · refine hr j c e ?_ ?_
              · rw [List.getElem?_append_right (by simp; omega), List.getElem?_drop] at hj
                rw [← hj]; congr 1; simp; omega
              · rw [List.getElem?_append_right (by simp; omega), List.getElem?_drop] at he
                rw [← he]; congr 1; simp; omega
end
end Go.V
namespace Go.V
open Go Go.RowKit

def placesL (P : Program) : List Field → Option (List (Nat × Nat))
  | [] => some []
  | f :: fs => (cells? P f.type).bind fun n => (placesL P fs).map fun l => (f.offset, n) :: l
def places? (P : Program) (t : TypeId) : Option (List (Nat × Nat)) :=
  match P.underlying t with
  | some (.struct fs) => placesL P fs.toList
  | _ => none

theorem run_places {P : Program} {w : World} : ∀ (fs : List Field) {l : List (Nat × Nat)}, placesL P fs = some l → (fs.mapM fun f => (do pure (f.offset, ← sizeOf f.type) : Sem (Nat × Nat))).run P w = .ok l w
  | [], l, h => by simp only [placesL, Option.some.injEq] at h; subst h; simp
  | f :: fs, l, h => by
    simp only [placesL] at h
    obtain ⟨n, hn, h⟩ := Option.bind_eq_some_iff.1 h
    obtain ⟨l', hl', rfl⟩ := Option.map_eq_some_iff.1 h
    have := run_places (w := w) fs hl'
    rw [List.mapM_cons, Sem.run_bind, Sem.run_bind, run_sizeOf hn]
    simp only [Result.andThen_ok, Sem.run_pure, Sem.run_bind]
    rw [this]
    rfl

section
variable {X : Cx} {st : St} {d : Nat} {t t' ty : TypeId} {x y z : Operand} {k : IntKind} {v : Value} {pos : String} {af : Array Edge} {g : Option (Nat × Bool)} {a : Act} {w w' : World} {G G' : Nat → Own} {vals : Nat → Value} {C : List Nat} {mp : Nat → Nat → Option Path}

/-- The parts of a literal: each operand with its trees, and where its cells go. -/
inductive Parts (X : Cx) (st : St) (C : List Nat) (mp : Nat → Nat → Option Path) (pl : Nat → Option (Nat × Nat)) (base : Nat → Path) : List (Nat × Operand) → List (Nat × List T) → Prop
  | nil : Parts X st C mp pl base [] []
  | cons {i x ag ts ps qs off size} (hp : pl i = some (off, size)) (h : Gives X st C mp (fun j => base (off + j)) x ag ts) (h1 : ag = false → ∀ y ∈ ts, y.here = true) (hr : Parts X st C mp pl base ps qs) :
      Parts X st C mp pl base ((i, x) :: ps) ((i, ts) :: qs)

theorem gives_cells (hA : Alls X st a w G vals) {base : Nat → Path} {ag : Bool} {ts : List T} (h : Gives X st C mp base x ag ts) (h1 : ag = false → ∀ y ∈ ts, y.here = true)
    (hp : ∀ b, G b = .pers → G' b = .pers ∧ w'.heap[b]? = w.heap[b]?)
    (ho : ∀ b s j π ρ, G b = .at_ s ((0, j) :: ρ) → mp s j = some π → G' b = .at_ d (π ++ ρ) ∧ w'.heap[b]? = w.heap[b]?) :
    (a.eval x).cells.toList.length = ts.length ∧ ∀ (j : Nat) u y, (a.eval x).cells.toList[j]? = some u → ts[j]? = some y → Rep G' w' d (base j) u y := by
  obtain ⟨us, hpk, hl, hall⟩ := gives_rep hA h hp ho
  have hc : (a.eval x).cells = us.toArray := pack_cells hpk fun hag u hu => by
    subst hag; subst hu
    obtain ⟨y, rfl⟩ : ∃ y, ts = [y] := by match ts, hl with | [y], _ => exact ⟨y, rfl⟩
    exact (rep_one' (hall 0 y _ rfl rfl) (h1 rfl y (by simp))).1
  rw [hc]
  exact ⟨hl, fun j u y hu hy => hall j y u hy hu⟩

theorem parts_rel (hA : Alls X st a w G vals) {pl : Nat → Option (Nat × Nat)} {base : Nat → Path} {ps : List (Nat × Operand)} {qs : List (Nat × List T)} (h : Parts X st C mp pl base ps qs)
    (hp : ∀ b, G b = .pers → G' b = .pers ∧ w'.heap[b]? = w.heap[b]?)
    (ho : ∀ b s j π ρ, G b = .at_ s ((0, j) :: ρ) → mp s j = some π → G' b = .at_ d (π ++ ρ) ∧ w'.heap[b]? = w.heap[b]?) :
    ps.length = qs.length ∧ ∀ (m : Nat) p q, (ps.map fun p => (p.1, (a.eval p.2).cells.toList))[m]? = some p → qs[m]? = some q →
      p.1 = q.1 ∧ p.2.length = q.2.length ∧ ∀ off size, pl p.1 = some (off, size) → ∀ (j : Nat) c e, p.2[j]? = some c → q.2[j]? = some e → Rep G' w' d (base (off + j)) c e := by
  induction h with
  | nil => exact ⟨rfl, fun m p q h => by simp at h⟩
  | cons hpl hg h1 _ ih =>
    obtain ⟨hl, hall⟩ := ih
    refine ⟨by simp [hl], fun m p q hm hq => ?_⟩
    cases m with
    | zero =>
      simp only [List.map_cons, List.getElem?_cons_zero, Option.some.injEq] at hm hq
      subst hm; subst hq
      obtain ⟨h2, h3⟩ := gives_cells hA hg h1 hp ho
      refine ⟨rfl, h2, fun off size h => ?_⟩
      rw [hpl] at h
      cases h
      exact h3
    | succ m => exact hall m p q (by simpa using hm) (by simpa using hq)

/-- A struct's value out of its fields. -/
theorem OS_build {pls : List (Nat × Nat)} {zs ts : List T} {parts : List (Nat × Operand)} {qs : List (Nat × List T)} (hpl : places? X.P t = some pls) (hz : Zeros X.P t zs) (hC : Within C mp) (hdC : d ∉ C)
    (hps : Parts X st C mp (pls[·]?) (fun j => [(0, j)]) parts qs) (hts : fillL (pls[·]?) zs qs = some ts) (hf : X.free d = true) :
    OStep X ⟨some d, .build t parts.toArray, ty, pos, af, g⟩ st ((st.kill C).put d (.val true (ts.map .t))) := by
  rintro a w next Qx ⟨G, vals, hA⟩ hn
  obtain ⟨zv, hzv, hzl, hzall⟩ := hz
  unfold places? at hpl
  split at hpl
  · rename_i fs hu
    have run : ∀ cells : List Value, fillL (pls[·]?) zv.cells.toList (parts.map fun p => (p.1, (a.eval p.2).cells.toList)) = some cells →
        (execOp a.eval ⟨some d, .build t parts.toArray, ty, pos, af, g⟩).run X.P w = .ok (.value (.agg cells.toArray)) w := by
      intro cells hc
      simp only [execOp]
      refine run_value ?_
      simp only [Instr.build, Sem.run_bind, run_zeroValue hzv, Result.andThen_ok, run_underlying hu]
      rw [Array.mapM_eq_mapM_toList]
      simp only [Sem.run_map]
      have hpr' : (fs.toList.mapM fun f => (do pure (f.offset, ← sizeOf f.type) : Sem (Nat × Nat))).run X.P w = .ok pls w := run_places fs.toList hpl
      rw [hpr']
      simp only [Result.andThen_ok]
      have hfe := fill_eq (place := fun i => pls[i]?) (parts.map fun p => (p.1, a.eval p.2)) zv.cells
      rw [List.map_map] at hfe
      simp only [Function.comp_def] at hfe
      rw [hc] at hfe
      simp [List.getElem?_toArray, hfe, Sem.run_pure]
    have key := fun (G' : Nat → Own) (w' : World) hp ho => fillL_rel (R := fun j u y => Rep G' w' d [(0, j)] u y) (parts.map fun p => (p.1, (a.eval p.2).cells.toList)) qs zv.cells.toList zs (by simpa using hzl)
      (fun j c e h1 h2 => zero_rep (hzall j c e (by simpa using h1) h2)) (by simpa using (parts_rel (G' := G') (w' := w') hA hps hp ho).1) (parts_rel (G' := G') (w' := w') hA hps hp ho).2 hts
    obtain ⟨cells, hcells, -⟩ := key (renameC G d mp) w (fun b h => ⟨by simp [renameC, h], rfl⟩) (fun b s j π ρ h hm => ⟨by simp [renameC, h, hm], rfl⟩)
    unfold Oper.wp
    rw [run cells hcells, Oper.upon_value]
    refine hn _ _ ⟨renameC G d mp, _, hA.make hf hC hdC (fun b _ => ⟨rfl, rfl⟩) (Nat.le_refl _) (fun b hb => renameC_outer hA hb) rfl rfl rfl fun hp ho => ?_⟩
    obtain ⟨cells', hcells', hl, hall⟩ := key (renameC G d mp) w hp ho
    rw [hcells] at hcells'
    cases hcells'
    refine ⟨cells, rfl, by simpa using hl, fun j c u hc hu => ?_⟩
    rw [List.getElem?_map] at hc
    obtain ⟨y, hy, rfl⟩ := Option.map_eq_some_iff.1 hc
    exact hall j u y hu hy
  · cases hpl

/-! ### rows -/
/-- Cells cut into elements. -/
def chop {α : Type} (sz : Nat) : Nat → List α → List (List α)
  | 0, _ => []
  | n + 1, l => l.take sz :: chop sz n (l.drop sz)
theorem chop_len {α : Type} (sz : Nat) : ∀ (n : Nat) (l : List α), (chop sz n l).length = n
  | 0, _ => rfl
  | n + 1, l => by simp [chop, chop_len sz n]
theorem chop_row {α : Type} (sz : Nat) : ∀ (n : Nat) (l : List α), l.length = n * sz → ∀ r ∈ chop sz n l, r.length = sz
  | 0, _, _ => by simp [chop]
  | n + 1, l, h => by
    intro r hr
    simp only [chop, List.mem_cons] at hr
    rw [Nat.add_mul] at h
    rcases hr with rfl | hr
    · simp; omega
    · exact chop_row sz n (l.drop sz) (by simp; omega) r hr
theorem chop_at {sz : Nat} : ∀ (n : Nat) (l : List T), l.length = n * sz → ∀ (i j : Nat) t, elAt (chop sz n l) i j = some t → i < n ∧ j < sz ∧ l[i * sz + j]? = some t
  | 0, l, _, i, j, t, h => by simp [chop, elAt] at h
  | n + 1, l, hl, 0, j, t, h => by
    simp only [chop, elAt, List.getElem?_cons_zero, Option.bind_some, List.getElem?_take] at h
    split at h
    · rename_i hj; exact ⟨by omega, hj, by simpa using h⟩
    · cases h
  | n + 1, l, hl, i + 1, j, t, h => by
    rw [Nat.add_mul] at hl
    obtain ⟨h1, h2, h3⟩ := chop_at (sz := sz) n (l.drop sz) (by simp; omega) i j t (by simpa [chop, elAt] using h)
    refine ⟨by omega, h2, ?_⟩
    rw [List.getElem?_drop] at h3
    rw [← h3]; congr 1
    rw [Nat.add_mul]; omega

/-- A whole row that was made just now. -/
theorem rep_row {G' : Nat → Own} {w' : World} {b sz n c : Nat} {cells : List Value} {ts : List T} {arr : Array Value} {e : TypeId} (hG : G' b = .at_ d [(0, 0)]) (hb : w'.heap[b]? = some (.cells arr e (0, 0))) (hc : n ≤ c) (ha : c * sz ≤ arr.size)
    (hl : ts.length = n * sz) (hcl : cells.length = ts.length) (harr : ∀ (j : Nat) u, cells[j]? = some u → arr[j]? = some u)
    (hall : ∀ (i j : Nat) u y, i < n → j < sz → cells[i * sz + j]? = some u → ts[i * sz + j]? = some y → Rep G' w' d [(0, 0), (i, j)] u y) :
    Rep G' w' d [(0, 0)] (.slice (some ⟨b, 0, none⟩) n c) (.sl true sz (chop sz n ts)) := by
  have hcell : ∀ (i j : Nat) t, elAt (chop sz n ts) i j = some t → i < n ∧ j < sz ∧ ts[i * sz + j]? = some t ∧ ∃ u, cells[i * sz + j]? = some u := by
    intro i j t h
    obtain ⟨h1, h2, h3⟩ := chop_at n ts hl i j t h
    have hlt : i * sz + j < ts.length := (List.getElem?_eq_some_iff.1 h3).1
    exact ⟨h1, h2, h3, _, List.getElem?_eq_getElem (by omega)⟩
  refine .own (fun i j => (cells[i * sz + j]?).getD default) hG (chop_len sz n ts).symm hc (chop_row sz n ts hl) hb (by simpa using ha) (fun i j t h => ?_) (fun i j t h => ?_)
  · obtain ⟨h1, h2, h3, u, hu⟩ := hcell i j t h
    simp only [World.cell?, hb, Nat.zero_add, hu, Option.getD_some]
    simpa using harr _ _ hu
  · obtain ⟨h1, h2, h3, u, hu⟩ := hcell i j t h
    simp only [hu, Option.getD_some]
    exact hall i j u t h1 h2 hu h3

/-- A slice literal. -/
theorem OS_buildSlice {e : TypeId} {sz n : Nat} {ts zs : List T} {parts : List (Nat × Operand)} {qs : List (Nat × List T)} (he : elem? X.P t = some (e, sz)) (hz : Zeros X.P e zs) (hzl : zs.length = sz) (hsz : sz ≠ 0) (hn : n * sz ≤ 2 ^ 24) (hC : Within C mp) (hdC : d ∉ C)
    (hps : Parts X st C mp (fun i => some (i * sz, sz)) (fun j => [(0, 0), (j / sz, j % sz)]) parts qs) (hts : fillL (fun i => some (i * sz, sz)) ((List.range (n * sz)).map fun i => (zs[i % sz]?).getD .gone) qs = some ts) (hf : X.free d = true) :
    OStep X ⟨some d, .buildSlice t n parts.toArray, ty, pos, af, g⟩ st ((st.kill C).put d (one (.sl true sz (chop sz n ts)))) := by
  rintro a w next Qx ⟨G, vals, hA⟩ hnx
  obtain ⟨zv, hzv, hzl', hzall⟩ := hz
  unfold elem? at he
  split at he
  · rename_i e' hu
    obtain ⟨m, hm, hx⟩ := Option.map_eq_some_iff.1 he
    cases hx
    let zc : Array Value := if n * sz = 0 then #[] else zv.cells
    have hzc : (Array.range (n * sz)).map (fun i => zc[i % zc.size]!) = ((List.range (n * sz)).map fun i => zv.cells[i % sz]!).toArray := by
      by_cases h0 : n * sz = 0
      · simp [h0]
      · simp only [zc, if_neg h0]
        apply Array.ext'
        simp [hzl', hzl]
    have run : ∀ cells : List Value, fillL (fun i => some (i * sz, sz)) ((List.range (n * sz)).map fun i => zv.cells[i % sz]!) (parts.map fun p => (p.1, (a.eval p.2).cells.toList)) = some cells →
        (execOp a.eval ⟨some d, .buildSlice t n parts.toArray, ty, pos, af, g⟩).run X.P w = .ok (.value (.slice (some ⟨w.heap.size, 0, none⟩) n n)) { w with heap := w.heap.push (.cells cells.toArray e) } := by
      intro cells hc
      simp only [execOp]
      refine run_value ?_
      have hfe := fill_eq (place := fun i => some (i * sz, sz)) (parts.map fun p => (p.1, a.eval p.2)) ((List.range (n * sz)).map fun i => zv.cells[i % sz]!).toArray
      rw [List.map_map, show ((List.range (n * sz)).map fun i => zv.cells[i % sz]!).toArray.toList = _ from rfl] at hfe
      rw [show (((fun p : Nat × Value => (p.1, p.2.cells.toList)) ∘ fun p : Nat × Operand => (p.1, a.eval p.2))) = fun p => (p.1, (a.eval p.2).cells.toList) from rfl, hc] at hfe
      simp only [Instr.buildSlice, Sem.run_bind, run_underlying hu, Result.andThen_ok, run_sizeOf hm]
      rw [if_neg (by omega)]
      by_cases h0 : n * sz = 0
      · simp only [zc, if_pos h0] at hzc
        rw [if_pos h0]
        simp only [Sem.run_bind, Sem.run_pure, Result.andThen_ok]
        rw [hzc]
        simp [hfe, newRow]
      · simp only [zc, if_neg h0] at hzc
        rw [if_neg h0]
        simp only [Sem.run_bind, Sem.run_pure, Result.andThen_ok, run_zeroValue hzv]
        rw [hzc]
        simp [hfe, newRow]
    have key := fun (G' : Nat → Own) (w' : World) hp ho => fillL_rel (R := fun j u y => Rep G' w' d [(0, 0), (j / sz, j % sz)] u y) (parts.map fun p => (p.1, (a.eval p.2).cells.toList)) qs ((List.range (n * sz)).map fun i => zv.cells[i % sz]!) ((List.range (n * sz)).map fun i => (zs[i % sz]?).getD .gone) (by simp)
      (fun j c y h1 h2 => by
        rw [List.getElem?_map] at h1 h2
        obtain ⟨i, hi, rfl⟩ := Option.map_eq_some_iff.1 h1
        rw [hi] at h2
        simp only [Option.map_some, Option.some.injEq] at h2
        subst h2
        have hlt : i % sz < zs.length := by rw [hzl]; exact Nat.mod_lt _ (by omega)
        refine zero_rep (hzall (i % sz) _ _ ?_ (by rw [List.getElem?_eq_getElem hlt]; rfl))
        rw [getElem!_pos zv.cells (i % sz) (by rw [hzl']; exact hlt)]
        exact Array.getElem?_eq_getElem _) (by simpa using (parts_rel (G' := G') (w' := w') hA hps hp ho).1) (parts_rel (G' := G') (w' := w') hA hps hp ho).2 hts
    obtain ⟨cells, hcells, hcl, -⟩ := key (renameC G d mp) w (fun b h => ⟨by simp [renameC, h], rfl⟩) (fun b s j π ρ h hm => ⟨by simp [renameC, h, hm], rfl⟩)
    unfold Oper.wp
    rw [run cells hcells, Oper.upon_value]
    refine hnx _ _ ⟨_, _, hA.make1 (n := w.drawn) (o := .at_ d [(0, 0)]) hf hC hdC fun G' w' _ _ hp ho hG hb => ?_⟩
    obtain ⟨cells', hcells', hl, hall⟩ := key G' w' hp ho
    rw [hcells] at hcells'
    cases hcells'
    have hlen : ts.length = n * sz := by
      have hfl : ∀ (qs : List (Nat × List T)) (cs es : List T), fillL (fun i => some (i * sz, sz)) cs qs = some es → es.length = cs.length := by
        intro qs
        induction qs with
        | nil => intro cs es h; simp only [fillL, Option.some.injEq] at h; rw [h]
        | cons q qs ih =>
          intro cs es h
          obtain ⟨i, v⟩ := q
          simp only [fillL] at h
          split at h
          · cases h
          · rename_i hc
            have := ih _ _ h
            rw [this]
            simp at hc ⊢
            omega
      rw [hfl _ _ _ hts]; simp
    refine slotRep_one.2 (rep_row hG hb (Nat.le_refl _) (by simp [hcl, hlen]) hlen hcl (fun j u h => by simpa using h) fun i j u y hi hj h1 h2 => ?_)
    have := hall _ u y h1 h2
    rwa [show (i * sz + j) / sz = i by rw [Nat.mul_comm, Nat.mul_add_div (by omega), Nat.div_eq_of_lt hj, Nat.add_zero], show (i * sz + j) % sz = j by rw [Nat.mul_comm, Nat.mul_add_mod, Nat.mod_eq_of_lt hj]] at this
  · cases he

/-- make([]e, n, c). -/
theorem OS_makeSlice {e : TypeId} {sz by_ : Nat} {n c : Int} {zs : List T} (he : elem? X.P t = some (e, sz)) (hz : Zeros X.P e zs) (hzl : zs.length = sz) (hby : (X.P.info? e).map (·.bytes) = some by_) (hx : Opd X.N st x (scv (.int .i64 n))) (hy : Opd X.N st y (scv (.int .i64 c)))
    (h0 : 0 ≤ n) (hc : n ≤ c) (hm : c ≤ 9223372036854775807) (hb : (by_ : Int) * c ≤ 281474976710656) (hf : X.free d = true) :
    OStep X ⟨some d, .makeSlice t x y, ty, pos, af, g⟩ st (st.put d (one (.sl true sz (List.replicate n.toNat zs)))) := by
  rintro a w next Qx ⟨G, vals, hA⟩ hnx
  obtain ⟨zv, hzv, hzl', hzall⟩ := hz
  unfold elem? at he
  split at he
  · rename_i e' hu
    obtain ⟨m, hm', hx'⟩ := Option.map_eq_some_iff.1 he
    cases hx'
    have hwn : IntKind.i64.wrap n = n := by simp only [IntKind.wrap, IntKind.bits, IntKind.signed]; simp; omega
    have hwc : IntKind.i64.wrap c = c := by simp only [IntKind.wrap, IntKind.bits, IntKind.signed]; simp; omega
    obtain ⟨i, hi, hib⟩ := Option.map_eq_some_iff.1 hby
    let cells := (List.range (c.toNat * sz)).map fun i => zv.cells[i % sz]!
    have run : (execOp a.eval ⟨some d, .makeSlice t x y, ty, pos, af, g⟩).run X.P w = .ok (.value (.slice (some ⟨w.heap.size, 0, none⟩) n.toNat c.toNat)) { w with heap := w.heap.push (.cells cells.toArray e) } := by
      simp only [execOp, (opd_sc hA hx).1, (opd_sc hA hy).1]
      refine run_value ?_
      simp only [Instr.makeSlice, Sem.run_bind, run_underlying hu, Result.andThen_ok, asInt, asIntOf, Sem.run_pure, typeInfo, run_program, hi, hib, hwn, hwc]
      have hcond : ¬ (((decide (c < 0) || decide ((by_ : Int) * c > 2 ^ 48)) || decide (n < 0) || decide (n > c)) = true) := by simp; omega
      rw [if_neg (by simpa using hcond)]
      by_cases hz0 : c.toNat * sz = 0
      · simp [run_sizeOf hm', hz0, newRow, cells]
        congr 2
        apply Array.ext'
        simp
      · simp [run_sizeOf hm', hz0, run_zeroValue hzv, newRow, cells, hzl', hzl]
        congr 2
        apply Array.ext'
        simp
    unfold Oper.wp
    rw [run, Oper.upon_value]
    have := hA.make1 (C := []) (mp := fun _ _ => none) (d := d) (sv := one (.sl true sz (List.replicate n.toNat zs))) (v := .slice (some ⟨w.heap.size, 0, none⟩) n.toNat c.toNat) (c := cells.toArray) (e := e) (n := w.drawn) (o := .at_ d [(0, 0)]) hf (fun _ _ _ h => by cases h) (by simp) fun G' w' _ _ hp ho hG hb' => ?_
    · rw [kill_nil] at this
      exact hnx _ _ ⟨_, _, this⟩
    · refine slotRep_one.2 (.own (fun _ j => zv.cells[j]!) hG (by simp) (by omega) (fun r hr => by rw [(List.mem_replicate.1 hr).2]; exact hzl) hb' (by simp [cells]) (fun i j t h => ?_) (fun i j t h => ?_))
      all_goals
        simp only [elAt, List.getElem?_replicate] at h
        split at h
        rotate_left
        · cases h
        rename_i hi'
        simp only [Option.bind_some] at h
        have hj : j < sz := by rw [← hzl]; exact (List.getElem?_eq_some_iff.1 h).1
      · have hlt : i * sz + j < c.toNat * sz := by
          have : i + 1 ≤ c.toNat := by omega
          have := Nat.mul_le_mul_right sz this
          rw [Nat.add_mul] at this; omega
        simp only [World.cell?, hb', Nat.zero_add, cells]
        rw [List.getElem?_toArray, List.getElem?_map, List.getElem?_range hlt]
        simp [show (i * sz + j) % sz = j by rw [Nat.mul_comm, Nat.mul_add_mod, Nat.mod_eq_of_lt hj]]
      · have hjz : j < zv.cells.size := by rw [hzl', hzl]; exact hj
        refine zero_rep (hzall j _ t ?_ h)
        rw [getElem!_pos zv.cells j hjz]
        exact Array.getElem?_eq_getElem _
  · cases he
end
end Go.V
namespace Go.V
open Go Go.RowKit

def T.setAt : T → Path → T → T
  | _, [], y => y
  | .sl true sz els, (i, j) :: π, y => .sl true sz (els.modify i fun r => r.modify j fun c => c.setAt π y)
  | x, _ :: _, _ => x

theorem elAt_modify (els : List (List T)) (i j : Nat) (f : T → T) (i' j' : Nat) :
    elAt (els.modify i fun r => r.modify j f) i' j' = if i = i' ∧ j = j' then (elAt els i' j').map f else elAt els i' j' := by
  simp only [elAt, List.getElem?_modify]
  by_cases hi : i = i'
  · subst hi
    cases els[i]? with
    | none => simp
    | some r =>
      simp only [if_true, Option.map_eq_map, Option.map_some, Option.bind_some, List.getElem?_modify, true_and]
      by_cases hj : j = j'
      · subst hj; simp
      · simp [hj]
  · simp [hi]

def Cell.mod (f : T → T) : Cell → Cell
  | .t x => .t (f x)
  | c => c
def SV.mod (sv : SV) (k j : Nat) (f : T → T) : SV :=
  match sv with
  | .val a cs => if k = 0 then .val a (cs.modify j (Cell.mod f)) else .val a cs
  | .tup vs => .tup (vs.modify k fun p => (p.1, p.2.modify j (Cell.mod f)))
  | .box cs => if k = 0 then .box (cs.modify j f) else .box cs
  | sv => sv
/-- The state with another tree at a place; its root's number rises. -/
def St.setAt (st : St) (r : Nat) (π : Path) (y : T) : St :=
  match π with
  | [] => st
  | (k, j) :: π => st.put r ((st r).sv.mod k j fun x => x.setAt π y)

section
variable {X : Cx} {st st' : St} {d : Nat} {t t' ty : TypeId} {x y z : Operand} {k : IntKind} {v : Value} {pos : String} {af : Array Edge} {g : Option (Nat × Bool)} {a : Act} {w w' : World} {G G' : Nat → Own} {vals vals' : Nat → Value} {C : List Nat} {mp : Nat → Nat → Option Path}

theorem not_pre {π0 π : Path} {q q' : Nat × Nat} (h : q ≠ q') (ρ : Path) : ¬ (π0 ++ q :: π) <+: (π0 ++ [q'] ++ ρ) := by
  intro hp
  rw [List.append_assoc, List.prefix_append_right_inj] at hp
  simp only [List.singleton_append, List.cons_prefix_cons] at hp
  exact h hp.1

theorem not_pre_len {π0 π : Path} {q : Nat × Nat} : ¬ (π0 ++ q :: π) <+: π0 := by
  intro hp
  have := hp.length_le
  simp at this
  omega

theorem modify_at (els : List (List T)) (i j : Nat) (f : T → T) {i' j' : Nat} {t : T} (h : elAt (els.modify i fun r => r.modify j f) i' j' = some t) :
    ∃ t0, elAt els i' j' = some t0 ∧ ((i = i' ∧ j = j' ∧ t = f t0) ∨ (¬ (i = i' ∧ j = j') ∧ t = t0)) := by
  rw [elAt_modify] at h
  split at h
  · rename_i hij
    obtain ⟨t0, h1, rfl⟩ := Option.map_eq_some_iff.1 h
    exact ⟨t0, h1, .inl ⟨hij.1, hij.2, rfl⟩⟩
  · rename_i hij
    exact ⟨t, h, .inr ⟨hij, rfl⟩⟩

theorem modify_row {els : List (List T)} {i j sz : Nat} {f : T → T} (hr : ∀ r ∈ els, r.length = sz) : ∀ r ∈ (els.modify i fun r => r.modify j f), r.length = sz := by
  intro r hr'
  obtain ⟨m, hm⟩ := List.getElem?_of_mem hr'
  rw [List.getElem?_modify] at hm
  split at hm
  · obtain ⟨r0, h1, rfl⟩ := Option.map_eq_some_iff.1 hm
    simpa using hr r0 (List.mem_of_getElem? h1)
  · exact hr r (List.mem_of_getElem? (by simpa using hm))

/-- A tree in which one node was replaced. -/
theorem Rep.replace {s : Nat} {u1 : Value} {x1 y : T} (hp : ∀ b, G b = .pers → G' b = .pers ∧ w'.heap[b]? = w.heap[b]?) : ∀ {π π0 : Path} {u : Value} {x : T}, Rep G w s π0 u x → descend w u x π = some (u1, x1) → Rep G' w' s (π0 ++ π) u1 y →
    (∀ b ρ, G b = .at_ s ρ → ¬ (π0 ++ π) <+: ρ → G' b = .at_ s ρ ∧ w'.heap[b]? = w.heap[b]?) → Rep G' w' s π0 u (x.setAt π y)
  | [], π0, u, x, _, hd, hy, _ => by
    simp only [descend, Option.some.injEq, Prod.mk.injEq] at hd
    obtain ⟨rfl, rfl⟩ := hd
    simpa [T.setAt] using hy
  | (i, j) :: π, π0, u, x, h, hd, hy, ho => by
    unfold descend at hd
    split at hd
    · cases ‹_ :: _ = []›
    · rename_i heq
      cases heq
      obtain ⟨z, hz, hd⟩ := Option.bind_eq_some_iff.1 hd
      obtain ⟨uz, huz, hd⟩ := Option.bind_eq_some_iff.1 hd
      cases h with
      | nil => simp [elAt] at hz
      | own f hG hn hc hr hb ha hv ht =>
        have h0 := ho _ _ hG not_pre_len
        have hfz := hv _ _ _ hz
        rw [hfz] at huz
        cases huz
        simp only [T.setAt]
        refine .own f h0.1 (by simpa using hn) hc (modify_row hr) (h0.2.trans hb) ha (fun i' j' t h => ?_) (fun i' j' t h => ?_)
        · obtain ⟨t0, h1, -⟩ := modify_at _ _ _ _ h
          exact (cell_eq h0.2).trans (hv _ _ _ h1)
        · obtain ⟨t0, h1, ⟨rfl, rfl, rfl⟩ | ⟨hne, rfl⟩⟩ := modify_at _ _ _ _ h
          · rw [h1] at hz
            cases hz
            refine Rep.replace hp (ht _ _ _ h1) hd (by simpa using hy) fun b ρ hb hnp => ho b ρ hb (by simpa using hnp)
          · refine (ht _ _ _ h1).move hp fun b ρ hb => ?_
            exact ho b _ hb (not_pre (by intro e; cases e; exact hne ⟨rfl, rfl⟩) ρ)
    · cases hd

/-- A reference kept, whoever holds it. -/
theorem ref_keep (h : Inv X.pins G w st vals) {K : Nat → Prop} (hst : ∀ s, ¬ K s → st' s = st s) (hva : ∀ s, ¬ K s → vals' s = vals s) (hver : ∀ s, K s → (st s).ver < (st' s).ver)
    (ho : ∀ b s ρ, G b = .at_ s ρ → ¬ K s → G' b = .at_ s ρ ∧ w'.heap[b]? = w.heap[b]?)
    {s k j s' k' j' r ver : Nat} {π : Path} {u : Value} (hc : CellRep G w st vals s k j u (.ref r ver π)) : CellRep G' w' st' vals' s' k' j' u (.ref r ver π) := by
  obtain ⟨hle, hc⟩ := hc
  by_cases hr : K r
  · exact ⟨Nat.le_of_lt (Nat.lt_of_le_of_lt hle (hver r hr)), fun he => by have := hver r hr; omega⟩
  · refine ⟨by rw [hst r hr]; exact hle, fun he => ?_⟩
    rw [hst r hr] at he
    rw [place_keep h (hst r hr) (hva r hr) fun b ρ hb => (ho b r ρ hb hr).2]
    exact hc he

/-- A slot in which the tree at a place was replaced. -/
theorem slot_replace (h : Inv X.pins G w st vals) {K : Nat → Prop} {r k j : Nat} {π : Path} {u1 : Value} {x1 y : T} (hst : ∀ s, ¬ K s → st' s = st s) (hva : ∀ s, ¬ K s → vals' s = vals s) (hver : ∀ s, K s → (st s).ver < (st' s).ver)
    (hp : ∀ b, G b = .pers → G' b = .pers ∧ w'.heap[b]? = w.heap[b]?) (ho : ∀ b s ρ, G b = .at_ s ρ → ¬ K s → G' b = .at_ s ρ ∧ w'.heap[b]? = w.heap[b]?)
    (hpl : place vals st w r ((k, j) :: π) = some (u1, x1)) (hy : Rep G' w' r ((k, j) :: π) u1 y)
    (hor : ∀ b ρ, G b = .at_ r ρ → ¬ ((k, j) :: π) <+: ρ → G' b = .at_ r ρ ∧ w'.heap[b]? = w.heap[b]?) : SlotRep G' w' st' vals' r (vals r) ((st r).sv.mod k j fun x => x.setAt π y) := by
  simp only [place] at hpl
  obtain ⟨u0, h0, hpl⟩ := Option.bind_eq_some_iff.1 hpl
  split at hpl
  rotate_left
  · cases hpl
  rename_i x0 hx0
  have hrep0 := cellRep_root h hx0 h0
  have hnew : Rep G' w' r [(k, j)] u0 (x0.setAt π y) := Rep.replace hp hrep0 hpl (by simpa using hy) (by simpa using hor)
  have hother : ∀ (k' j' : Nat) {u : Value} {c : Cell}, (k', j') ≠ (k, j) → CellRep G w st vals r k' j' u c → CellRep G' w' st' vals' r k' j' u c := by
    intro k' j' u c hne hc
    cases c with
    | t x => exact Rep.move hc hp fun b ρ hb => hor b _ hb (by
        intro hpre
        simp at hpre
        exact hne (by rw [hpre.1.1, hpre.1.2]))
    | ref => exact ref_keep h hst hva hver ho hc
  have hs := h.slots r
  cases hsv : (st r).sv with
  | dead => simp [hsv, SV.cell] at hx0
  | addr => simp [hsv, SV.cell] at hx0
  | bld => simp [hsv, SV.cell] at hx0
  | val ag cs =>
    rw [hsv] at hs h0 hx0
    simp only [SV.cell] at hx0
    split at hx0
    rotate_left
    · cases hx0
    rename_i hk
    subst hk
    simp only [SV.mod, if_true]
    obtain ⟨us, hpk, hl, hall⟩ := hs
    refine ⟨us, hpk, by simpa using hl, fun j' c u hc hu => ?_⟩
    rw [List.getElem?_modify] at hc
    split at hc
    · rename_i hj
      subst hj
      rw [hx0] at hc
      cases hc
      have hu' := cellVal_val (w := w) hpk (cs := cs) j hu
      rw [h0] at hu'
      cases hu'
      exact hnew
    · rename_i hj
      exact hother 0 j' (by intro e; cases e; exact hj rfl) (hall j' c u (by simpa using hc) hu)
  | tup vs =>
    rw [hsv] at hs h0 hx0
    simp only [SV.cell] at hx0
    obtain ⟨p0, hp0, hx0⟩ := Option.bind_eq_some_iff.1 hx0
    simp only [SV.mod]
    obtain ⟨arr, hv, hl, hall⟩ := hs
    simp only [cellVal, hv, hp0, Option.bind_some] at h0
    obtain ⟨uk, huk, h0⟩ := Option.bind_eq_some_iff.1 h0
    refine ⟨arr, hv, by simpa using hl, fun k' p u hpk hu => ?_⟩
    rw [List.getElem?_modify] at hpk
    split at hpk
    · rename_i hk
      subst hk
      rw [hp0] at hpk
      cases hpk
      obtain ⟨us, hpk, hl', hall'⟩ := hall k p0 u hp0 hu
      rw [huk] at hu
      cases hu
      refine ⟨us, hpk, by simpa using hl', fun j' c u' hc hu' => ?_⟩
      simp only [List.getElem?_modify] at hc
      split at hc
      · rename_i hj
        subst hj
        rw [hx0] at hc
        cases hc
        rw [packed_of hpk, hu'] at h0
        cases h0
        exact hnew
      · rename_i hj
        exact hother k j' (by intro e; cases e; exact hj rfl) (hall' j' c u' (by simpa using hc) hu')
    · rename_i hk
      obtain ⟨us, hpk', hl', hall'⟩ := hall k' p u (by simpa using hpk) hu
      exact ⟨us, hpk', hl', fun j' c u' hc hu' => hother k' j' (by intro e; cases e; exact hk rfl) (hall' j' c u' hc hu')⟩
  | box cs =>
    rw [hsv] at hs h0 hx0
    simp only [SV.cell] at hx0
    split at hx0
    rotate_left
    · cases hx0
    rename_i hk
    subst hk
    obtain ⟨x00, hx00, he⟩ := Option.map_eq_some_iff.1 hx0
    cases he
    simp only [SV.mod, if_true]
    obtain ⟨b, arr, ty', hv, hG, hb, hl, hall⟩ := hs
    have hbb := hor b _ hG (by intro hpre; have := hpre.length_le; simp at this)
    refine ⟨b, arr, ty', hv, hbb.1, hbb.2.trans hb, by simpa using hl, fun j' c u hc hu => ?_⟩
    rw [List.getElem?_modify] at hc
    split at hc
    · rename_i hj
      subst hj
      rw [hx00] at hc
      cases hc
      simp only [cellVal, hv, World.cell?, hb, Nat.zero_add] at h0
      have : arr[j]? = some u0 := by simpa using h0
      rw [hu] at this
      cases this
      exact hnew
    · rename_i hj
      have := hother 0 j' (u := u) (c := .t c) (by intro e; cases e; exact hj rfl) (hall j' c u (by simpa using hc) hu)
      exact this

/-- The frame of a step, for all that is asked beside the slots. -/
theorem Alls.step (hA : Alls X st a w G vals) {K : Nat → Prop} {a' : Act} (hst : ∀ s, ¬ K s → st' s = st s) (hva : ∀ s, ¬ K s → vals' s = vals s) (hver : ∀ s, K s → (st s).ver < (st' s).ver)
    (hold : ∀ b, G b = .pers ∨ G b = .outer ∧ b < w.heap.size → G' b = G b ∧ w'.heap[b]? = w.heap[b]?) (ho : ∀ b s ρ, G b = .at_ s ρ → ¬ K s → G' b = .at_ s ρ ∧ w'.heap[b]? = w.heap[b]?)
    (hnew : (∀ b, G b = .pers → G' b = .pers ∧ w'.heap[b]? = w.heap[b]?) → ∀ s, K s → SlotRep G' w' st' vals' s (vals' s) (st' s).sv) (halloc : ∀ b, w'.heap.size ≤ b → G' b = .outer) (hpin : ∀ p ∈ X.pins, vals' p.1 = p.2)
    (hsz : w.heap.size ≤ w'.heap.size) (hos : w'.os = w.os) (htp : w'.tape = w.tape) (hout : w'.output = w.output) (hd : a'.defers = []) (hN : a'.tmps.size = X.N) (hlk : ∀ t, t < X.N → a'.tmps.getD t undef = vals' t) :
    Alls X st' a' w' G' vals' := by
  have hp : ∀ b, G b = .pers → G' b = .pers ∧ w'.heap[b]? = w.heap[b]? := fun b h => by have := hold b (.inl h); exact ⟨by rw [this.1, h], this.2⟩
  refine ⟨hd, hN, hlk, hA.inv.step (K := K) hst hva hver hp ho (hnew hp) halloc hpin, ?_⟩
  refine ⟨fun b h => ?_, fun b hb h => ?_, Nat.le_trans hA.base.size hsz, hos.trans hA.base.os, htp.trans hA.base.tape, hout.trans hA.base.output⟩
  · have h2 := hA.base.pers b h
    have h3 := hp b h2.1
    exact ⟨h3.1, h3.2.trans h2.2⟩
  · have h2 := hA.base.outer b hb h
    have h3 := hold b (.inr ⟨h2.1, Nat.lt_of_lt_of_le hb hA.base.size⟩)
    exact ⟨by rw [h3.1, h2.1], h3.2.trans h2.2⟩
end
end Go.V
namespace Go.V
open Go Go.RowKit

/-- A list with a stretch of it written over. -/
def over {α : Type} (l : List α) (j : Nat) (ts : List α) : List α := l.take j ++ ts ++ l.drop (j + ts.length)
theorem over_len {α : Type} {l ts : List α} {j : Nat} (h : j + ts.length ≤ l.length) : (over l j ts).length = l.length := by simp [over]; omega
theorem over_get {α : Type} {l ts : List α} {j : Nat} (h : j + ts.length ≤ l.length) (m : Nat) : (over l j ts)[m]? = if j ≤ m ∧ m < j + ts.length then ts[m - j]? else l[m]? := by
  unfold over
  by_cases h1 : m < j
  · rw [if_neg (by omega), List.append_assoc, List.getElem?_append_left (by simp; omega), List.getElem?_take, if_pos h1]
  · by_cases h2 : m < j + ts.length
    · rw [if_pos ⟨by omega, h2⟩, List.append_assoc, List.getElem?_append_right (by simp; omega), List.getElem?_append_left (by simp; omega)]
      congr 1; simp; omega
    · rw [if_neg (by omega), List.getElem?_append_right (by simp; omega), List.getElem?_drop]
      congr 1; simp; omega

section
variable {X : Cx} {st st' : St} {d : Nat} {t t' ty : TypeId} {x y z : Operand} {k : IntKind} {v : Value} {pos : String} {af : Array Edge} {g : Option (Nat × Bool)} {a : Act} {w w' : World} {G G' : Nat → Own} {vals vals' : Nat → Value} {C : List Nat} {mp : Nat → Nat → Option Path}

/-- A store of n cells into a block that bears no mark. -/
theorem storeAt_run {P : Program} {w : World} {n b o : Nat} {e : TypeId} {arr : Array Value} {v : Value} (hs : cells? P t = some n) (hb : w.heap[b]? = some (.cells arr e (0, 0))) (hn : v.cells.size = n) (ho : o + n ≤ arr.size) (h1 : ∀ u ∈ v.cells.toList, u.oneCell' = true) :
    (Instr.storeAt t (.pointer (some ⟨b, o, none⟩)) v).run P w = .ok () (w.setRow b (over arr.toList o v.cells.toList).toArray) := by
  simp only [Instr.storeAt, Instr.sureAddr, storeVar, Sem.run_bind, Sem.run_pure, Result.andThen_ok, run_sizeOf hs]
  have := run_storeCells_at (P := P) b o e v.cells.toList 0 arr w hb (by simp; omega) h1
  rw [if_neg (by simp [hn])]
  simp only [Nat.add_zero] at this
  rw [this]
  rfl

theorem setRow_facts (w : World) (b : Nat) (c : Array Value) : (w.setRow b c).heap.size = w.heap.size ∧ (w.setRow b c).os = w.os ∧ (w.setRow b c).tape = w.tape ∧ (w.setRow b c).output = w.output := ⟨by simp, rfl, rfl, rfl⟩

/-- Which cells of the operand, at which places. -/
theorem gives_list (hA : Alls X st a w G vals) {base : Nat → Path} {ag : Bool} {ts : List T} (h : Gives X st C mp base x ag ts) (h1 : ∀ y ∈ ts, y.here = true) {r : Nat}
    (hp : ∀ b, G b = .pers → G' b = .pers ∧ w'.heap[b]? = w.heap[b]?)
    (ho : ∀ b s j π ρ, G b = .at_ s ((0, j) :: ρ) → mp s j = some π → G' b = .at_ r (π ++ ρ) ∧ w'.heap[b]? = w.heap[b]?) :
    (a.eval x).cells.toList.length = ts.length ∧ (∀ u ∈ (a.eval x).cells.toList, u.oneCell' = true) ∧ ∀ (j : Nat) u y, (a.eval x).cells.toList[j]? = some u → ts[j]? = some y → Rep G' w' r (base j) u y := by
  obtain ⟨h2, h3⟩ := gives_cells hA h (fun _ => h1) hp ho
  refine ⟨h2, fun u hu => ?_, h3⟩
  obtain ⟨j, hj⟩ := List.getElem?_of_mem hu
  have hlt : j < ts.length := by rw [← h2]; exact (List.getElem?_eq_some_iff.1 hj).1
  exact (rep_one' (h3 j u _ hj (List.getElem?_eq_getElem hlt)) (h1 _ (List.getElem_mem hlt))).2

/-- The slots that a store changes: the root, what was given away. -/
theorem OS_store_box {s r i j : Nat} {ag : Bool} {ts cs : List T} (hN : s < X.N) (hsv : (st s).sv = .addr r (st r).ver [] i j) (hr : (st r).sv = .box cs) (hs : cells? X.P t = some ts.length) (hle : j + ts.length ≤ cs.length)
    (hC : Within C mp) (hrC : r ∉ C) (hx : Gives X st C mp (fun m => [(0, j + m)]) x ag ts) (h1 : ∀ y ∈ ts, y.here = true) :
    OStep X ⟨none, .store t (.tmp s) x, ty, pos, af, g⟩ st ((st.kill C).put r (.box (over cs j ts))) := by
  rintro a w next Qx ⟨G, vals, hA⟩ hn
  have he : a.eval (.tmp s) = vals s := hA.link s hN
  have h0 := hA.inv.slots s
  rw [hsv] at h0
  obtain ⟨rfl, b, -, h3, h4⟩ := h0.2 rfl
  have hrr := hA.inv.slots r
  rw [hr] at hrr
  obtain ⟨b', arr, ty', h5, h6, h7, h8, h9⟩ := hrr
  rw [h3] at h5
  cases h5
  have hlt : ∀ b, G b ≠ .outer → b < w.heap.size := fun b h => Nat.lt_of_not_le fun hle => h (hA.inv.alloc b hle)
  obtain ⟨hl0, hone, -⟩ := gives_list (r := r) (G' := renameC G r mp) (w' := w) hA hx h1 (fun b h => ⟨by simp [renameC, h], rfl⟩) (fun b s j π ρ h hm => ⟨by simp [renameC, h, hm], rfl⟩)
  let new := (over arr.toList j (a.eval x).cells.toList).toArray
  have run : (execOp a.eval ⟨none, .store t (.tmp s) x, ty, pos, af, g⟩).run X.P w = .ok .skip (w.setRow b new) := by
    simp only [execOp, he, h4]
    rw [Sem.run_bind, storeAt_run (b := b) (o := j) (arr := arr) (e := ty') hs h7 (by simpa using hl0) (by rw [h8]; exact hle) hone]
    rfl
  unfold Oper.wp
  rw [run, Oper.upon_skip]
  have hother : ∀ b', b' ≠ b → (w.setRow b new).heap[b']? = w.heap[b']? := fun b' h => setRow_other w b b' new h
  have hp : ∀ b', G b' = .pers → renameC G r mp b' = .pers ∧ (w.setRow b new).heap[b']? = w.heap[b']? := fun b' h => ⟨by simp [renameC, h], hother b' (by rintro rfl; rw [h6] at h; cases h)⟩
  have hmv : ∀ b' s j π ρ, G b' = .at_ s ((0, j) :: ρ) → mp s j = some π → renameC G r mp b' = .at_ r (π ++ ρ) ∧ (w.setRow b new).heap[b']? = w.heap[b']? := fun b' s j π ρ h hm => ⟨by simp [renameC, h, hm], hother b' (by rintro rfl; rw [h6] at h; cases h)⟩
  have hst : ∀ q, ¬ (q = r ∨ q ∈ C) → ((st.kill C).put r (.box (over cs j ts))) q = st q := fun q h => by simp only [not_or] at h; rw [put_ne _ _ h.1, kill_not _ h.2]
  have hver : ∀ q, (q = r ∨ q ∈ C) → (st q).ver < (((st.kill C).put r (.box (over cs j ts))) q).ver := by
    intro q h
    by_cases hq : q = r
    · subst hq; rw [put_same, kill_not _ hrC]; simp
    · rw [put_ne _ _ hq, kill_mem _ (h.resolve_left hq)]; simp
  refine hn _ _ ⟨renameC G r mp, vals, hA.step (K := fun q => q = r ∨ q ∈ C) hst (fun _ _ => rfl) hver ?_ ?_ ?_ (fun b' hb => renameC_outer hA (by simpa using hb)) hA.inv.pin (by simp) rfl rfl rfl hA.defers hA.size hA.link⟩
  · rintro b' (h | ⟨h, hb⟩)
    · have := hp b' h; exact ⟨by rw [this.1, h], this.2⟩
    · exact ⟨by simp [renameC, h], hother b' (by rintro rfl; rw [h6] at h; cases h)⟩
  · intro b' q ρ h hq
    simp only [not_or] at hq
    refine ⟨?_, hother b' (by rintro rfl; rw [h6] at h; cases h; exact hq.1 rfl)⟩
    rcases ρ with _ | ⟨⟨k, j'⟩, ρ⟩
    · simp [renameC, h]
    · cases k with
      | zero =>
        simp only [renameC, h]
        cases hm : mp q j' with
        | none => rfl
        | some π => exact absurd (hC q j' π hm) hq.2
      | succ k => simp [renameC, h]
  · intro hp' q hq
    by_cases hqr : q = r
    · subst hqr
      rw [put_same]
      obtain ⟨-, -, hrep⟩ := gives_list (r := q) hA hx h1 hp hmv
      refine ⟨b, new, ty', h3, by simp [renameC, h6], setRow_heap w b arr new ty' (0, 0) h7, ?_, fun m tm u hm hu => ?_⟩
      · have h10 : (over arr.toList j (a.eval x).cells.toList).length = arr.size := by rw [over_len (by rw [hl0]; simp; omega)]; simp
        simp only [new, List.size_toArray, h10, over_len hle, h8]
      · simp only [new, List.getElem?_toArray] at hu
        rw [over_get (by rw [hl0]; simp; omega)] at hu
        rw [over_get hle] at hm
        rw [hl0] at hu
        by_cases hin : j ≤ m ∧ m < j + ts.length
        · rw [if_pos hin] at hm hu
          have := hrep _ _ _ hu hm
          rwa [show j + (m - j) = m by omega] at this
        · rw [if_neg hin] at hm hu
          refine (h9 m tm u hm (by simpa using hu)).move hp fun b' ρ hb => ⟨?_, hother b' (by rintro rfl; rw [h6] at hb; simp at hb)⟩
          simp only [renameC, hb, List.singleton_append]
          cases hm' : mp q m with
          | none => rfl
          | some π => exact absurd (hC q m π hm') hrC
    · rw [put_ne _ _ hqr, kill_mem _ (hq.resolve_left hqr)]; trivial

/-- A store into an element of a row of ours. -/
theorem OS_store {s r i j sz : Nat} {ag : Bool} {ts row : List T} {π : Path} {els : List (List T)} (hN : s < X.N) (hsv : (st s).sv = .addr r (st r).ver π i j) (hr : st.at_ r π = some (.sl true sz els)) (hrow : els[i]? = some row) (hs : cells? X.P t = some ts.length) (hle : j + ts.length ≤ sz)
    (hC : Within C mp) (hrC : r ∉ C) (hx : Gives X st C mp (fun m => π ++ [(i, j + m)]) x ag ts) (h1 : ∀ y ∈ ts, y.here = true) :
    OStep X ⟨none, .store t (.tmp s) x, ty, pos, af, g⟩ st ((st.kill C).setAt r π (.sl true sz (els.set i (over row j ts)))) := by
  rintro a w next Qx ⟨G, vals, hA⟩ hn
  have he : a.eval (.tmp s) = vals s := hA.link s hN
  have h0 := hA.inv.slots s
  rw [hsv] at h0
  have h0 := h0.2 rfl
  cases π with
  | nil => simp [St.at_] at hr
  | cons q π =>
  obtain ⟨b, o, n, c, sz', els', h2, h3, h4⟩ := h0
  have hat := place_at h2
  rw [hr] at hat
  cases hat
  obtain ⟨kq, jq⟩ := q
  have hrep0 := place_rep hA.inv h2
  cases hrep0 with
  | nil => simp at h3
  | own f hG hlen hc hrr hb ha hv ht =>
  rename_i arr ty'
  have hrowl : row.length = sz := hrr row (List.mem_of_getElem? hrow)
  have hsp : o + (i + 1) * sz ≤ arr.size := by
    have : i + 1 ≤ c := by omega
    have := Nat.mul_le_mul_right sz this
    omega
  rw [Nat.add_mul, Nat.one_mul] at hsp
  obtain ⟨hl0, hone, -⟩ := gives_list (r := r) (G' := renameC G r mp) (w' := w) hA hx h1 (fun b h => ⟨by simp [renameC, h], rfl⟩) (fun b s j π ρ h hm => ⟨by simp [renameC, h, hm], rfl⟩)
  let new := (over arr.toList (o + i * sz + j) (a.eval x).cells.toList).toArray
  have run : (execOp a.eval ⟨none, .store t (.tmp s) x, ty, pos, af, g⟩).run X.P w = .ok .skip (w.setRow b new) := by
    simp only [execOp, he, h4]
    rw [Sem.run_bind, storeAt_run (b := b) (o := o + i * sz + j) (arr := arr) (e := ty') hs hb (by simpa using hl0) (by omega) hone]
    rfl
  unfold Oper.wp
  rw [run, Oper.upon_skip]
  have hother : ∀ b', b' ≠ b → (w.setRow b new).heap[b']? = w.heap[b']? := fun b' h => setRow_other w b b' new h
  have hp : ∀ b', G b' = .pers → renameC G r mp b' = .pers ∧ (w.setRow b new).heap[b']? = w.heap[b']? := fun b' h => ⟨by simp [renameC, h], hother b' (by rintro rfl; rw [hG] at h; cases h)⟩
  have hmv : ∀ b' s' j' π' ρ, G b' = .at_ s' ((0, j') :: ρ) → mp s' j' = some π' → renameC G r mp b' = .at_ r (π' ++ ρ) ∧ (w.setRow b new).heap[b']? = w.heap[b']? := fun b' s' j' π' ρ h hm => ⟨by simp [renameC, h, hm], hother b' (by
    rintro rfl
    rw [hG] at h
    cases h
    exact hrC (hC _ _ _ hm))⟩
  have hrn : ∀ b' q ρ, G b' = .at_ q ρ → q ∉ C → renameC G r mp b' = .at_ q ρ := by
    intro b' q ρ h hq
    rcases ρ with _ | ⟨⟨k, j'⟩, ρ⟩
    · simp [renameC, h]
    · cases k with
      | zero =>
        simp only [renameC, h]
        cases hm : mp q j' with
        | none => rfl
        | some π => exact absurd (hC q j' π hm) hq
      | succ k => simp [renameC, h]
  let st1 := (st.kill C).setAt r ((kq, jq) :: π) (.sl true sz (els.set i (over row j ts)))
  have hst : ∀ q, ¬ (q = r ∨ q ∈ C) → st1 q = st q := fun q h => by simp only [not_or] at h; simp only [st1, St.setAt]; rw [put_ne _ _ h.1, kill_not _ h.2]
  have hver : ∀ q, (q = r ∨ q ∈ C) → (st q).ver < (st1 q).ver := by
    intro q h
    simp only [st1, St.setAt]
    by_cases hq : q = r
    · subst hq; rw [put_same, kill_not _ hrC]; simp
    · rw [put_ne _ _ hq, kill_mem _ (h.resolve_left hq)]; simp
  have hoK : ∀ b' q ρ, G b' = .at_ q ρ → ¬ (q = r ∨ q ∈ C) → renameC G r mp b' = .at_ q ρ ∧ (w.setRow b new).heap[b']? = w.heap[b']? := by
    intro b' q ρ h hq
    simp only [not_or] at hq
    exact ⟨hrn b' q ρ h hq.2, hother b' (by rintro rfl; rw [hG] at h; cases h; exact hq.1 rfl)⟩
  refine hn _ _ ⟨renameC G r mp, vals, hA.step (K := fun q => q = r ∨ q ∈ C) hst (fun _ _ => rfl) hver ?_ hoK ?_ (fun b' hb => renameC_outer hA (by simpa using hb)) hA.inv.pin (by simp) rfl rfl rfl hA.defers hA.size hA.link⟩
  · rintro b' (h | ⟨h, hb'⟩)
    · have := hp b' h; exact ⟨by rw [this.1, h], this.2⟩
    · exact ⟨by simp [renameC, h], hother b' (by rintro rfl; rw [hG] at h; cases h)⟩
  · intro hp' q hq
    by_cases hqr : q = r
    · subst hqr
      have e1 : (st1 q).sv = (st q).sv.mod kq jq fun x => x.setAt π (.sl true sz (els.set i (over row j ts))) := by
        show (((st.kill C).put q ((st.kill C q).sv.mod kq jq _)) q).sv = _
        rw [put_same, kill_not _ hrC]
      change SlotRep _ _ st1 _ _ _ (st1 q).sv
      rw [e1]
      obtain ⟨-, -, hrep⟩ := gives_list (r := q) hA hx h1 hp hmv
      have hcell : ∀ (i' j' : Nat) tm, elAt (els.set i (over row j ts)) i' j' = some tm → (i' = i ∧ j ≤ j' ∧ j' < j + ts.length ∧ ts[j' - j]? = some tm) ∨ (¬ (i' = i ∧ j ≤ j' ∧ j' < j + ts.length) ∧ elAt els i' j' = some tm) := by
        intro i' j' tm h
        simp only [elAt, List.getElem?_set] at h
        by_cases hi : i = i'
        · subst hi
          rw [if_pos rfl, if_pos h3] at h
          simp only [Option.bind_some] at h
          rw [over_get (by omega)] at h
          split at h
          · rename_i hin; exact .inl ⟨rfl, hin.1, hin.2, h⟩
          · rename_i hin; exact .inr ⟨fun hh => hin hh.2, by simp [elAt, hrow, h]⟩
        · rw [if_neg hi] at h
          exact .inr ⟨fun hh => hi hh.1.symm, h⟩
      have hsetl : ∀ r ∈ els.set i (over row j ts), r.length = sz := by
        intro r hr
        rcases List.mem_or_eq_of_mem_set hr with h | rfl
        · exact hrr r h
        · rw [over_len (by omega), hrowl]
      have hbnew : (w.setRow b new).heap[b]? = some (.cells new ty' (0, 0)) := setRow_heap w b arr new ty' (0, 0) hb
      have hnl : new.size = arr.size := by
        have h10 : (over arr.toList (o + i * sz + j) (a.eval x).cells.toList).length = arr.size := by rw [over_len (by rw [hl0]; simp; omega)]; simp
        simp only [new, List.size_toArray, h10]
      have hpos : ∀ (i' j' : Nat), j' < sz → (o + i * sz + j ≤ o + i' * sz + j' ∧ o + i' * sz + j' < o + i * sz + j + ts.length) → i' = i ∧ j ≤ j' ∧ j' < j + ts.length := by
        intro i' j' hj' hh
        have : i' = i := by
          rcases Nat.lt_trichotomy i' i with h | h | h
          · have := Nat.mul_le_mul_right sz h
            rw [Nat.succ_mul] at this
            omega
          · exact h
          · have := Nat.mul_le_mul_right sz h
            rw [Nat.succ_mul] at this
            omega
        subst this
        omega
      refine slot_replace hA.inv hst (fun _ _ => rfl) hver hp hoK h2 (.own (fun i' j' => if i' = i ∧ j ≤ j' ∧ j' < j + ts.length then ((a.eval x).cells.toList[j' - j]?).getD default else f i' j') (hrn _ _ _ hG hrC) (by simpa using hlen) hc hsetl hbnew (by rw [hnl]; exact ha) ?_ ?_) ?_
      · intro i' j' tm h
        have hj' : j' < sz := by
          obtain ⟨rr, hrr1, hrr2⟩ := Option.bind_eq_some_iff.1 h
          rw [← hsetl rr (List.mem_of_getElem? hrr1)]
          exact (List.getElem?_eq_some_iff.1 hrr2).1
        simp only [World.cell?, hbnew, Option.isSome_none, Bool.false_eq_true, if_false]
        simp only [new, List.getElem?_toArray]
        rw [over_get (by rw [hl0]; simp; omega), hl0]
        rcases hcell i' j' tm h with ⟨rfl, hj1, hj2, htm⟩ | ⟨hne, htm⟩
        · rw [if_pos (by omega), if_pos ⟨rfl, hj1, hj2⟩]
          have hlt : j' - j < (a.eval x).cells.toList.length := by rw [hl0]; omega
          rw [show o + i' * sz + j' - (o + i' * sz + j) = j' - j by omega, List.getElem?_eq_getElem hlt]
          rfl
        · rw [if_neg (fun hh => hne (hpos i' j' hj' hh)), if_neg hne]
          have := hv _ _ _ htm
          simp only [World.cell?, hb, Option.isSome_none, Bool.false_eq_true, if_false] at this
          simpa using this
      · intro i' j' tm h
        rcases hcell i' j' tm h with ⟨rfl, hj1, hj2, htm⟩ | ⟨hne, htm⟩
        · simp only [hj1, hj2, and_self, if_true]
          have hlt : j' - j < (a.eval x).cells.toList.length := by rw [hl0]; omega
          rw [List.getElem?_eq_getElem hlt, Option.getD_some]
          have := hrep _ _ _ (List.getElem?_eq_getElem hlt) htm
          rwa [show j + (j' - j) = j' by omega] at this
        · simp only [if_neg hne]
          refine (ht _ _ _ htm).move hp fun b' ρ hb' => ⟨hrn b' _ _ hb' hrC, hother b' (by rintro rfl; rw [hG] at hb'; simp at hb')⟩
      · intro b' ρ hb' hnp
        refine ⟨hrn b' _ _ hb' hrC, hother b' (by rintro rfl; rw [hG] at hb'; cases hb'; exact hnp (List.prefix_refl _))⟩
    · simp only [St.setAt]
      rw [put_ne _ _ hqr, kill_mem _ (hq.resolve_left hqr)]; trivial
end
end Go.V
namespace Go.V
open Go Go.RowKit

/-- Whose blocks are behind an append: the row that is appended to, the literal that is given away. -/
def relab (G : Nat → Own) (d : Nat) (src : Option (Nat × Path)) (sy : Option Nat) (n : Nat) : Nat → Own := fun b => match G b with
  | .at_ s ρ =>
    if src.any (fun p => p.1 == s && p.2.isPrefixOf ρ) then .at_ d ((0, 0) :: ρ.drop ((src.map fun p => p.2.length).getD 0))
    else if sy = some s then (match ρ with
      | (0, 0) :: (i, j) :: ρ' => .at_ d ((0, 0) :: (n + i, j) :: ρ')
      | ρ => .at_ s ρ)
    else .at_ s ρ
  | o => o

section
variable {X : Cx} {st st' : St} {d : Nat} {t t' ty : TypeId} {x y z : Operand} {k : IntKind} {v : Value} {pos : String} {af : Array Edge} {g : Option (Nat × Bool)} {a : Act} {w w' : World} {G G' : Nat → Own} {vals vals' : Nat → Value} {C : List Nat}

theorem relab_pers {b : Nat} {src : Option (Nat × Path)} {sy : Option Nat} {n : Nat} (h : G b = .pers) : relab G d src sy n b = .pers := by simp [relab, h]
theorem relab_outer {b : Nat} {src : Option (Nat × Path)} {sy : Option Nat} {n : Nat} (h : G b = .outer) : relab G d src sy n b = .outer := by simp [relab, h]
theorem relab_src {b r : Nat} {π ρ : Path} {sy : Option Nat} {n : Nat} (h : G b = .at_ r (π ++ ρ)) : relab G d (some (r, π)) sy n b = .at_ d ((0, 0) :: ρ) := by
  simp [relab, h]
theorem relab_lit {b q i j : Nat} {ρ : Path} {src : Option (Nat × Path)} {n : Nat} (h : G b = .at_ q ((0, 0) :: (i, j) :: ρ)) (hne : ∀ r π, src = some (r, π) → r ≠ q) : relab G d src (some q) n b = .at_ d ((0, 0) :: (n + i, j) :: ρ) := by
  cases src with
  | none => simp [relab, h]
  | some p => have := hne p.1 p.2 rfl; simp [relab, h, this]
theorem relab_else {b q : Nat} {ρ : Path} {src : Option (Nat × Path)} {sy : Option Nat} {n : Nat} (h : G b = .at_ q ρ) (h1 : ∀ r π, src = some (r, π) → ¬ (r = q ∧ π <+: ρ)) (h2 : sy ≠ some q) : relab G d src sy n b = .at_ q ρ := by
  cases src with
  | none => simp [relab, h, h2]
  | some p =>
    have h3 := h1 p.1 p.2 rfl
    have h4 : (p.1 == q && p.2.isPrefixOf ρ) = false := by
      by_cases hq : p.1 = q
      · have : ¬ p.2 <+: ρ := fun hh => h3 ⟨hq, hh⟩
        simp only [hq, BEq.rfl, Bool.true_and]
        rw [← Bool.not_eq_true, List.isPrefixOf_iff_prefix]
        exact this
      · simp [hq]
    simp [relab, h, h2, h4]

/-- What is appended. -/
inductive Srcs (X : Cx) (st : St) (C : List Nat) (sz : Nat) : Operand → Option Nat → List (List T) → Prop
  | shd {y ys} (h : Opd X.N st y (one (.sl false sz ys))) : Srcs X st C sz y none ys
  | nil {y m sz'} (h : Opd X.N st y (one (.sl m sz' []))) : Srcs X st C sz y none []
  | lit {q ys} (hN : q < X.N) (hC : q ∈ C) (h : (st q).sv = one (.sl true sz ys)) : Srcs X st C sz (.tmp q) (some q) ys
  | own {y r π ys} (h : OwnAt X st y r π) (ht : st.at_ r π = some (.sl true sz ys)) (hf : ∀ i j t, elAt ys i j = some t → t.free = true) : Srcs X st C sz y none ys

theorem flat_of {els : List (List T)} {sz : Nat} (f : Nat → Nat → Value) (hr : ∀ r ∈ els, r.length = sz) (hsz : sz ≠ 0) :
    ∃ news : List Value, news.length = els.length * sz ∧ (∀ (m : Nat) u, news[m]? = some u → u = f (m / sz) (m % sz) ∧ m / sz < els.length ∧ m % sz < sz ∧ m = m / sz * sz + m % sz ∧ ∃ t, elAt els (m / sz) (m % sz) = some t) := by
  refine ⟨(List.range (els.length * sz)).map fun m => f (m / sz) (m % sz), by simp, fun m u h => ?_⟩
  rw [List.getElem?_map] at h
  obtain ⟨m', hm, rfl⟩ := Option.map_eq_some_iff.1 h
  have hlt : m < els.length * sz := by have := (List.getElem?_eq_some_iff.1 hm).1; simpa using this
  rw [List.getElem?_range hlt] at hm
  cases hm
  have h1 : m / sz < els.length := by rw [Nat.div_lt_iff_lt_mul (by omega)]; exact hlt
  have h2 : m % sz < sz := Nat.mod_lt _ (by omega)
  refine ⟨rfl, h1, h2, by rw [Nat.mul_comm]; exact (Nat.div_add_mod m sz).symm, ?_⟩
  have h3 : (els[m / sz]'h1).length = sz := hr _ (List.getElem_mem h1)
  exact ⟨(els[m / sz]'h1)[m % sz]'(by omega), by simp [elAt, List.getElem?_eq_getElem h1, List.getElem?_eq_getElem (show m % sz < (els[m / sz]'h1).length by omega)]⟩

theorem rep_val1 {s : Nat} {π : Path} {u : Value} {y : T} (h : Rep G w s π u y) (hy : y.free = true) : u.oneCell' = true :=
  (rep_one' h (by cases y <;> simp_all [T.here, T.free])).2

/-- What is appended: its cells, and what they stand for behind the append. -/
theorem srcs_src (hA : Alls X st a w G vals) {sz : Nat} {sy : Option Nat} {ys : List (List T)} {tx e' : TypeId} (hk : X.P.underlying tx = some (.slice e')) (hsz : sz ≠ 0) (h : Srcs X st C sz y sy ys) (hh : ∀ i j t, elAt ys i j = some t → t.here = true) :
    ∃ news, Src X.P sz tx (a.eval y) ys.length news w ∧ (∀ r ∈ ys, r.length = sz) ∧ ∀ (i j : Nat) t, elAt ys i j = some t → ∃ u, news[i * sz + j]? = some u ∧
      ∀ (G' : Nat → Own) (w' : World) (n : Nat), (∀ b, G b = .pers → G' b = .pers ∧ w'.heap[b]? = w.heap[b]?) → (∀ b q i j ρ, sy = some q → G b = .at_ q ((0, 0) :: (i, j) :: ρ) → G' b = .at_ d ((0, 0) :: (n + i, j) :: ρ) ∧ w'.heap[b]? = w.heap[b]?) →
        Rep G' w' d [(0, 0), (n + i, j)] u t := by
  have key : ∀ {b o n c : Nat} {els : List (List T)} (f : Nat → Nat → Value), n = els.length → (∀ r ∈ els, r.length = sz) → (∀ i j t, elAt els i j = some t → w.cell? ⟨b, o + i * sz + j, none⟩ = some (f i j)) → (∀ i j t, elAt els i j = some t → (f i j).oneCell' = true) →
      ∃ news, Src X.P sz tx (.slice (some ⟨b, o, none⟩) n c) els.length news w ∧ ∀ (i j : Nat) t, elAt els i j = some t → news[i * sz + j]? = some (f i j) := by
    intro b o n c els f hn hr hv h1
    obtain ⟨news, hl, hall⟩ := flat_of f hr hsz
    refine ⟨news, ?_, fun i j t ht => ?_⟩
    · subst hn
      refine Src.ofSlice w hk ⟨b, o, none⟩ els.length c news hl (fun m u hm => ?_) (fun u hu => ?_)
      · obtain ⟨rfl, -, -, he, t, ht⟩ := hall m u hm
        rw [addr_add]
        have := hv _ _ _ ht
        rw [← this]
        congr 2
        omega
      · obtain ⟨m, hm⟩ := List.getElem?_of_mem hu
        obtain ⟨rfl, -, -, -, t, ht⟩ := hall m u hm
        exact h1 _ _ _ ht
    · have hi : i < els.length := by
        obtain ⟨r, hr1, -⟩ := Option.bind_eq_some_iff.1 ht
        exact (List.getElem?_eq_some_iff.1 hr1).1
      have hj : j < sz := by
        obtain ⟨r, hr1, hr2⟩ := Option.bind_eq_some_iff.1 ht
        rw [← hr r (List.mem_of_getElem? hr1)]
        exact (List.getElem?_eq_some_iff.1 hr2).1
      have hlt : i * sz + j < news.length := by
        rw [hl]
        have := Nat.mul_le_mul_right sz (show i + 1 ≤ els.length by omega)
        rw [Nat.add_mul] at this
        omega
      obtain ⟨h2, -⟩ := hall _ _ (List.getElem?_eq_getElem hlt)
      rw [List.getElem?_eq_getElem hlt, h2]
      rw [show (i * sz + j) / sz = i by rw [Nat.mul_comm, Nat.mul_add_div (by omega), Nat.div_eq_of_lt hj, Nat.add_zero], show (i * sz + j) % sz = j by rw [Nat.mul_comm, Nat.mul_add_mod, Nat.mod_eq_of_lt hj]]
  have empty : ∀ {A : Option Addr}, ∃ news, Src X.P sz tx (.slice A 0 0) 0 news w := by
    intro A
    cases A with
    | none => exact ⟨[], Src.ofNil w hk 0⟩
    | some b => exact ⟨[], Src.ofSlice w hk b 0 0 [] (by simp) (by simp) (by simp)⟩
  cases h with
  | shd h =>
    obtain ⟨s0, hs, -⟩ := opd_eval hA h
    have h1 := slotRep_one.1 hs
    generalize a.eval y = uv at h1 ⊢
    cases h1 with
    | nil => obtain ⟨news, hn⟩ := empty; exact ⟨news, hn, by simp, fun i j t ht => by simp [elAt] at ht⟩
    | shd f hG hn hc hr hf hv ht =>
      rename_i b o n c
      obtain ⟨news, h2, h3⟩ := key (b := b) (o := o) (n := n) (c := c) f hn hr hv (fun i j t h => rep_val1 (ht i j t h) (hf i j t h))
      exact ⟨news, h2, hr, fun i j t h => ⟨_, h3 i j t h, fun G' w' n hp _ => (ht i j t h).free (hf i j t h) hp⟩⟩
  | nil h =>
    obtain ⟨s0, hs, -⟩ := opd_eval hA h
    have h1 := slotRep_one.1 hs
    have : ∃ A c, a.eval y = .slice A 0 c ∧ (A = none → True) := by
      generalize a.eval y = uv at h1 ⊢
      cases h1 with
      | nil => exact ⟨_, _, rfl, fun _ => trivial⟩
      | shd f hG hn => exact ⟨_, _, by rw [hn]; rfl, fun _ => trivial⟩
      | own f hG hn => exact ⟨_, _, by rw [hn]; rfl, fun _ => trivial⟩
    obtain ⟨A, c, hv, -⟩ := this
    rw [hv]
    cases A with
    | none => exact ⟨[], Src.ofNil w hk c, by simp, fun i j t ht => by simp [elAt] at ht⟩
    | some b => exact ⟨[], Src.ofSlice w hk b 0 c [] (by simp) (by simp) (by simp), by simp, fun i j t ht => by simp [elAt] at ht⟩
  | lit hN hC h =>
    rename_i q
    have he : a.eval (.tmp q) = vals q := hA.link q hN
    have hs := hA.inv.slots q
    rw [h] at hs
    have h1 := slotRep_one.1 hs
    rw [he]
    generalize vals q = uv at h1 ⊢
    cases h1 with
    | nil => obtain ⟨news, hn⟩ := empty; exact ⟨news, hn, by simp, fun i j t ht => by simp [elAt] at ht⟩
    | own f hG hn hc hr hb ha hv ht =>
      rename_i b o n c arr tyy
      obtain ⟨news, h2, h3⟩ := key (b := b) (o := o) (n := n) (c := c) f hn hr hv (fun i j t h => (rep_one' (ht i j t h) (hh i j t h)).2)
      exact ⟨news, h2, hr, fun i j t h => ⟨_, h3 i j t h, fun G' w' n hp hm => (ht i j t h).move hp fun b ρ hb => hm b q i j ρ rfl hb⟩⟩
  | own h ht hf =>
    obtain ⟨sz', els', hp⟩ := own_place hA h
    have h2 := place_at hp
    rw [ht] at h2
    cases h2
    have h1 := place_rep hA.inv hp
    generalize a.eval y = uv at h1 ⊢
    cases h1 with
    | nil => obtain ⟨news, hn⟩ := empty; exact ⟨news, hn, by simp, fun i j t ht => by simp [elAt] at ht⟩
    | own f hG hn hc hr hb ha hv htt =>
      rename_i b o n c arr tyy
      obtain ⟨news, h2, h3⟩ := key (b := b) (o := o) (n := n) (c := c) f hn hr hv (fun i j t h => rep_val1 (htt i j t h) (hf i j t h))
      exact ⟨news, h2, hr, fun i j t h => ⟨_, h3 i j t h, fun G' w' n hp' _ => (htt i j t h).free (hf i j t h) hp'⟩⟩
end
end Go.V

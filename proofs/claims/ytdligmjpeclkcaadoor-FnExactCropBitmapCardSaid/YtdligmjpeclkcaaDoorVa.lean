/- The value interpreter, part a: what stretches of a program do to typed values, rule by rule. Conditions: none. -/
import Derived.Orders
import Derived.Below
import Derived.Tactics
import Derived.Lib.FrozenHead
namespace Go.V
open Go Go.RowKit

/-- A value as a tree: a scalar; a slice (is its row owned by its place alone?, cells of an element, elements); a pointer into memory that nobody writes any more; a function with what it captured; what was moved away. -/
inductive T where
  | sc (v : Value)
  | sl (m : Bool) (sz : Nat) (els : List (List T))
  | ptr (cs : List T)
  | fn (g : FuncId) (caps : List T)
  | gone

def T.free : T → Bool
  | .sc _ => true
  | .sl m _ _ => !m
  | .ptr _ => true
  | .fn _ _ => true
  | .gone => false

abbrev Path := List (Nat × Nat)

/-- Whose a block is. -/
inductive Own where
  | outer
  | pers
  | at_ (s : Nat) (π : Path)

def scal : Value → Bool
  | .bool _ | .int _ _ | .string _ | .nilIface | .nilFunc | .pointer none | .slice _ _ _ => true
  | _ => false

def elAt (els : List (List T)) (i j : Nat) : Option T := (els[i]?).bind (·[j]?)

inductive Rep (G : Nat → Own) (w : World) : Nat → Path → Value → T → Prop
  | sc {s π v} : scal v = true → Rep G w s π v (.sc v)
  | gone {s π v} : Rep G w s π v .gone
  | nil {s π A m sz} : Rep G w s π (.slice A 0 0) (.sl m sz [])
  | shd {s π b o n c sz els} (f : Nat → Nat → Value) (hG : G b = .pers) (hn : n = els.length) (hc : n ≤ c) (hr : ∀ r ∈ els, r.length = sz)
      (hf : ∀ i j t, elAt els i j = some t → t.free = true)
      (hv : ∀ i j t, elAt els i j = some t → w.cell? ⟨b, o + i * sz + j, none⟩ = some (f i j))
      (ht : ∀ i j t, elAt els i j = some t → Rep G w s (π ++ [(i, j)]) (f i j) t) :
      Rep G w s π (.slice (some ⟨b, o, none⟩) n c) (.sl false sz els)
  | own {s π b o n c sz els arr ty} (f : Nat → Nat → Value) (hG : G b = .at_ s π) (hn : n = els.length) (hc : n ≤ c) (hr : ∀ r ∈ els, r.length = sz)
      (hb : w.heap[b]? = some (.cells arr ty (0, 0))) (ha : o + c * sz ≤ arr.size)
      (hv : ∀ i j t, elAt els i j = some t → w.cell? ⟨b, o + i * sz + j, none⟩ = some (f i j))
      (ht : ∀ i j t, elAt els i j = some t → Rep G w s (π ++ [(i, j)]) (f i j) t) :
      Rep G w s π (.slice (some ⟨b, o, none⟩) n c) (.sl true sz els)
  | ptr {s π b o cs} (f : Nat → Value) (hG : G b = .pers) (hf : ∀ t ∈ cs, t.free = true)
      (hv : ∀ (j : Nat) t, cs[j]? = some t → w.cell? ⟨b, o + j, none⟩ = some (f j))
      (ht : ∀ (j : Nat) t, cs[j]? = some t → Rep G w s (π ++ [(0, j)]) (f j) t) :
      Rep G w s π (.pointer (some ⟨b, o, none⟩)) (.ptr cs)
  | fn {s π g caps} (vs : List Value) (hl : vs.length = caps.length) (hf : ∀ t ∈ caps, t.free = true)
      (ht : ∀ (j : Nat) t v, caps[j]? = some t → vs[j]? = some v → Rep G w s (π ++ [(0, j)]) v t) :
      Rep G w s π (.func (.func g) #[] vs.toArray) (.fn g caps)

variable {G G' : Nat → Own} {w w' : World} {s s' : Nat} {π π' : Path} {v : Value} {t : T}

theorem cell_eq {b o : Nat} (h : w'.heap[b]? = w.heap[b]?) : w'.cell? ⟨b, o, none⟩ = w.cell? ⟨b, o, none⟩ := by simp [World.cell?, h]

/-- A tree whose owner is renamed: what is under (s, π) comes under (s', π'). -/
theorem Rep.move (h : Rep G w s π v t) : ∀ {s' : Nat} {π' : Path}, (hp : ∀ b, G b = .pers → G' b = .pers ∧ w'.heap[b]? = w.heap[b]?) →
    (ho : ∀ b ρ, G b = .at_ s (π ++ ρ) → G' b = .at_ s' (π' ++ ρ) ∧ w'.heap[b]? = w.heap[b]?) → Rep G' w' s' π' v t := by
  induction h with
  | sc h => exact fun _ _ => .sc h
  | gone => exact fun _ _ => .gone
  | nil => exact fun _ _ => .nil
  | shd f hG hn hc hr hf hv _ ih =>
    intro s' π' hp ho
    refine .shd f (hp _ hG).1 hn hc hr hf (fun i j t h => (cell_eq (hp _ hG).2).trans (hv i j t h)) (fun i j t h => ih i j t h hp fun b ρ hb => ?_)
    have := ho b ((i, j) :: ρ) (by simpa using hb)
    simpa using this
  | own f hG hn hc hr hb ha hv _ ih =>
    intro s' π' hp ho
    have h0 := ho _ [] (by simpa using hG)
    refine .own f (by simpa using h0.1) hn hc hr (h0.2.trans hb) ha (fun i j t h => (cell_eq h0.2).trans (hv i j t h)) (fun i j t h => ih i j t h hp fun b ρ hb => ?_)
    have := ho b ((i, j) :: ρ) (by simpa using hb)
    simpa using this
  | ptr f hG hf hv _ ih =>
    intro s' π' hp ho
    refine .ptr f (hp _ hG).1 hf (fun j t h => (cell_eq (hp _ hG).2).trans (hv j t h)) (fun j t h => ih j t h hp fun b ρ hb => ?_)
    have := ho b ((0, j) :: ρ) (by simpa using hb)
    simpa using this
  | fn vs hl hf _ ih =>
    intro s' π' hp ho
    refine .fn vs hl hf (fun j t v h h' => ih j t v h h' hp fun b ρ hb => ?_)
    have := ho b ((0, j) :: ρ) (by simpa using hb)
    simpa using this

/-- A tree without rows of its own hangs on the memory that nobody writes alone. -/
theorem Rep.free (h : Rep G w s π v t) : ∀ {s' : Nat} {π' : Path}, (ht : t.free = true) → (hp : ∀ b, G b = .pers → G' b = .pers ∧ w'.heap[b]? = w.heap[b]?) → Rep G' w' s' π' v t := by
  induction h with
  | sc h => exact fun _ _ => .sc h
  | gone => exact fun h _ => by simp [T.free] at h
  | nil => exact fun _ _ => .nil
  | shd f hG hn hc hr hf hv _ ih =>
    intro s' π' _ hp
    exact .shd f (hp _ hG).1 hn hc hr hf (fun i j t h => (cell_eq (hp _ hG).2).trans (hv i j t h)) (fun i j t h => ih i j t h (hf i j t h) hp)
  | own => intro s' π' ht; simp [T.free] at ht
  | ptr f hG hf hv _ ih =>
    intro s' π' _ hp
    exact .ptr f (hp _ hG).1 hf (fun j t h => (cell_eq (hp _ hG).2).trans (hv j t h)) (fun j t h => ih j t h (hf t (List.mem_of_getElem? h)) hp)
  | fn vs hl hf _ ih =>
    intro s' π' _ hp
    exact .fn vs hl hf (fun j t v h h' => ih j t v h h' (hf t (List.mem_of_getElem? h)) hp)

mutual
/-- The same tree, nobody's. -/
def T.shr : T → T
  | .sc v => .sc v
  | .sl _ sz els => .sl false sz (shrs els)
  | .ptr cs => .ptr cs
  | .fn g caps => .fn g caps
  | .gone => .sc (.bool false)
def shrs : List (List T) → List (List T)
  | [] => []
  | r :: rs => shrl r :: shrs rs
def shrl : List T → List T
  | [] => []
  | t :: ts => t.shr :: shrl ts
end

theorem shrl_eq : ∀ l : List T, shrl l = l.map T.shr
  | [] => by simp [shrl]
  | t :: ts => by simp [shrl, shrl_eq ts]
theorem shrs_eq : ∀ l : List (List T), shrs l = l.map (fun r => r.map T.shr)
  | [] => by simp [shrs]
  | t :: ts => by simp [shrs, shrs_eq ts, shrl_eq]
theorem T.shr_sl (m : Bool) (sz : Nat) (els : List (List T)) : (T.sl m sz els).shr = .sl false sz (els.map fun r => r.map T.shr) := by simp [T.shr, shrs_eq]
theorem T.shr_free (t : T) : t.shr.free = true := by cases t <;> simp [T.shr, T.free]

theorem elAt_map (els : List (List T)) (i j : Nat) : elAt (els.map fun r => r.map T.shr) i j = (elAt els i j).map T.shr := by
  simp only [elAt, List.getElem?_map]
  cases els[i]? <;> simp

mutual
/-- No row was moved away out of it. -/
def T.whole : T → Bool
  | .sl _ _ els => wholes els
  | .gone => false
  | _ => true
def wholes : List (List T) → Bool
  | [] => true
  | r :: rs => wholel r && wholes rs
def wholel : List T → Bool
  | [] => true
  | t :: ts => t.whole && wholel ts
end

theorem rows_id {els : List (List T)} (h : ∀ i j t, elAt els i j = some t → t.shr = t) : (els.map fun r => r.map T.shr) = els := by
  apply List.ext_getElem?
  intro i
  rw [List.getElem?_map]
  cases hi : els[i]? with
  | none => rfl
  | some r =>
    simp only [Option.map_some, Option.some.injEq]
    apply List.ext_getElem?
    intro j
    rw [List.getElem?_map]
    cases hj : r[j]? with
    | none => rfl
    | some t => simp [h i j t (by simp [elAt, hi, hj])]

theorem shr_id : ∀ {t : T}, Rep G w s π v t → t.free = true → t.shr = t := by
  intro t h
  induction h with
  | sc _ => intro _; rfl
  | gone => intro h; simp [T.free] at h
  | nil => intro h; simp [T.free] at h; simp [T.shr_sl, h]
  | shd f hG hn hc hr hf hv _ ih =>
    intro _
    rw [T.shr_sl]
    congr 1
    exact rows_id fun i j t he => ih i j t he (hf i j t he)
  | own => intro h; simp [T.free] at h
  | ptr => intro _; simp [T.shr]
  | fn => intro _; simp [T.shr]

/-- Given away: all that was under (s, π) is written no more. -/
theorem Rep.shr (h : Rep G w s π v t) : ∀ {s' : Nat} {π' : Path}, (hw : t.whole = true) → (hp : ∀ b, G b = .pers → G' b = .pers ∧ w'.heap[b]? = w.heap[b]?) →
    (ho : ∀ b ρ, G b = .at_ s (π ++ ρ) → G' b = .pers ∧ w'.heap[b]? = w.heap[b]?) → Rep G' w' s' π' v t.shr := by
  have wel : ∀ {els : List (List T)} {i j : Nat} {t : T}, wholes els = true → elAt els i j = some t → t.whole = true := by
    intro els
    induction els with
    | nil => intro i j t _ h; simp [elAt] at h
    | cons r rs ih =>
      intro i j t hw h
      simp only [wholes, Bool.and_eq_true] at hw
      cases i with
      | zero =>
        simp only [elAt, List.getElem?_cons_zero, Option.bind_some] at h
        have : ∀ {l : List T} {j : Nat} {t : T}, wholel l = true → l[j]? = some t → t.whole = true := by
          intro l
          induction l with
          | nil => intro j t _ h; simp at h
          | cons x xs ihx =>
            intro j t hw h
            simp only [wholel, Bool.and_eq_true] at hw
            cases j with
            | zero => simp at h; exact h ▸ hw.1
            | succ j => exact ihx hw.2 (by simpa using h)
        exact this hw.1 h
      | succ i => exact ih hw.2 (by simpa [elAt] using h)
  induction h with
  | sc h => exact fun _ _ _ => by simpa [T.shr] using Rep.sc h
  | gone => exact fun h _ _ => by simp [T.whole] at h
  | nil => exact fun _ _ _ => by simpa [T.shr_sl] using Rep.nil
  | shd f hG hn hc hr hf hv h0 ih =>
    intro s' π' _ hp _
    have h1 : Rep G w s π _ _ := Rep.shd (s := s) (π := π) f hG hn hc hr hf hv (fun i j t he => (h0 i j t he).free (hf i j t he) (fun b hb => ⟨hb, rfl⟩))
    rw [shr_id h1 (by simp [T.free])]
    exact h1.free (by simp [T.free]) hp
  | own f hG hn hc hr hb ha hv _ ih =>
    intro s' π' hw hp ho
    have h0 := ho _ [] (by simpa using hG)
    simp only [T.whole] at hw
    rw [T.shr_sl]
    refine .shd f h0.1 (by simpa using hn) hc ?_ ?_ ?_ ?_
    · intro r hr'
      obtain ⟨r0, h1, rfl⟩ := List.mem_map.1 hr'
      simpa using hr r0 h1
    · intro i j t h
      rw [elAt_map] at h
      obtain ⟨t0, he, rfl⟩ := Option.map_eq_some_iff.1 h
      exact T.shr_free t0
    · intro i j t h
      rw [elAt_map] at h
      obtain ⟨t0, he, rfl⟩ := Option.map_eq_some_iff.1 h
      exact (cell_eq h0.2).trans (hv i j t0 he)
    · intro i j t h
      rw [elAt_map] at h
      obtain ⟨t0, he, rfl⟩ := Option.map_eq_some_iff.1 h
      refine ih i j t0 he (wel hw he) hp fun b ρ hb => ?_
      exact ho b ((i, j) :: ρ) (by simpa using hb)
  | ptr f hG hf hv h0 ih =>
    intro s' π' _ hp _
    simp only [T.shr]
    exact .ptr f (hp _ hG).1 hf (fun j t h => (cell_eq (hp _ hG).2).trans (hv j t h)) (fun j t h => (h0 j t h).free (hf t (List.mem_of_getElem? h)) hp)
  | fn vs hl hf h0 ih =>
    intro s' π' _ hp _
    simp only [T.shr]
    exact .fn vs hl hf (fun j t v h h' => (h0 j t v h h').free (hf t (List.mem_of_getElem? h)) hp)

end Go.V
namespace Go.V
open Go Go.RowKit

/-- A cell of a slot: a tree of its own, or what a place of another slot holds. -/
inductive Cell where
  | t (x : T)
  | ref (r k : Nat) (π : Path)

inductive SV where
  | dead
  | val (a : Bool) (cs : List Cell)
  | tup (vs : List (Bool × List Cell))
  | box (cs : List T)
  | bld (T e : TypeId) (x : ByteArray)
  | addr (r k : Nat) (π : Path) (i j : Nat)

def SV.boxy : SV → Bool
  | .box _ => true
  | .bld .. => true
  | _ => false

structure Slot where
  ver : Nat
  sv : SV

abbrev St := Nat → Slot
def St.put (st : St) (d : Nat) (x : SV) : St := fun s => if s = d then ⟨(st d).ver + 1, x⟩ else st s
def upd (f : Nat → Value) (d : Nat) (v : Value) : Nat → Value := fun s => if s = d then v else f s

theorem put_same (st : St) (d : Nat) (x : SV) : st.put d x d = ⟨(st d).ver + 1, x⟩ := by simp [St.put]
theorem put_ne (st : St) {d s : Nat} (x : SV) (h : s ≠ d) : st.put d x s = st s := by simp [St.put, h]

/-- A value and its cells. -/
def Pack : Bool → List Value → Value → Prop
  | true, us, v => v = .agg us.toArray
  | false, us, v => us = [v]

def SV.cell (sv : SV) (k j : Nat) : Option Cell :=
  match sv with
  | .val _ cs => if k = 0 then cs[j]? else none
  | .tup vs => (vs[k]?).bind fun p => p.2[j]?
  | .box cs => if k = 0 then (cs[j]?).map .t else none
  | _ => none

def packed (a : Bool) (v : Value) (j : Nat) : Option Value :=
  match a, v with
  | true, .agg arr => arr[j]?
  | true, _ => none
  | false, v => if j = 0 then some v else none

def cellVal (w : World) (v : Value) (sv : SV) (k j : Nat) : Option Value :=
  match sv with
  | .val a _ => if k = 0 then packed a v j else none
  | .tup vs => match v with
    | .tuple arr => (vs[k]?).bind fun p => (arr[k]?).bind fun u => packed p.1 u j
    | _ => none
  | .box _ => match v with
    | .pointer (some ⟨b, o, none⟩) => w.cell? ⟨b, o + j, none⟩
    | _ => none
  | _ => none

def descend (w : World) : Value → T → Path → Option (Value × T)
  | u, x, [] => some (u, x)
  | .slice (some ⟨b, o, none⟩) _ _, .sl true sz els, (i, j) :: π =>
    (elAt els i j).bind fun x => (w.cell? ⟨b, o + i * sz + j, none⟩).bind fun u => descend w u x π
  | _, _, _ :: _ => none

def place (vals : Nat → Value) (st : St) (w : World) (r : Nat) : Path → Option (Value × T)
  | [] => none
  | (k, j) :: π => (cellVal w (vals r) (st r).sv k j).bind fun u => match (st r).sv.cell k j with
    | some (.t x) => descend w u x π
    | _ => none

/-- The tree at a place. -/
def T.at_ : T → Path → Option T
  | x, [] => some x
  | .sl true _ els, (i, j) :: π => (elAt els i j).bind fun x => x.at_ π
  | _, _ :: _ => none
def St.at_ (st : St) (r : Nat) : Path → Option T
  | [] => none
  | (k, j) :: π => match (st r).sv.cell k j with
    | some (.t x) => x.at_ π
    | _ => none

def CellRep (G : Nat → Own) (w : World) (st : St) (vals : Nat → Value) (s k j : Nat) (u : Value) : Cell → Prop
  | .t x => Rep G w s [(k, j)] u x
  | .ref r ver π => ver ≤ (st r).ver ∧ ((st r).ver = ver → ∃ sz els, place vals st w r π = some (u, .sl true sz els))

def CellsRep (G : Nat → Own) (w : World) (st : St) (vals : Nat → Value) (s k : Nat) (a : Bool) (v : Value) (cs : List Cell) : Prop :=
  ∃ us, Pack a us v ∧ us.length = cs.length ∧ ∀ (j : Nat) c u, cs[j]? = some c → us[j]? = some u → CellRep G w st vals s k j u c

/-- A strings.Builder that holds x. -/
def BldRep (G : Nat → Own) (w : World) (s : Nat) (v : Value) (T e : TypeId) (x : ByteArray) : Prop :=
  ∃ b p u, v = .pointer (some ⟨b, 0, none⟩) ∧ G b = .at_ s [] ∧ w.heap[b]? = some (.cells #[p, u] T (0, 0)) ∧ (p = .pointer none ∨ p = .pointer (some ⟨b, 0, none⟩)) ∧
    w.ownsRowF 0 e 1 u x.size (x.data.toList.map fun c => .int .u8 c.toNat) ∧ u.ownBlock ≠ some b ∧ ∀ g, u.ownBlock = some g → G g = .at_ s [(0, 1)]

def SlotRep (G : Nat → Own) (w : World) (st : St) (vals : Nat → Value) (s : Nat) (v : Value) : SV → Prop
  | .dead => True
  | .val a cs => CellsRep G w st vals s 0 a v cs
  | .tup vs => ∃ arr, v = .tuple arr ∧ arr.size = vs.length ∧ ∀ (k : Nat) p u, vs[k]? = some p → arr[k]? = some u → CellsRep G w st vals s k p.1 u p.2
  | .box cs => ∃ b arr ty, v = .pointer (some ⟨b, 0, none⟩) ∧ G b = .at_ s [] ∧ w.heap[b]? = some (.cells arr ty (0, 0)) ∧ arr.size = cs.length ∧
      ∀ (j : Nat) t u, cs[j]? = some t → arr[j]? = some u → Rep G w s [(0, j)] u t
  | .bld T e x => BldRep G w s v T e x
  | .addr r ver π i j => ver ≤ (st r).ver ∧ ((st r).ver = ver → match π with
      | [] => i = 0 ∧ ∃ b, (st r).sv.boxy = true ∧ vals r = .pointer (some ⟨b, 0, none⟩) ∧ v = .pointer (some ⟨b, j, none⟩)
      | _ :: _ => ∃ b o n c sz els, place vals st w r π = some (.slice (some ⟨b, o, none⟩) n c, .sl true sz els) ∧ i < els.length ∧ v = .pointer (some ⟨b, o + i * sz + j, none⟩))

structure Inv (pins : List (Nat × Value)) (G : Nat → Own) (w : World) (st : St) (vals : Nat → Value) : Prop where
  slots : ∀ s, SlotRep G w st vals s (vals s) (st s).sv
  alloc : ∀ b, w.heap.size ≤ b → G b = .outer
  pin : ∀ p ∈ pins, vals p.1 = p.2

variable {G G' : Nat → Own} {w w' : World} {st st' : St} {vals vals' : Nat → Value} {pins : List (Nat × Value)}

theorem packed_of {a : Bool} {us : List Value} {v : Value} (h : Pack a us v) (j : Nat) : packed a v j = us[j]? := by
  cases a with
  | true => cases h; simp [packed]
  | false => cases h; cases j <;> simp [packed]

/-- What a place of slot r holds: represented there. -/
theorem cellRep_root (h : Inv pins G w st vals) {r k j : Nat} {x : T} {u : Value} (hc : (st r).sv.cell k j = some (.t x)) (hu : cellVal w (vals r) (st r).sv k j = some u) :
    Rep G w r [(k, j)] u x := by
  have hs := h.slots r
  cases hsv : (st r).sv with
  | dead => simp [hsv, SV.cell] at hc
  | addr => simp [hsv, SV.cell] at hc
  | bld => simp [hsv, SV.cell] at hc
  | val a cs =>
    rw [hsv] at hc hu hs
    simp only [SV.cell, cellVal] at hc hu
    split at hc
    · rename_i hk
      subst hk
      simp only [if_true] at hu
      obtain ⟨us, hp, hl, hall⟩ := hs
      rw [packed_of hp] at hu
      exact hall j _ u hc hu
    · cases hc
  | tup vs =>
    rw [hsv] at hc hu hs
    obtain ⟨arr, hv, hl, hall⟩ := hs
    simp only [SV.cell, cellVal, hv] at hc hu
    obtain ⟨p, hp, hc⟩ := Option.bind_eq_some_iff.1 hc
    rw [hp, Option.bind_some] at hu
    obtain ⟨u0, h0, hu⟩ := Option.bind_eq_some_iff.1 hu
    obtain ⟨us, hpk, hlen, hall'⟩ := hall k p u0 hp h0
    rw [packed_of hpk] at hu
    exact hall' j _ u hc hu
  | box cs =>
    rw [hsv] at hc hu hs
    obtain ⟨b, arr, ty, hv, hG, hb, hl, hall⟩ := hs
    simp only [SV.cell, cellVal, hv] at hc hu
    split at hc
    · rename_i hk
      subst hk
      obtain ⟨x', hx', he⟩ := Option.map_eq_some_iff.1 hc
      cases he
      simp only [World.cell?, hb, Nat.zero_add] at hu
      exact hall j _ u hx' (by simpa using hu)
    · cases hc

theorem rep_descend {s : Nat} : ∀ {π π0 : Path} {u u' : Value} {x x' : T}, Rep G w s π0 u x → descend w u x π = some (u', x') → Rep G w s (π0 ++ π) u' x'
  | [], π0, u, u', x, x', h, hd => by simp only [descend, Option.some.injEq, Prod.mk.injEq] at hd; obtain ⟨rfl, rfl⟩ := hd; simpa using h
  | (i, j) :: π, π0, u, u', x, x', h, hd => by
    unfold descend at hd
    split at hd
    · cases ‹_ :: _ = []›
    · rename_i heq
      cases heq
      obtain ⟨y, hy, hd⟩ := Option.bind_eq_some_iff.1 hd
      obtain ⟨uy, huy, hd⟩ := Option.bind_eq_some_iff.1 hd
      cases h with
      | nil => simp [elAt] at hy
      | own f hG hn hc hr hb ha hv ht =>
        have h1 := hv _ _ _ hy
        rw [h1] at huy
        cases huy
        have := rep_descend (ht _ _ _ hy) hd
        simpa using this
    · cases hd

theorem place_rep (h : Inv pins G w st vals) {r : Nat} {π : Path} {u : Value} {x : T} (hp : place vals st w r π = some (u, x)) : Rep G w r π u x := by
  cases π with
  | nil => simp [place] at hp
  | cons q π =>
    obtain ⟨k, j⟩ := q
    simp only [place] at hp
    obtain ⟨u0, h0, hp⟩ := Option.bind_eq_some_iff.1 hp
    split at hp
    · rename_i x0 hx0
      exact rep_descend (cellRep_root h hx0 h0) hp
    · cases hp

/-- The reading along a path hangs on the blocks of its owner alone. -/
theorem descend_keep {s : Nat} : ∀ {π π0 : Path} {u : Value} {x : T}, Rep G w s π0 u x → (∀ b ρ, G b = .at_ s ρ → w'.heap[b]? = w.heap[b]?) → descend w' u x π = descend w u x π
  | [], _, _, _, _, _ => by simp [descend]
  | (i, j) :: π, π0, u, x, h, hk => by
    cases h with
    | own f hG hn hc hr hb ha hv ht =>
      simp only [descend]
      cases he : elAt _ i j with
      | none => rfl
      | some y =>
        simp only [Option.bind_some]
        rw [cell_eq (hk _ _ hG), hv _ _ _ he]
        simp only [Option.bind_some]
        exact descend_keep (ht _ _ _ he) hk
    | nil =>
      rename_i A m sz
      rcases A with _ | ⟨b, o, sp⟩
      · simp [descend]
      · cases sp <;> cases m <;> simp [descend, elAt]
    | _ => simp [descend]

theorem cellVal_keep (h : Inv pins G w st vals) {r : Nat} (hk : ∀ b ρ, G b = .at_ r ρ → w'.heap[b]? = w.heap[b]?) (k j : Nat) : cellVal w' (vals r) (st r).sv k j = cellVal w (vals r) (st r).sv k j := by
  have hs := h.slots r
  cases hsv : (st r).sv with
  | box cs =>
    rw [hsv] at hs
    obtain ⟨b, arr, ty, hv, hG, -⟩ := hs
    simp only [cellVal, hv]
    exact cell_eq (hk _ _ hG)
  | _ => simp [cellVal]

theorem place_keep (h : Inv pins G w st vals) {r : Nat} (hs : st' r = st r) (hv : vals' r = vals r) (hk : ∀ b ρ, G b = .at_ r ρ → w'.heap[b]? = w.heap[b]?) (π : Path) :
    place vals' st' w' r π = place vals st w r π := by
  cases π with
  | nil => rfl
  | cons q π =>
    obtain ⟨k, j⟩ := q
    simp only [place, hs, hv]
    rw [cellVal_keep h hk]
    cases hu : cellVal w (vals r) (st r).sv k j with
    | none => rfl
    | some u =>
      simp only [Option.bind_some]
      cases hc : (st r).sv.cell k j with
      | none => rfl
      | some c =>
        cases c with
        | t x => exact descend_keep (cellRep_root h hc hu) hk
        | ref => rfl

theorem cellRep_keep (h : Inv pins G w st vals) {K : Nat → Prop} (hst : ∀ s, ¬ K s → st' s = st s) (hva : ∀ s, ¬ K s → vals' s = vals s) (hver : ∀ s, K s → (st s).ver < (st' s).ver)
    (hp : ∀ b, G b = .pers → G' b = .pers ∧ w'.heap[b]? = w.heap[b]?) (ho : ∀ b s ρ, G b = .at_ s ρ → ¬ K s → G' b = .at_ s ρ ∧ w'.heap[b]? = w.heap[b]?)
    {s k j : Nat} {u : Value} {c : Cell} (hs : ¬ K s) (hc : CellRep G w st vals s k j u c) : CellRep G' w' st' vals' s k j u c := by
  cases c with
  | t x => exact Rep.move hc hp fun b ρ hb => ho b s _ hb hs
  | ref r ver π =>
    obtain ⟨hle, hc⟩ := hc
    by_cases hr : K r
    · exact ⟨Nat.le_of_lt (Nat.lt_of_le_of_lt hle (hver r hr)), fun he => by have := hver r hr; omega⟩
    · refine ⟨by rw [hst r hr]; exact hle, fun he => ?_⟩
      rw [hst r hr] at he
      rw [place_keep h (hst r hr) (hva r hr) fun b ρ hb => (ho b r ρ hb hr).2]
      exact hc he

theorem BldRep.move {s s' : Nat} {v : Value} {T e : TypeId} {x : ByteArray} (h : BldRep G w s v T e x) (ho : ∀ b ρ, G b = .at_ s ρ → G' b = .at_ s' ρ ∧ w'.heap[b]? = w.heap[b]?) : BldRep G' w' s' v T e x := by
  obtain ⟨b, p, u, hv, hG, hb, hp, hr, hne, hg⟩ := h
  refine ⟨b, p, u, hv, (ho b _ hG).1, (ho b _ hG).2.trans hb, hp, ⟨hr.1, ?_⟩, hne, fun g h => (ho g _ (hg g h)).1⟩
  rcases hr.2 with h | ⟨g, cap, cur, fz, hu, h0, hg0, h1, h2, h3, h4⟩
  · exact .inl h
  · exact .inr ⟨g, cap, cur, fz, hu, h0, (ho g _ (hg g (by simp [hu, Value.ownBlock]))).2.trans hg0, h1, h2, h3, h4⟩

/-- ONE LEMMA FOR EVERY STEP: the slots in K changed, their numbers rose, what belongs to others is as it was. -/
theorem Inv.step (h : Inv pins G w st vals) {K : Nat → Prop} (hst : ∀ s, ¬ K s → st' s = st s) (hva : ∀ s, ¬ K s → vals' s = vals s) (hver : ∀ s, K s → (st s).ver < (st' s).ver)
    (hp : ∀ b, G b = .pers → G' b = .pers ∧ w'.heap[b]? = w.heap[b]?) (ho : ∀ b s ρ, G b = .at_ s ρ → ¬ K s → G' b = .at_ s ρ ∧ w'.heap[b]? = w.heap[b]?)
    (hnew : ∀ s, K s → SlotRep G' w' st' vals' s (vals' s) (st' s).sv) (halloc : ∀ b, w'.heap.size ≤ b → G' b = .outer) (hpin : ∀ p ∈ pins, vals' p.1 = p.2) : Inv pins G' w' st' vals' := by
  refine ⟨fun s => ?_, halloc, hpin⟩
  by_cases hs : K s
  · exact hnew s hs
  rw [hst s hs, hva s hs]
  have key : ∀ {k : Nat} {a : Bool} {v : Value} {cs : List Cell}, CellsRep G w st vals s k a v cs → CellsRep G' w' st' vals' s k a v cs := by
    rintro k a v cs ⟨us, hpk, hl, hall⟩
    exact ⟨us, hpk, hl, fun j c u h1 h2 => cellRep_keep h hst hva hver hp ho hs (hall j c u h1 h2)⟩
  have h0 := h.slots s
  cases hsv : (st s).sv with
  | dead => trivial
  | val a cs => rw [hsv] at h0; exact key h0
  | tup vs =>
    rw [hsv] at h0
    obtain ⟨arr, hv, hl, hall⟩ := h0
    exact ⟨arr, hv, hl, fun k p u h1 h2 => key (hall k p u h1 h2)⟩
  | box cs =>
    rw [hsv] at h0
    obtain ⟨b, arr, ty, hv, hG, hb, hl, hall⟩ := h0
    have h1 := ho b s _ hG hs
    exact ⟨b, arr, ty, hv, h1.1, h1.2.trans hb, hl, fun j t u hj hu => (hall j t u hj hu).move hp fun b ρ hb => ho b s _ hb hs⟩
  | bld T e x => rw [hsv] at h0; exact BldRep.move h0 fun b ρ hb => ho b s ρ hb hs
  | addr r ver π i j =>
    rw [hsv] at h0
    obtain ⟨hle, h0⟩ := h0
    by_cases hr : K r
    · exact ⟨Nat.le_of_lt (Nat.lt_of_le_of_lt hle (hver r hr)), fun he => by have := hver r hr; omega⟩
    · refine ⟨by rw [hst r hr]; exact hle, fun he => ?_⟩
      rw [hst r hr] at he
      have h1 := h0 he
      cases π with
      | nil => simpa only [hst r hr, hva r hr] using h1
      | cons q π =>
        simp only [place_keep h (hst r hr) (hva r hr) fun b ρ hb => (ho b r ρ hb hr).2] at h1 ⊢
        exact h1

end Go.V
namespace Go.V
open Go Go.RowKit

/-- Where a function's body runs: the program, its number of slots, the slots that nobody may write and what they hold, the owners and the world at its begin. -/
structure Cx where
  P : Program
  N : Nat
  pins : List (Nat × Value)
  G0 : Nat → Own
  w0 : World

structure Base (G0 : Nat → Own) (w0 : World) (G : Nat → Own) (w : World) : Prop where
  pers : ∀ b, G0 b = .pers → G b = .pers ∧ w.heap[b]? = w0.heap[b]?
  outer : ∀ b, b < w0.heap.size → G0 b = .outer → G b = .outer ∧ w.heap[b]? = w0.heap[b]?
  size : w0.heap.size ≤ w.heap.size
  os : w.os = w0.os
  tape : w.tape = w0.tape
  output : w.output = w0.output

def Cx.free (X : Cx) (d : Nat) : Bool := X.pins.all fun p => p.1 != d

structure Alls (X : Cx) (st : St) (a : Act) (w : World) (G : Nat → Own) (vals : Nat → Value) : Prop where
  defers : a.defers = []
  size : a.tmps.size = X.N
  link : ∀ t, t < X.N → a.tmps.getD t undef = vals t
  inv : Inv X.pins G w st vals
  base : Base X.G0 X.w0 G w

def All (X : Cx) (st : St) (a : Act) (w : World) : Prop := ∃ G vals, Alls X st a w G vals

def thenV (N : St → Prop) (Q : Exit → St → Prop) : Exit → St → Prop
  | .normal, st => N st
  | e, st => Q e st
def blockV (id : Nat) (Q : Exit → St → Prop) : Exit → St → Prop
  | .exit id', st => if id' = id then Q .normal st else Q (.exit id') st
  | e, st => Q e st

def Post (X : Cx) (Q : Exit → St → Prop) : Exit → Act → World → Prop := fun e a w => ∃ st, All X st a w ∧ Q e st

def W (X : Cx) (c : Code) (st : St) (Q : Exit → St → Prop) : Prop := ∀ a w, All X st a w → c.wp X.P (Post X Q) a w

section
variable {X : Cx} {st st' : St} {Q : Exit → St → Prop} {x y c : Code}

theorem W.mono {Q' : Exit → St → Prop} (h : W X c st Q) (hq : ∀ e st, Q e st → Q' e st) : W X c st Q' :=
  fun a w hA => wp_mono (h a w hA) fun _ _ _ ⟨st', hA', hQ⟩ => ⟨st', hA', hq _ _ hQ⟩

theorem W_skip (h : Q .normal st) : W X .skip st Q := fun _ _ hA => wp_skip ⟨st, hA, h⟩
theorem W_label {l : Nat} (h : Q .normal st) : W X (.label l) st Q := fun _ _ hA => wp_label ⟨st, hA, h⟩
theorem W_exit {id : Nat} (h : Q (.exit id) st) : W X (.exit id) st Q := fun _ _ hA => wp_exit ⟨st, hA, h⟩
theorem W_ret (h : Q .ret st) : W X .ret st Q := fun _ _ hA => wp_ret ⟨st, hA, h⟩

theorem W_seq (h : W X x st (thenV (fun st' => W X y st' Q) Q)) : W X (.seq x y) st Q := fun a w hA =>
  wp_seq (wp_mono (h a w hA) fun e a' w' ⟨st', hA', hq⟩ => by
    cases e with
    | normal => exact hq a' w' hA'
    | _ => exact ⟨st', hA', hq⟩)

theorem W_block {id : Nat} (h : W X c st (blockV id Q)) : W X (.block id c) st Q := fun a w hA =>
  wp_block (wp_mono (h a w hA) fun e a' w' ⟨st', hA', hq⟩ => by
    cases e with
    | exit id' =>
      simp only [Exit.inBlock, blockV] at hq ⊢
      split
      · rename_i he; rw [if_pos he] at hq; exact ⟨st', hA', hq⟩
      · rename_i he; rw [if_neg he] at hq; exact ⟨st', hA', hq⟩
    | _ => exact ⟨st', hA', hq⟩)

/-- A loop: from what holds at a round's head with number n to less. -/
theorem W_loop (I : Nat → St → Prop) (round : ∀ n st, I n st → W X c st (thenV (fun st' => ∃ m, m < n ∧ I m st') Q)) {n : Nat} (h0 : I n st) : W X (.loop c) st Q := by
  intro a w hA b k cs
  have key : ∀ n st a w, I n st → All X st a w →
      ∃ e a' w', Post X Q e a' w' ∧ Arrives X.P (lone (b.at a (.code c :: .inLoop c :: k)) cs w) b k cs e a' w' := by
    intro n
    induction n using Nat.strongRecOn with
    | _ n ih =>
      intro st a w hI hA
      obtain ⟨e, a₁, w₁, ⟨st₁, hA₁, hq⟩, harr⟩ := round n st hI a w hA b (.inLoop c :: k) cs
      cases e with
      | normal =>
        obtain ⟨m, hm, hI₁⟩ := hq
        obtain ⟨e₂, a₂, w₂, hq₂, harr₂⟩ := ih m hm st₁ a₁ w₁ hI₁ hA₁
        exact ⟨e₂, a₂, w₂, hq₂, .of_steps (Steps.trans harr (.one step_inLoop)) harr₂⟩
      | exit id => exact ⟨_, a₁, w₁, ⟨st₁, hA₁, hq⟩, .pass (x := .inLoop c) rfl (fun _ _ => .inl (by simp)) harr⟩
      | goto l => exact ⟨_, a₁, w₁, ⟨st₁, hA₁, hq⟩, .pass (x := .inLoop c) rfl (fun _ _ => .inl (by simp)) harr⟩
      | ret => exact ⟨_, a₁, w₁, ⟨st₁, hA₁, hq⟩, .pass (x := .inLoop c) rfl (fun _ _ => .inl (by simp)) harr⟩
      | panic ch => exact ⟨_, a₁, w₁, ⟨st₁, hA₁, hq⟩, .pass (x := .inLoop c) rfl (fun _ _ => .inl (by simp)) harr⟩
      | outgrown => exact ⟨_, a₁, w₁, ⟨st₁, hA₁, hq⟩, .pass (x := .inLoop c) rfl (fun _ _ => .inl (by simp)) harr⟩
  obtain ⟨e, a', w', hq, harr⟩ := key n st a w h0 hA
  exact ⟨e, a', w', hq, .of_steps (.one step_loop) harr⟩
end

/-! ### operands -/
abbrev one (x : T) : SV := .val false [.t x]
abbrev scv (v : Value) : SV := one (.sc v)

def Opd (N : Nat) (st : St) : Operand → SV → Prop
  | .tmp t, sv => t < N ∧ (st t).sv = sv
  | .const v, sv => (scal v = true ∧ sv = scv v) ∨ (v = .slice none 0 0 ∧ ∃ m sz, sv = one (.sl m sz []))
  | .func f, sv => sv = one (.fn f [])
  | .global _, _ => False

section
variable {X : Cx} {st st' : St} {a : Act} {w : World} {G : Nat → Own} {vals : Nat → Value}

theorem slotRep_one {s : Nat} {v : Value} {x : T} : SlotRep G w st vals s v (one x) ↔ Rep G w s [(0, 0)] v x := by
  constructor
  · rintro ⟨us, hp, -, hall⟩
    cases hp
    exact hall 0 _ _ rfl rfl
  · intro h
    refine ⟨[v], rfl, rfl, fun j c u h1 h2 => ?_⟩
    cases j with
    | zero => simp at h1 h2; subst h1; subst h2; exact h
    | succ j => simp at h1

theorem opd_eval (hA : Alls X st a w G vals) {x : Operand} {sv : SV} (h : Opd X.N st x sv) : ∃ s, SlotRep G w st vals s (a.eval x) sv ∧ (∀ t, x = .tmp t → s = t ∧ a.eval x = vals t) := by
  cases x with
  | tmp t =>
    obtain ⟨hlt, rfl⟩ := h
    have : a.eval (.tmp t) = vals t := hA.link t hlt
    exact ⟨t, by rw [this]; exact hA.inv.slots t, fun t' he => by cases he; exact ⟨rfl, this⟩⟩
  | const v =>
    rcases h with ⟨hs, rfl⟩ | ⟨rfl, m, sz, rfl⟩
    · exact ⟨0, slotRep_one.2 (.sc hs), fun t he => by cases he⟩
    · exact ⟨0, slotRep_one.2 .nil, fun t he => by cases he⟩
  | func f => cases h; exact ⟨0, slotRep_one.2 (.fn (caps := []) [] rfl (by simp) (by simp)), fun t he => by cases he⟩
  | global g => cases h

theorem opd_sc (hA : Alls X st a w G vals) {x : Operand} {v : Value} (h : Opd X.N st x (scv v)) : a.eval x = v ∧ scal v = true := by
  obtain ⟨s, hs, -⟩ := opd_eval hA h
  have := slotRep_one.1 hs
  generalize he : a.eval x = u at this
  cases this with
  | sc h => exact ⟨rfl, h⟩

/-- The world and the owners as they were, one slot written. -/
theorem Alls.put (hA : Alls X st a w G vals) {d : Nat} {v : Value} {sv : SV} (hd : X.free d = true)
    (hs : SlotRep G w (st.put d sv) (upd vals d v) d v sv) : Alls X (st.put d sv) (a.put (some d) v) w G (upd vals d v) := by
  refine ⟨hA.defers, by simp [Act.put, hA.size], fun t ht => ?_, ?_, hA.base⟩
  · simp only [Act.put, upd]
    by_cases h : t = d
    · subst h
      simp [Array.getD_eq_getD_getElem?, hA.size, ht]
    · have := hA.link t ht
      simp only [Array.getD_eq_getD_getElem?] at this ⊢
      rw [Array.getElem?_setIfInBounds_ne (fun e => h e.symm), if_neg h]
      exact this
  · refine hA.inv.step (K := (· = d)) (fun s h => put_ne st sv h) (fun s h => by simp [upd, h]) (fun s h => by subst h; rw [put_same]; simp) (fun b h => ⟨h, rfl⟩) (fun b s ρ h _ => ⟨h, rfl⟩) ?_ hA.inv.alloc ?_
    · rintro s rfl
      rw [put_same]
      simpa [upd] using hs
    · intro p hp
      have h1 : p.1 ≠ d := by
        have := List.all_eq_true.1 hd p hp
        simpa using this
      simp only [upd, if_neg h1]
      exact hA.inv.pin p hp

/-- One operation: from a state to a state. -/
def OStep (X : Cx) (o : Oper) (st st' : St) : Prop :=
  ∀ a w next Qx, All X st a w → (∀ a' w', All X st' a' w' → next a' w') → o.wp X.P a w next Qx

/-- An operation that leaves the world alone. -/
theorem OStep.value {o : Oper} {d : Nat} {sv : SV} (hd : o.dst = some d) (hf : X.free d = true)
    (h : ∀ a w G vals, Alls X st a w G vals → ∃ v, (execOp a.eval o).run X.P w = .ok (.value v) w ∧ SlotRep G w (st.put d sv) (upd vals d v) d v sv) : OStep X o st (st.put d sv) := by
  rintro a w next Qx ⟨G, vals, hA⟩ hn
  obtain ⟨v, hr, hs⟩ := h a w G vals hA
  unfold Oper.wp
  rw [hr, Oper.upon_value, hd]
  exact hn _ _ ⟨G, _, hA.put hf hs⟩

theorem OStep.scalar {o : Oper} {d : Nat} {v : Value} (hd : o.dst = some d) (hf : X.free d = true) (hv : scal v = true)
    (h : ∀ a w G vals, Alls X st a w G vals → (execOp a.eval o).run X.P w = .ok (.value v) w) : OStep X o st (st.put d (scv v)) :=
  OStep.value hd hf fun a w G vals hA => ⟨v, h a w G vals hA, slotRep_one.2 (.sc hv)⟩

/-! ### regions in the text's order -/
def WL (X : Cx) (ops : Array Oper) (l : List Oper) (st : St) (Q : Exit → St → Prop) : Prop := ∀ a w, All X st a w → wpList X.P ops (Post X Q) l a w

variable {Q : Exit → St → Prop} {ops : Array Oper} {l : List Oper} {o : Oper}

theorem WL_nil (h : Q .normal st) : WL X ops [] st Q := fun _ _ hA => ⟨st, hA, h⟩

theorem WL_step (hg : o.guard = none) (h : OStep X o st st') (hl : WL X ops l st' Q) : WL X ops (o :: l) st Q := fun a w hA => by
  unfold wpList
  rw [if_pos (by simp [Region.wanted, hg])]
  exact .inl (h a w _ _ hA hl)

theorem yielded_of (hA : Alls X st a w G vals) {j d : Nat} {b : Bool} (hd : (ops[j]?).bind (·.dst) = some d) (hN : d < X.N) (hb : (st d).sv = scv (.bool b)) : yielded ops a.tmps j = some b := by
  have h1 := opd_sc hA (x := .tmp d) ⟨hN, hb⟩
  have h2 : a.tmps.getD d undef = .bool b := h1.1
  have h3 : a.tmps[d]? = some (.bool b) := by
    have hlt : d < a.tmps.size := by rw [hA.size]; exact hN
    simp only [Array.getD_eq_getD_getElem?, Array.getElem?_eq_getElem hlt, Option.getD_some] at h2
    rw [Array.getElem?_eq_getElem hlt, h2]
  simp [yielded, hd, h3]

theorem WL_run {j d : Nat} {b : Bool} (hg : o.guard = some (j, b)) (hd : (ops[j]?).bind (·.dst) = some d) (hN : d < X.N) (hb : (st d).sv = scv (.bool b)) (h : OStep X o st st') (hl : WL X ops l st' Q) :
    WL X ops (o :: l) st Q := fun a w hA => by
  obtain ⟨G, vals, hA'⟩ := hA
  unfold wpList
  rw [if_pos (by simp [Region.wanted, hg, yielded_of hA' hd hN hb])]
  exact .inl (h a w _ _ ⟨G, vals, hA'⟩ hl)

theorem WL_off {j d e : Nat} {b b' : Bool} (hg : o.guard = some (j, b)) (hd : (ops[j]?).bind (·.dst) = some d) (hN : d < X.N) (hb : (st d).sv = scv (.bool b')) (hne : b' ≠ b) (he : o.dst = some e) (hf : X.free e = true)
    (hl : WL X ops l (st.put e .dead) Q) : WL X ops (o :: l) st Q := fun a w hA => by
  obtain ⟨G, vals, hA'⟩ := hA
  unfold wpList
  rw [if_neg (by simp [Region.wanted, hg, yielded_of hA' hd hN hb, hne]), he]
  exact hl _ _ ⟨G, _, hA'.put hf trivial⟩

theorem WL_off_none {j d : Nat} {b b' : Bool} (hg : o.guard = some (j, b)) (hd : (ops[j]?).bind (·.dst) = some d) (hN : d < X.N) (hb : (st d).sv = scv (.bool b')) (hne : b' ≠ b) (he : o.dst = none)
    (hl : WL X ops l st Q) : WL X ops (o :: l) st Q := fun a w hA => by
  obtain ⟨G, vals, hA'⟩ := hA
  unfold wpList
  rw [if_neg (by simp [Region.wanted, hg, yielded_of hA' hd hN hb, hne]), he]
  exact hl _ _ ⟨G, _, hA'⟩

theorem W_region {id : Nat} (h : WL X l.toArray l st Q) : W X (.region id l.toArray false) st Q := fun a w hA => wp_region_lit (h a w hA)

theorem W_cond {c : Operand} {x y : Code} {b : Bool} (hc : Opd X.N st c (scv (.bool b))) (h : W X (if b then x else y) st Q) : W X (.cond c x y) st Q := fun a w hA => by
  obtain ⟨G, vals, hA'⟩ := hA
  exact wp_cond (opd_sc hA' hc).1 (h a w ⟨G, vals, hA'⟩)
end
end Go.V
namespace Go.V
open Go Go.RowKit

def bitsV (op : BinOp) (k : IntKind) (x y : Int) : Option Int :=
  let a := BitVec.ofInt k.bits x
  let b := BitVec.ofInt k.bits y
  match op with
  | .and => some (k.wrap (a &&& b).toNat)
  | .or => some (k.wrap (a ||| b).toNat)
  | .xor => some (k.wrap (a ^^^ b).toNat)
  | .andNot => some (k.wrap (a &&& ~~~b).toNat)
  | _ => none

/-- What a binary operation gives of two numbers of one kind. -/
def intV (op : BinOp) (k : IntKind) (a b : Int) : Option Value :=
  match op with
  | .add => some (.int k (k.wrap (a + b)))
  | .sub => some (.int k (k.wrap (a - b)))
  | .mul => some (.int k (k.wrap (a * b)))
  | .eql => some (.bool (a == b))
  | .neq => some (.bool (a != b))
  | .lss => some (.bool (decide (a < b)))
  | .leq => some (.bool (decide (a ≤ b)))
  | .gtr => some (.bool (decide (a > b)))
  | .geq => some (.bool (decide (a ≥ b)))
  | .and => (bitsV .and k a b).map (.int k)
  | .or => (bitsV .or k a b).map (.int k)
  | .xor => (bitsV .xor k a b).map (.int k)
  | .andNot => (bitsV .andNot k a b).map (.int k)
  | _ => none

def strV (op : BinOp) (a b : ByteArray) : Option Value :=
  match op with
  | .eql => some (.bool (a.toList == b.toList))
  | .neq => some (.bool !(a.toList == b.toList))
  | .lss => some (.bool (Op.bytesLess a.toList b.toList))
  | .leq => some (.bool (Op.bytesLess a.toList b.toList || a.toList == b.toList))
  | .gtr => some (.bool !(Op.bytesLess a.toList b.toList || a.toList == b.toList))
  | .geq => some (.bool !(Op.bytesLess a.toList b.toList))
  | _ => none

def unV (op : UnOp) (v : Value) : Option Value :=
  match op, v with
  | .neg, .int k n => some (.int k (k.wrap (0 - n)))
  | .xor, .int k n => (bitsV .xor k (if k.signed then -1 else k.max) n).map (.int k)
  | .not, .bool b => some (.bool !b)
  | _, _ => none

section
variable {X : Cx} {st : St} {d : Nat} {op : BinOp} {t t' ty : TypeId} {x y z : Operand} {k : IntKind} {a b : Int} {v : Value} {pos : String} {af : Array Edge} {g : Option (Nat × Bool)}

theorem run_bind {α β : Type} (P : Program) (s : Sem α) (f : α → Sem β) (w : World) {r : α} {w' : World} (h : s.run P w = .ok r w') : (s >>= f).run P w = (f r).run P w' := by
  rw [Sem.run_bind, h]; rfl

theorem run_value {P : Program} {s : Sem Value} {w w' : World} {v : Value} (h : s.run P w = .ok v w') : (do pure (Next.value (← s)) : Sem Next).run P w = .ok (.value v) w' := by
  rw [run_bind P s _ w h]; rfl

theorem bin_run {P : Program} {w : World} (hop : intV op k a b = some v) : (binOp op t (.int k a) (.int k b)).run P w = .ok v w := by
  cases op <;> simp only [intV, bitsV] at hop <;> first
    | (cases hop; done)
    | (cases hop; simp [binOp, Op.intArith, Op.intCmp, Op.intBits])

theorem eqGuard_int {P : Program} {w : World} : (eqGuard op t x y (.int k a) (.int k b)).run P w = .ok () w := by
  cases op <;> simp [eqGuard]

theorem OS_int (hx : Opd X.N st x (scv (.int k a))) (hy : Opd X.N st y (scv (.int k b))) (hop : intV op k a b = some v) (hf : X.free d = true) :
    OStep X ⟨some d, .binOp op t x y t', ty, pos, af, g⟩ st (st.put d (scv v)) := by
  refine OStep.scalar rfl hf ?_ fun ac w G vals hA => ?_
  · cases op <;> simp only [intV, bitsV, Option.map_some] at hop <;> cases hop <;> rfl
  · have h1 := (opd_sc hA hx).1
    have h2 := (opd_sc hA hy).1
    simp only [execOp, h1, h2]
    refine run_value ?_
    rw [run_bind _ _ _ _ eqGuard_int]
    exact bin_run hop

theorem OS_quo (hx : Opd X.N st x (scv (.int k a))) (hy : Opd X.N st y (scv (.int k b))) (hb : b ≠ 0) (hf : X.free d = true) :
    OStep X ⟨some d, .binOp .quo t x y t', ty, pos, af, g⟩ st (st.put d (scv (.int k (k.wrap (a.tdiv b))))) := by
  refine OStep.scalar rfl hf rfl fun ac w G vals hA => ?_
  have h1 := (opd_sc hA hx).1
  have h2 := (opd_sc hA hy).1
  simp only [execOp, h1, h2]
  refine run_value ?_
  rw [run_bind _ _ _ _ eqGuard_int]
  simp [binOp, Op.intDiv, hb]

theorem OS_rem (hx : Opd X.N st x (scv (.int k a))) (hy : Opd X.N st y (scv (.int k b))) (hb : b ≠ 0) (hf : X.free d = true) :
    OStep X ⟨some d, .binOp .rem t x y t', ty, pos, af, g⟩ st (st.put d (scv (.int k (a.tmod b)))) := by
  refine OStep.scalar rfl hf rfl fun ac w G vals hA => ?_
  have h1 := (opd_sc hA hx).1
  have h2 := (opd_sc hA hy).1
  simp only [execOp, h1, h2]
  refine run_value ?_
  rw [run_bind _ _ _ _ eqGuard_int]
  simp [binOp, Op.intDiv, hb]

theorem OS_shl {k' : IntKind} (hx : Opd X.N st x (scv (.int k a))) (hy : Opd X.N st y (scv (.int k' b))) (hb : 0 ≤ b) (hf : X.free d = true) :
    OStep X ⟨some d, .binOp .shl t x y t', ty, pos, af, g⟩ st (st.put d (scv (.int k (k.wrap (a * 2 ^ (min b.toNat k.bits)))))) := by
  refine OStep.scalar rfl hf rfl fun ac w G vals hA => ?_
  have h1 := (opd_sc hA hx).1
  have h2 := (opd_sc hA hy).1
  simp only [execOp, h1, h2]
  refine run_value ?_
  have h3 : (eqGuard .shl t x y (.int k a) (.int k' b)).run X.P w = .ok () w := rfl
  rw [run_bind _ _ _ _ h3]
  simp [binOp, Op.shift, show ¬ b < 0 by omega]

theorem OS_shr {k' : IntKind} (hx : Opd X.N st x (scv (.int k a))) (hy : Opd X.N st y (scv (.int k' b))) (hb : 0 ≤ b) (hf : X.free d = true) :
    OStep X ⟨some d, .binOp .shr t x y t', ty, pos, af, g⟩ st (st.put d (scv (.int k (a.fdiv (2 ^ (min b.toNat k.bits)))))) := by
  refine OStep.scalar rfl hf rfl fun ac w G vals hA => ?_
  have h1 := (opd_sc hA hx).1
  have h2 := (opd_sc hA hy).1
  simp only [execOp, h1, h2]
  refine run_value ?_
  have h3 : (eqGuard .shr t x y (.int k a) (.int k' b)).run X.P w = .ok () w := rfl
  rw [run_bind _ _ _ _ h3]
  simp [binOp, Op.shift, show ¬ b < 0 by omega]

theorem OS_str {r s : ByteArray} (hx : Opd X.N st x (scv (.string r))) (hy : Opd X.N st y (scv (.string s))) (hop : strV op r s = some v) (hf : X.free d = true) :
    OStep X ⟨some d, .binOp op t x y t', ty, pos, af, g⟩ st (st.put d (scv v)) := by
  refine OStep.scalar rfl hf ?_ fun ac w G vals hA => ?_
  · cases op <;> simp only [strV] at hop <;> cases hop <;> rfl
  · have h1 := (opd_sc hA hx).1
    have h2 := (opd_sc hA hy).1
    simp only [execOp, h1, h2]
    refine run_value ?_
    have h3 : (eqGuard op t x y (.string r) (.string s)).run X.P w = .ok () w := by cases op <;> simp [eqGuard]
    rw [run_bind _ _ _ _ h3]
    cases op <;> simp only [strV] at hop <;> first
      | (cases hop; done)
      | (cases hop; simp [binOp, Op.stringOp])

theorem OS_cat {r s : ByteArray} (hx : Opd X.N st x (scv (.string r))) (hy : Opd X.N st y (scv (.string s))) (hop : r.size + s.size ≤ 9223372036854775807) (hf : X.free d = true) :
    OStep X ⟨some d, .binOp .add t x y t', ty, pos, af, g⟩ st (st.put d (scv (.string (r ++ s)))) := by
  refine OStep.scalar rfl hf rfl fun ac w G vals hA => ?_
  have h1 := (opd_sc hA hx).1
  have h2 := (opd_sc hA hy).1
  simp only [execOp, h1, h2]
  refine run_value ?_
  have h3 : (eqGuard .add t x y (.string r) (.string s)).run X.P w = .ok () w := rfl
  rw [run_bind _ _ _ _ h3]
  have hm : IntKind.i64.max = 9223372036854775807 := by decide
  have hn : ¬ (IntKind.i64.max < ((r.size + s.size : Nat) : Int)) := by rw [hm]; omega
  simp only [binOp, Op.stringOp, gt_iff_lt, if_neg hn]
  rfl

theorem OS_boolEq {p q : Bool} (hu : X.P.underlying t = some .bool) (hx : Opd X.N st x (scv (.bool p))) (hy : Opd X.N st y (scv (.bool q))) (hf : X.free d = true) :
    OStep X ⟨some d, .binOp .eql t x y t', ty, pos, af, g⟩ st (st.put d (scv (.bool (p == q)))) := by
  refine OStep.scalar rfl hf rfl fun ac w G vals hA => ?_
  have h1 := (opd_sc hA hx).1
  have h2 := (opd_sc hA hy).1
  simp only [execOp, h1, h2]
  refine run_value ?_
  have h3 : (eqGuard .eql t x y (.bool p) (.bool q)).run X.P w = .ok () w := rfl
  rw [run_bind _ _ _ _ h3]
  have h4 : (Op.equal t (.bool p) (.bool q)).run X.P w = .ok (p == q) w := by
    have h5 : ∀ n : Nat, (Op.equalIn (n + 1) t (.bool p) (.bool q)).run X.P w = .ok (p == q) w := fun n => by simp [Op.equalIn, run_underlying hu]
    exact h5 9999
  simp only [binOp]
  rw [run_bind _ _ _ _ h4]
  rfl

theorem OS_boolNe {p q : Bool} (hu : X.P.underlying t = some .bool) (hx : Opd X.N st x (scv (.bool p))) (hy : Opd X.N st y (scv (.bool q))) (hf : X.free d = true) :
    OStep X ⟨some d, .binOp .neq t x y t', ty, pos, af, g⟩ st (st.put d (scv (.bool (p != q)))) := by
  refine OStep.scalar rfl hf rfl fun ac w G vals hA => ?_
  have h1 := (opd_sc hA hx).1
  have h2 := (opd_sc hA hy).1
  simp only [execOp, h1, h2]
  refine run_value ?_
  have h3 : (eqGuard .neq t x y (.bool p) (.bool q)).run X.P w = .ok () w := rfl
  rw [run_bind _ _ _ _ h3]
  have h4 : (Op.equal t (.bool p) (.bool q)).run X.P w = .ok (p == q) w := by
    have h5 : ∀ n : Nat, (Op.equalIn (n + 1) t (.bool p) (.bool q)).run X.P w = .ok (p == q) w := fun n => by simp [Op.equalIn, run_underlying hu]
    exact h5 9999
  simp only [binOp]
  rw [run_bind _ _ _ _ h4]
  rfl

theorem OS_un {u : UnOp} {vx : Value} (hx : Opd X.N st x (scv vx)) (hop : unV u vx = some v) (hf : X.free d = true) :
    OStep X ⟨some d, .unOp u t x, ty, pos, af, g⟩ st (st.put d (scv v)) := by
  refine OStep.scalar rfl hf ?_ fun ac w G vals hA => ?_
  · cases u <;> cases vx <;> simp only [unV, bitsV, Option.map_some] at hop <;> cases hop <;> rfl
  · have h1 := (opd_sc hA hx).1
    simp only [execOp, h1]
    refine run_value ?_
    cases u <;> cases vx <;> simp only [unV, bitsV, Option.map_some] at hop <;> first
      | (cases hop; done)
      | (cases hop; simp [Op.unary, Op.intArith, Op.intBits])

theorem OS_conv {k' : IntKind} {src : TypeId} (hu : X.P.underlying src = some (.int k)) (hu' : X.P.underlying t = some (.int k')) (hx : Opd X.N st x (scv (.int k a))) (hf : X.free d = true) :
    OStep X ⟨some d, .convert src t x, ty, pos, af, g⟩ st (st.put d (scv (.int k' (k'.wrap a)))) := by
  refine OStep.scalar rfl hf rfl fun ac w G vals hA => ?_
  simp only [execOp, (opd_sc hA hx).1]
  refine run_value ?_
  simp [convert, run_underlying hu, run_underlying hu', Conv.intToInt]

theorem OS_convStr {r : ByteArray} {src : TypeId} (hu : X.P.underlying src = some .string) (hu' : X.P.underlying t = some .string) (hx : Opd X.N st x (scv (.string r))) (hf : X.free d = true) :
    OStep X ⟨some d, .convert src t x, ty, pos, af, g⟩ st (st.put d (scv (.string r))) := by
  refine OStep.scalar rfl hf rfl fun ac w G vals hA => ?_
  simp only [execOp, (opd_sc hA hx).1]
  refine run_value ?_
  simp [convert, run_underlying hu, run_underlying hu']

theorem OS_pick {c : Operand} {p : Bool} {vx vy : Value} (hc : Opd X.N st c (scv (.bool p))) (hx : p = true → Opd X.N st x (scv vx)) (hy : p = false → Opd X.N st y (scv vy)) (hf : X.free d = true) :
    OStep X ⟨some d, .pick c x y, ty, pos, af, g⟩ st (st.put d (scv (if p then vx else vy))) := by
  refine OStep.value rfl hf fun ac w G vals hA => ?_
  cases p with
  | true =>
    have h2 := opd_sc hA (hx rfl)
    refine ⟨vx, ?_, slotRep_one.2 (.sc h2.2)⟩
    simp only [execOp, (opd_sc hA hc).1, h2.1]
    simp [asBool]
  | false =>
    have h2 := opd_sc hA (hy rfl)
    refine ⟨vy, ?_, slotRep_one.2 (.sc h2.2)⟩
    simp only [execOp, (opd_sc hA hc).1, h2.1]
    simp [asBool]

theorem OS_const (hx : scal v = true) (hf : X.free d = true) : OStep X ⟨some d, .move (.const v), ty, pos, af, g⟩ st (st.put d (scv v)) :=
  OStep.scalar rfl hf hx fun _ _ _ _ _ => rfl
theorem OS_const' (hx : scal v = true) (hf : X.free d = true) : OStep X ⟨some d, .assign (.const v), ty, pos, af, g⟩ st (st.put d (scv v)) :=
  OStep.scalar rfl hf hx fun _ _ _ _ _ => rfl

theorem OS_index {r : ByteArray} {i : Int} {kx : IntKind} (hu : X.P.underlying t = some .string) (hx : Opd X.N st x (scv (.string r))) (hy : Opd X.N st y (scv (.int kx i))) (h0 : 0 ≤ i) (h1 : i < r.size) (hf : X.free d = true) :
    OStep X ⟨some d, .index t x y, ty, pos, af, g⟩ st (st.put d (scv (.int .u8 (r[i.toNat]'(by omega)).toNat))) := by
  refine OStep.scalar rfl hf rfl fun ac w G vals hA => ?_
  simp only [execOp, (opd_sc hA hx).1, (opd_sc hA hy).1]
  refine run_value ?_
  have hlt : i.toNat < r.size := by omega
  have hg : r[i.toNat]? = some (r[i.toNat]'hlt) := getElem?_pos r i.toNat hlt
  simp [Instr.index, asIntOf, run_underlying hu, h0, hg]

theorem OS_len {r : ByteArray} {tys : Array TypeId} (ht : tys[0]? = some t) (hu : X.P.underlying t = some .string) (hx : Opd X.N st x (scv (.string r))) (hf : X.free d = true) :
    OStep X ⟨some d, .call { callee := .builtin .len, args := #[x], argTypes := tys }, ty, pos, af, g⟩ st (st.put d (scv (.int .i64 r.size))) := by
  refine OStep.scalar rfl hf rfl fun ac w G vals hA => ?_
  have h1 := (opd_sc hA hx).1
  simp only [execOp]
  simp [resolve, invoke, builtin, Builtin.len_, ht, h1, run_underlying hu, goInt]
end
end Go.V
namespace Go.V
open Go Go.RowKit

def Cell.copy (t ver k j : Nat) : Cell → Cell
  | .t (.sl true _ _) => .ref t ver [(k, j)]
  | c => c
def copies (t ver k : Nat) : Nat → List Cell → List Cell
  | _, [] => []
  | j, c :: cs => c.copy t ver k j :: copies t ver k (j + 1) cs
theorem copies_len (t ver k : Nat) : ∀ (cs : List Cell) (j : Nat), (copies t ver k j cs).length = cs.length
  | [], _ => rfl
  | _ :: cs, j => by simp [copies, copies_len t ver k cs (j + 1)]
theorem copies_get (t ver k : Nat) : ∀ (cs : List Cell) (j i : Nat), (copies t ver k j cs)[i]? = (cs[i]?).map fun c => c.copy t ver k (j + i)
  | [], _, _ => by simp [copies]
  | c :: cs, j, 0 => by simp [copies]
  | c :: cs, j, i + 1 => by simp [copies, copies_get t ver k cs (j + 1) i, Nat.add_comm, Nat.add_left_comm]

/-- What a variable's reading gives. -/
def SV.copy (t ver : Nat) : SV → SV
  | .val a cs => .val a (copies t ver 0 0 cs)
  | .box _ => .addr t ver [] 0 0
  | .bld .. => .addr t ver [] 0 0
  | .addr r k π i j => .addr r k π i j
  | _ => .dead

/-- The cells from a place on, up to its element's end. -/
def St.cells (st : St) (r : Nat) (π : Path) (i j : Nat) : Option (List T) :=
  match π with
  | [] => match (st r).sv with
    | .box cs => if i = 0 then some (cs.drop j) else none
    | _ => none
  | _ :: _ => match st.at_ r π with
    | some (.sl true _ els) => (els[i]?).map (·.drop j)
    | _ => none

def cellAt (r k : Nat) (π : Path) (i j : Nat) : T → Cell
  | .sl true _ _ => .ref r k (π ++ [(i, j)])
  | x => .t x
def cellOf (r k : Nat) (π : Path) (i : Nat) : Nat → List T → List Cell
  | _, [] => []
  | j, x :: xs => cellAt r k π i j x :: cellOf r k π i (j + 1) xs
theorem cellOf_len (r k : Nat) (π : Path) (i : Nat) : ∀ (cs : List T) (j : Nat), (cellOf r k π i j cs).length = cs.length
  | [], _ => rfl
  | _ :: cs, j => by simp [cellOf, cellOf_len r k π i cs (j + 1)]

def isAgg? (P : Program) (t : TypeId) : Option Bool := (P.underlying t).map fun d => match d with | .struct _ | .array _ _ => true | _ => false
def cells? (P : Program) (t : TypeId) : Option Nat := (P.info? t).map (·.size)
/-- Where a struct's field begins, and its cells. -/
def field? (P : Program) (t : TypeId) (f : Nat) : Option (Nat × Nat × Bool) :=
  match P.underlying t with
  | some (.struct fs) => (fs[f]?).bind fun fd => (cells? P fd.type).bind fun n => (isAgg? P fd.type).map fun a => (fd.offset, n, a)
  | _ => none
def elem? (P : Program) (t : TypeId) : Option (TypeId × Nat) :=
  match P.underlying t with
  | some (.slice e) => (cells? P e).map fun n => (e, n)
  | _ => none

section
variable {X : Cx} {st : St} {d : Nat} {t t' ty : TypeId} {x y z : Operand} {k : IntKind} {v : Value} {pos : String} {af : Array Edge} {g : Option (Nat × Bool)} {a : Act} {w : World} {G : Nat → Own} {vals : Nat → Value}

theorem run_sizeOf {P : Program} {w : World} {t : TypeId} {n : Nat} (h : cells? P t = some n) : (sizeOf t).run P w = .ok n w := by
  simp only [cells?, Option.map_eq_some_iff] at h
  obtain ⟨i, hi, rfl⟩ := h
  simp [sizeOf, typeInfo, hi]
theorem run_isAgg {P : Program} {w : World} {t : TypeId} {b : Bool} (h : isAgg? P t = some b) : (isAgg t).run P w = .ok b w := by
  simp only [isAgg?, Option.map_eq_some_iff] at h
  obtain ⟨i, hi, rfl⟩ := h
  simp only [isAgg, Sem.run_bind, run_underlying hi, Result.andThen_ok]
  cases i <;> rfl

theorem place_one {r k j : Nat} {x : T} {u : Value} (hc : (st r).sv.cell k j = some (.t x)) (hu : cellVal w (vals r) (st r).sv k j = some u) : place vals st w r [(k, j)] = some (u, x) := by
  simp [place, hu, hc, descend]

theorem upd_ne (f : Nat → Value) {d s : Nat} (v : Value) (h : s ≠ d) : upd f d v s = f s := by simp [upd, h]

/-- What held of a cell before a slot was written holds after. -/
theorem cellRep_put (hA : Alls X st a w G vals) {d s k j : Nat} {sv : SV} {v u : Value} {c : Cell} (hs : s ≠ d) (hc : CellRep G w st vals s k j u c) : CellRep G w (st.put d sv) (upd vals d v) s k j u c :=
  cellRep_keep hA.inv (K := (· = d)) (fun s h => put_ne st sv h) (fun s h => upd_ne vals v h) (fun s h => by subst h; rw [put_same]; simp) (fun b h => ⟨h, rfl⟩) (fun b s ρ h _ => ⟨h, rfl⟩) hs hc

theorem place_put (hA : Alls X st a w G vals) {d r : Nat} {sv : SV} {v : Value} (hr : r ≠ d) (π : Path) : place (upd vals d v) (st.put d sv) w r π = place vals st w r π :=
  place_keep hA.inv (put_ne st sv hr) (upd_ne vals v hr) (fun _ _ _ => rfl) π

theorem cellRep_copy (hA : Alls X st a w G vals) {d s k j k' j' : Nat} {sv : SV} {v u : Value} {c : Cell} (hs : s ≠ d) (hc : CellRep G w st vals s k j u c) (hp : (st s).sv.cell k j = some c) (hu : cellVal w (vals s) (st s).sv k j = some u) :
    CellRep G w (st.put d sv) (upd vals d v) d k' j' u (c.copy s (st s).ver k j) := by
  have h1 := cellRep_put (sv := sv) (v := v) hA hs hc
  cases c with
  | ref r ver π => exact h1
  | t x =>
    have key : x.free = true → CellRep G w (st.put d sv) (upd vals d v) d k' j' u (.t x) := fun hf => Rep.free h1 hf (fun b h => ⟨h, rfl⟩)
    cases x with
    | sl m sz els =>
      cases m with
      | false => exact key rfl
      | true => exact ⟨by rw [put_ne st sv hs]; exact Nat.le_refl _, fun _ => ⟨sz, els, by rw [place_put hA hs]; exact place_one hp hu⟩⟩
    | gone => exact .gone
    | sc => exact key rfl
    | ptr => exact key rfl
    | fn => exact key rfl

theorem cellVal_val {b : Bool} {us : List Value} (hp : Pack b us v) {cs : List Cell} (j : Nat) {u : Value} (hu : us[j]? = some u) : cellVal w v (.val b cs) 0 j = some u := by
  simp only [cellVal, if_true, packed_of hp, hu]

theorem slot_copy (hA : Alls X st a w G vals) {s : Nat} {sv : SV} (hs : s ≠ d) (hsv : (st s).sv = sv) : SlotRep G w (st.put d (sv.copy s (st s).ver)) (upd vals d (vals s)) d (vals s) (sv.copy s (st s).ver) := by
  have h0 := hA.inv.slots s
  rw [hsv] at h0
  cases sv with
  | dead => trivial
  | tup => trivial
  | val b cs =>
    obtain ⟨us, hp, hl, hall⟩ := h0
    refine ⟨us, hp, by rw [copies_len]; exact hl, fun j c u hc hu => ?_⟩
    rw [copies_get] at hc
    obtain ⟨c0, hc0, rfl⟩ := Option.map_eq_some_iff.1 hc
    rw [Nat.zero_add]
    refine cellRep_copy hA hs (hall j c0 u hc0 hu) (by rw [hsv]; simp [SV.cell, hc0]) (by rw [hsv]; exact cellVal_val hp j hu)
  | box cs =>
    obtain ⟨b, arr, ty, hv, -⟩ := h0
    refine ⟨by rw [put_ne _ _ hs]; exact Nat.le_refl _, fun _ => ⟨rfl, b, by rw [put_ne _ _ hs, hsv]; rfl, by rw [upd_ne _ _ hs]; exact hv, hv⟩⟩
  | bld T e x =>
    obtain ⟨b, p, u, hv, -⟩ := h0
    exact ⟨by rw [put_ne _ _ hs]; exact Nat.le_refl _, fun _ => ⟨rfl, b, by rw [put_ne _ _ hs, hsv]; rfl, by rw [upd_ne _ _ hs]; exact hv, hv⟩⟩
  | addr r ver π i j =>
    obtain ⟨hle, h0⟩ := h0
    by_cases hr : r = d
    · subst hr
      exact ⟨by simp only [put_same]; omega, fun he => by simp only [put_same] at he; omega⟩
    · refine ⟨by rw [put_ne _ _ hr]; exact hle, fun he => ?_⟩
      rw [put_ne _ _ hr] at he
      have h1 := h0 he
      cases π with
      | nil => simpa only [put_ne _ _ hr, upd_ne _ _ hr] using h1
      | cons q π => simp only [place_put hA hr] at h1 ⊢; exact h1

theorem OS_move {s ver : Nat} {sv : SV} (hN : s < X.N) (hs : s ≠ d) (hsv : st s = ⟨ver, sv⟩) (hf : X.free d = true) : OStep X ⟨some d, .move (.tmp s), ty, pos, af, g⟩ st (st.put d (sv.copy s ver)) := by
  refine OStep.value rfl hf fun a w G vals hA => ⟨vals s, ?_, ?_⟩
  · simp only [execOp]
    rw [show a.eval (.tmp s) = vals s from hA.link s hN]
    rfl
  · have := slot_copy (d := d) hA (sv := sv) hs (by rw [hsv])
    rwa [hsv] at this
theorem OS_assign {s ver : Nat} {sv : SV} (hN : s < X.N) (hs : s ≠ d) (hsv : st s = ⟨ver, sv⟩) (hf : X.free d = true) : OStep X ⟨some d, .assign (.tmp s), ty, pos, af, g⟩ st (st.put d (sv.copy s ver)) :=
  OS_move (ty := ty) (pos := pos) (af := af) (g := g) hN hs hsv hf

/-- Where a nil check lets a value by: as it was. -/
theorem OS_nilCheck {s ver : Nat} {sv : SV} (hN : s < X.N) (hs : s ≠ d) (hsv : st s = ⟨ver, sv⟩)
    (hok : (∃ cs, sv = .box cs) ∨ (∃ cs, sv = one (.ptr cs)) ∨ (∃ r π i j, sv = .addr r (st r).ver π i j)) (hf : X.free d = true) : OStep X ⟨some d, .nilCheck (.tmp s), ty, pos, af, g⟩ st (st.put d (sv.copy s ver)) := by
  refine OStep.value rfl hf fun a w G vals hA => ⟨vals s, ?_, ?_⟩
  · simp only [execOp]
    rw [show a.eval (.tmp s) = vals s from hA.link s hN]
    have h0 := hA.inv.slots s
    rw [hsv] at h0
    have : ∃ q, vals s = .pointer (some q) := by
      rcases hok with ⟨cs, rfl⟩ | ⟨cs, rfl⟩ | ⟨r, π, i, j, rfl⟩
      · obtain ⟨b, arr, ty, hv, -⟩ := h0; exact ⟨_, hv⟩
      · have h1 := slotRep_one.1 h0
        generalize vals s = u at h1 ⊢
        cases h1; exact ⟨_, rfl⟩
      · obtain ⟨-, h0⟩ := h0
        have h1 := h0 rfl
        cases π with
        | nil => obtain ⟨-, b, -, -, hv⟩ := h1; exact ⟨_, hv⟩
        | cons => obtain ⟨b, o, n, c, sz, els, -, -, hv⟩ := h1; exact ⟨_, hv⟩
    obtain ⟨q, hq⟩ := this
    rw [hq]; rfl
  · have := slot_copy (d := d) hA (sv := sv) hs (by rw [hsv])
    rwa [hsv] at this

/-! ### addresses -/
theorem addr_add (b o n : Nat) : Addr.add ⟨b, o, none⟩ n = ⟨b, o + n, none⟩ := by
  unfold Addr.add; split
  · rename_i h; subst h; rfl
  · rfl

theorem fieldAt_run {P : Program} {w : World} {f off n b o : Nat} {ag : Bool} (hfd : field? P t f = some (off, n, ag)) (hn : n ≠ 0) : (Instr.fieldAt t (.pointer (some ⟨b, o, none⟩)) f).run P w = .ok (.pointer (some ⟨b, o + off, none⟩)) w := by
  unfold field? at hfd
  split at hfd
  · rename_i fs hu
    obtain ⟨fd, hfd1, hfd⟩ := Option.bind_eq_some_iff.1 hfd
    obtain ⟨m, hm, hfd⟩ := Option.bind_eq_some_iff.1 hfd
    obtain ⟨g, hg, he⟩ := Option.map_eq_some_iff.1 hfd
    simp only [Prod.mk.injEq] at he
    obtain ⟨rfl, rfl, rfl⟩ := he
    simp [Instr.fieldAt, run_underlying hu, hfd1, Instr.sureAddr, fieldPlace, run_sizeOf hm, hn, addr_add]
  · cases hfd

theorem OS_fieldAddr_ptr {f off n : Nat} {ag : Bool} {cs : List T} (hx : Opd X.N st x (one (.ptr cs))) (hfd : field? X.P t f = some (off, n, ag)) (hn : n ≠ 0) (hf : X.free d = true) :
    OStep X ⟨some d, .fieldAddr t x f, ty, pos, af, g⟩ st (st.put d (one (.ptr (cs.drop off)))) := by
  refine OStep.value rfl hf fun a w G vals hA => ?_
  obtain ⟨s0, hs, -⟩ := opd_eval hA hx
  have h1 := slotRep_one.1 hs
  generalize he : a.eval x = u at h1
  cases h1 with
  | ptr fn hG hfr hv ht =>
    rename_i b o
    refine ⟨.pointer (some ⟨b, o + off, none⟩), ?_, ?_⟩
    · simp only [execOp, he]
      exact run_value (fieldAt_run hfd hn)
    · refine slotRep_one.2 (.ptr (fun j => fn (off + j)) hG (fun t h => hfr t (List.mem_of_mem_drop h)) (fun j t h => ?_) (fun j t h => ?_))
      · rw [List.getElem?_drop] at h
        have := hv _ _ h
        rwa [← Nat.add_assoc] at this
      · rw [List.getElem?_drop] at h
        exact (ht _ _ h).free (hfr t (List.mem_of_getElem? h)) (fun b h => ⟨h, rfl⟩)

theorem OS_fieldAddr {s f off n r i j : Nat} {ag : Bool} {π : Path} (hN : s < X.N) (hsv : (st s).sv = .addr r (st r).ver π i j) (hr : r ≠ d) (hfd : field? X.P t f = some (off, n, ag)) (hn : n ≠ 0) (hf : X.free d = true) :
    OStep X ⟨some d, .fieldAddr t (.tmp s) f, ty, pos, af, g⟩ st (st.put d (.addr r (st r).ver π i (j + off))) := by
  refine OStep.value rfl hf fun a w G vals hA => ?_
  have he : a.eval (.tmp s) = vals s := hA.link s hN
  have h0 := hA.inv.slots s
  rw [hsv] at h0
  obtain ⟨-, h0⟩ := h0
  have h1 := h0 rfl
  cases π with
  | nil =>
    obtain ⟨hi, b, h2, h3, h4⟩ := h1
    refine ⟨.pointer (some ⟨b, j + off, none⟩), ?_, ?_⟩
    · simp only [execOp, he, h4]
      exact run_value (fieldAt_run hfd hn)
    · exact ⟨by rw [put_ne _ _ hr]; exact Nat.le_refl _, fun _ => ⟨hi, b, by rw [put_ne _ _ hr]; exact h2, by rw [upd_ne _ _ hr]; exact h3, rfl⟩⟩
  | cons q π =>
    obtain ⟨b, o, n, c, sz, els, h2, h3, h4⟩ := h1
    refine ⟨.pointer (some ⟨b, o + i * sz + j + off, none⟩), ?_, ?_⟩
    · simp only [execOp, he, h4]
      exact run_value (fieldAt_run hfd hn)
    · exact ⟨by rw [put_ne _ _ hr]; exact Nat.le_refl _, fun _ => ⟨b, o, n, c, sz, els, by rw [place_put hA hr]; exact h2, h3, by rw [Nat.add_assoc]⟩⟩

theorem indexAt_run {P : Program} {w : World} {e : TypeId} {sz b o n c : Nat} {kx : IntKind} {i : Int} (he : elem? P t = some (e, sz)) (h0 : 0 ≤ i) (h1 : i < n) :
    (Instr.indexAt t (.slice (some ⟨b, o, none⟩) n c) (.int kx i)).run P w = .ok (.pointer (some ⟨b, o + i.toNat * sz, none⟩)) w := by
  unfold elem? at he
  split at he
  · rename_i e' hu
    obtain ⟨m, hm, hx⟩ := Option.map_eq_some_iff.1 he
    cases hx
    simp [Instr.indexAt, asIntOf, run_underlying hu, h0, h1, run_sizeOf hm, addr_add]
  · cases he

theorem OS_indexAddr_shd {e : TypeId} {sz : Nat} {els : List (List T)} {kx : IntKind} {i : Int} {r : List T} (hx : Opd X.N st x (one (.sl false sz els))) (hy : Opd X.N st y (scv (.int kx i))) (he : elem? X.P t = some (e, sz)) (h0 : 0 ≤ i) (hr : els[i.toNat]? = some r)
    (hf : X.free d = true) : OStep X ⟨some d, .indexAddr t x y, ty, pos, af, g⟩ st (st.put d (one (.ptr r))) := by
  refine OStep.value rfl hf fun a w G vals hA => ?_
  obtain ⟨s0, hs, -⟩ := opd_eval hA hx
  have h1 := slotRep_one.1 hs
  have hlt : i.toNat < els.length := (List.getElem?_eq_some_iff.1 hr).1
  generalize hex : a.eval x = u at h1
  cases h1 with
  | nil => simp at hlt
  | shd fn hG hn hc hrr hfr hv ht =>
    rename_i b o n c
    refine ⟨.pointer (some ⟨b, o + i.toNat * sz, none⟩), ?_, ?_⟩
    · simp only [execOp, hex, (opd_sc hA hy).1]
      exact run_value (indexAt_run he h0 (by omega))
    · have hel : ∀ (j : Nat) t, r[j]? = some t → elAt els i.toNat j = some t := fun j t h => by simp [elAt, hr, h]
      refine slotRep_one.2 (.ptr (fun j => fn i.toNat j) hG (fun t h => ?_) (fun j t h => hv _ _ _ (hel j t h)) (fun j t h => (ht _ _ _ (hel j t h)).free (hfr _ _ _ (hel j t h)) (fun b h => ⟨h, rfl⟩)))
      obtain ⟨j, hj⟩ := List.getElem?_of_mem h
      exact hfr _ _ _ (hel j t hj)

/-- An operand that is a row of its owner's: where it lies. -/
def OwnAt (X : Cx) (st : St) (x : Operand) (r : Nat) (π : Path) : Prop :=
  ∃ s, x = .tmp s ∧ s < X.N ∧ (((st s).sv = .val false [.ref r (st r).ver π]) ∨ (r = s ∧ π = [(0, 0)] ∧ ∃ sz els, (st s).sv = one (.sl true sz els)))

theorem own_place (hA : Alls X st a w G vals) {r : Nat} {π : Path} (hx : OwnAt X st x r π) : ∃ sz els, place vals st w r π = some (a.eval x, .sl true sz els) := by
  obtain ⟨s, rfl, hN, h⟩ := hx
  have he : a.eval (.tmp s) = vals s := hA.link s hN
  have h0 := hA.inv.slots s
  rcases h with h | ⟨rfl, rfl, sz, els, h⟩
  · rw [h] at h0
    obtain ⟨us, hp, -, hall⟩ := h0
    cases hp
    have h1 := hall 0 _ _ rfl rfl
    rw [he]
    exact h1.2 rfl
  · refine ⟨sz, els, place_one (by rw [h]; simp [SV.cell]) ?_⟩
    rw [he, h]
    simp [cellVal, packed]

theorem place_at {r : Nat} : ∀ {π : Path} {u : Value} {x : T}, place vals st w r π = some (u, x) → st.at_ r π = some x := by
  have key : ∀ {π : Path} {u u' : Value} {x x' : T}, descend w u x π = some (u', x') → x.at_ π = some x' := by
    intro π
    induction π with
    | nil => intro u u' x x' h; simp only [descend, Option.some.injEq, Prod.mk.injEq] at h; simp [T.at_, h.2]
    | cons q π ih =>
      intro u u' x x' h
      obtain ⟨i, j⟩ := q
      unfold descend at h
      split at h
      · cases ‹_ :: _ = []›
      · rename_i heq
        cases heq
        obtain ⟨y, hy, h⟩ := Option.bind_eq_some_iff.1 h
        obtain ⟨uy, huy, h⟩ := Option.bind_eq_some_iff.1 h
        simp [T.at_, hy, ih h]
      · cases h
  intro π u x h
  cases π with
  | nil => simp [place] at h
  | cons q π =>
    obtain ⟨k, j⟩ := q
    simp only [place] at h
    obtain ⟨u0, h0, h⟩ := Option.bind_eq_some_iff.1 h
    split at h
    · rename_i x0 hx0
      simp only [St.at_, hx0]
      exact key h
    · cases h

theorem OS_indexAddr_own {e : TypeId} {sz r : Nat} {π : Path} {els : List (List T)} {kx : IntKind} {i : Int} (hx : OwnAt X st x r π) (ht : st.at_ r π = some (.sl true sz els)) (hy : Opd X.N st y (scv (.int kx i))) (he : elem? X.P t = some (e, sz)) (h0 : 0 ≤ i) (hi : i < els.length)
    (hr : r ≠ d) (hf : X.free d = true) : OStep X ⟨some d, .indexAddr t x y, ty, pos, af, g⟩ st (st.put d (.addr r (st r).ver π i.toNat 0)) := by
  refine OStep.value rfl hf fun a w G vals hA => ?_
  obtain ⟨sz', els', hp⟩ := own_place hA hx
  have h2 := place_at hp
  rw [ht] at h2
  cases h2
  have h3 := place_rep hA.inv hp
  generalize hex : a.eval x = u at h3 hp
  cases h3 with
  | nil => simp at hi; omega
  | own fn hG hn hc hrr hb ha hv htt =>
    rename_i b o n c arr tyy
    refine ⟨.pointer (some ⟨b, o + i.toNat * sz, none⟩), ?_, ?_⟩
    · simp only [execOp, hex, (opd_sc hA hy).1]
      exact run_value (indexAt_run he h0 (by omega))
    · refine ⟨by rw [put_ne _ _ hr]; exact Nat.le_refl _, fun _ => ?_⟩
      cases π with
      | nil => simp [place] at hp
      | cons q π => exact ⟨b, o, n, c, sz, els, by rw [place_put hA hr]; exact hp, by omega, by simp⟩

theorem OS_len_shd {sz : Nat} {els : List (List T)} {e : TypeId} {n : Nat} {tys : Array TypeId} {m : Bool} (ht : tys[0]? = some t) (he : elem? X.P t = some (e, n)) (hx : Opd X.N st x (one (.sl m sz els))) (hf : X.free d = true) :
    OStep X ⟨some d, .call { callee := .builtin .len, args := #[x], argTypes := tys }, ty, pos, af, g⟩ st (st.put d (scv (.int .i64 els.length))) := by
  refine OStep.scalar rfl hf rfl fun a w G vals hA => ?_
  obtain ⟨s0, hs, -⟩ := opd_eval hA hx
  have h1 := slotRep_one.1 hs
  have : ∃ A c, a.eval x = .slice A els.length c := by
    generalize a.eval x = u at h1
    cases h1 with
    | nil => exact ⟨_, _, rfl⟩
    | shd fn hG hn => subst hn; exact ⟨_, _, rfl⟩
    | own fn hG hn => subst hn; exact ⟨_, _, rfl⟩
  obtain ⟨A, c, hv⟩ := this
  unfold elem? at he
  split at he
  · rename_i e' hu
    simp [execOp, resolve, invoke, builtin, Builtin.len_, ht, hv, run_underlying hu, goInt]
  · cases he

theorem OS_len_own {sz r : Nat} {π : Path} {els : List (List T)} {e : TypeId} {n : Nat} {tys : Array TypeId} (ht : tys[0]? = some t) (he : elem? X.P t = some (e, n)) (hx : OwnAt X st x r π) (hp : st.at_ r π = some (.sl true sz els)) (hf : X.free d = true) :
    OStep X ⟨some d, .call { callee := .builtin .len, args := #[x], argTypes := tys }, ty, pos, af, g⟩ st (st.put d (scv (.int .i64 els.length))) := by
  refine OStep.scalar rfl hf rfl fun a w G vals hA => ?_
  obtain ⟨sz', els', hpl⟩ := own_place hA hx
  have h2 := place_at hpl
  rw [hp] at h2
  cases h2
  have h3 := place_rep hA.inv hpl
  have : ∃ A c, a.eval x = .slice A els.length c := by
    generalize a.eval x = u at h3
    cases h3 with
    | nil => exact ⟨_, _, rfl⟩
    | own fn hG hn => subst hn; exact ⟨_, _, rfl⟩
  obtain ⟨A, c, hv⟩ := this
  unfold elem? at he
  split at he
  · rename_i e' hu
    simp [execOp, resolve, invoke, builtin, Builtin.len_, ht, hv, run_underlying hu, goInt]
  · cases he
end
end Go.V
namespace Go.V
open Go Go.RowKit

/-- The first cells, out of a place. -/
def loadSV (ag : Bool) (cs : List Cell) : SV := .val ag cs

section
variable {X : Cx} {st : St} {d : Nat} {t t' ty : TypeId} {x y z : Operand} {k : IntKind} {v : Value} {pos : String} {af : Array Edge} {g : Option (Nat × Bool)} {a : Act} {w : World} {G : Nat → Own} {vals : Nat → Value}

theorem run_loadCellsFrom_list {P : Program} {w : World} {b o : Nat} : ∀ (us : List Value) (i : Nat) (acc : Array Value), (∀ j u, us[j]? = some u → w.cell? ⟨b, o + i + j, none⟩ = some u) →
    (loadCellsFrom ⟨b, o, none⟩ i us.length acc).run P w = .ok (acc ++ us.toArray) w
  | [], i, acc, _ => by simp [loadCellsFrom]
  | u :: us, i, acc, h => by
    have h0 := h 0 u rfl
    simp only [List.length_cons, loadCellsFrom, Sem.run_bind, addr_add, run_load]
    rw [Nat.add_zero] at h0
    simp only [h0, Result.andThen_ok]
    rw [run_loadCellsFrom_list us (i + 1) (acc.push u) fun j v hj => by have := h (j + 1) v (by simpa using hj); rw [← this]; congr 2; omega]
    simp

theorem loadVar_run {P : Program} {w : World} {n b o : Nat} {ag : Bool} (hs : cells? P t = some n) (hg : isAgg? P t = some ag) (h1 : ag = false → n = 1) (us : List Value) (hl : us.length = n)
    (hc : ∀ (j : Nat) u, us[j]? = some u → w.cell? ⟨b, o + j, none⟩ = some u) : ∃ v, (Instr.loadAt t (.pointer (some ⟨b, o, none⟩))).run P w = .ok v w ∧ Pack ag us v := by
  cases ag with
  | true =>
    refine ⟨.agg us.toArray, ?_, rfl⟩
    simp only [Instr.loadAt, Instr.sureAddr, loadVar, Sem.run_bind, Sem.run_pure, Result.andThen_ok, run_isAgg hg, if_true, run_sizeOf hs, loadCells]
    rw [← hl, run_loadCellsFrom_list us 0 #[] (by simpa using hc)]
    simp
  | false =>
    have := h1 rfl
    subst this
    obtain ⟨u, rfl⟩ : ∃ u, us = [u] := by
      match us, hl with
      | [u], _ => exact ⟨u, rfl⟩
    refine ⟨u, ?_, rfl⟩
    have h0 := hc 0 u rfl
    rw [Nat.add_zero] at h0
    simp [Instr.loadAt, Instr.sureAddr, loadVar, run_isAgg hg, h0]

/-- A load out of memory that nobody writes. -/
theorem OS_load_ptr {n : Nat} {ag : Bool} {cs : List T} (hx : Opd X.N st x (one (.ptr cs))) (hs : cells? X.P t = some n) (hg : isAgg? X.P t = some ag) (h1 : ag = false → n = 1) (hn : n ≤ cs.length) (hf : X.free d = true) :
    OStep X ⟨some d, .load t x, ty, pos, af, g⟩ st (st.put d (.val ag ((cs.take n).map .t))) := by
  refine OStep.value rfl hf fun a w G vals hA => ?_
  obtain ⟨s0, hsl, -⟩ := opd_eval hA hx
  have h2 := slotRep_one.1 hsl
  generalize he : a.eval x = u at h2
  cases h2 with
  | ptr fn hG hfr hv ht =>
    rename_i b o
    have hcell : ∀ (j : Nat) u, ((List.range n).map fn)[j]? = some u → u = fn j ∧ j < n := by
      intro j u hj
      rw [List.getElem?_map] at hj
      obtain ⟨i, hi, rfl⟩ := Option.map_eq_some_iff.1 hj
      have hlt := (List.getElem?_eq_some_iff.1 hi).1
      simp only [List.length_range] at hlt
      rw [List.getElem?_range hlt] at hi
      cases hi
      exact ⟨rfl, hlt⟩
    have hget : ∀ j, j < n → ∃ y, cs[j]? = some y := fun j hj => ⟨cs[j]'(by omega), List.getElem?_eq_getElem _⟩
    obtain ⟨v, hr, hp⟩ := loadVar_run (b := b) (o := o) (w := w) (P := X.P) hs hg h1 ((List.range n).map fn) (by simp) (fun j u hj => by
      obtain ⟨rfl, hlt⟩ := hcell j u hj
      obtain ⟨y, hy⟩ := hget j hlt
      exact hv j y hy)
    refine ⟨v, ?_, _, hp, by simp; omega, fun j c u hc hu => ?_⟩
    · simp only [execOp, he]
      exact run_value hr
    · obtain ⟨rfl, hlt⟩ := hcell j u hu
      rw [List.getElem?_map] at hc
      obtain ⟨y, hy, rfl⟩ := Option.map_eq_some_iff.1 hc
      rw [List.getElem?_take, if_pos hlt] at hy
      exact (ht j y hy).free (hfr y (List.mem_of_getElem? hy)) (fun b h => ⟨h, rfl⟩)

theorem descend_snoc {w : World} {i j b o n c sz : Nat} {els : List (List T)} {y : T} {uy : Value} (hy : elAt els i j = some y) (hu : w.cell? ⟨b, o + i * sz + j, none⟩ = some uy) : ∀ {π : Path} {u : Value} {x : T},
    descend w u x π = some (.slice (some ⟨b, o, none⟩) n c, .sl true sz els) → descend w u x (π ++ [(i, j)]) = some (uy, y)
  | [], u, x, h => by
    simp only [descend, Option.some.injEq, Prod.mk.injEq] at h
    obtain ⟨rfl, rfl⟩ := h
    simp [descend, hy, hu]
  | (p, q) :: π, u, x, h => by
    unfold descend at h
    split at h
    · cases ‹_ :: _ = []›
    · rename_i heq
      cases heq
      obtain ⟨z, hz, h⟩ := Option.bind_eq_some_iff.1 h
      obtain ⟨uz, huz, h⟩ := Option.bind_eq_some_iff.1 h
      simp only [List.cons_append, descend, hz, huz, Option.bind_some]
      exact descend_snoc hy hu h
    · cases h

theorem place_snoc {r i j b o n c sz : Nat} {π : Path} {els : List (List T)} {y : T} {uy : Value} (hp : place vals st w r π = some (.slice (some ⟨b, o, none⟩) n c, .sl true sz els)) (hy : elAt els i j = some y) (hu : w.cell? ⟨b, o + i * sz + j, none⟩ = some uy) :
    place vals st w r (π ++ [(i, j)]) = some (uy, y) := by
  cases π with
  | nil => simp [place] at hp
  | cons q π =>
    obtain ⟨k, j'⟩ := q
    simp only [place, List.cons_append] at hp ⊢
    obtain ⟨u0, h0, hp⟩ := Option.bind_eq_some_iff.1 hp
    rw [h0, Option.bind_some]
    split at hp
    · rename_i x0 hx0
      exact descend_snoc hy hu hp
    · cases hp

theorem cellOf_get (r k : Nat) (π : Path) (i : Nat) : ∀ (cs : List T) (j m : Nat), (cellOf r k π i j cs)[m]? = (cs[m]?).map fun x => cellAt r k π i (j + m) x
  | [], _, _ => by simp [cellOf]
  | c :: cs, j, 0 => by simp [cellOf]
  | c :: cs, j, m + 1 => by simp [cellOf, cellOf_get r k π i cs (j + 1) m, Nat.add_comm, Nat.add_left_comm]

/-- What lies at an address of ours: the cells' trees, and what they hold. -/
theorem addr_cells (hA : Alls X st a w G vals) {s r i j : Nat} {π : Path} {cs : List T} (hsv : (st s).sv = .addr r (st r).ver π i j) (hc : st.cells r π i j = some cs) :
    ∃ b o, vals s = .pointer (some ⟨b, o, none⟩) ∧ G b = .at_ r π ∧ ∀ (m : Nat) y, cs[m]? = some y → ∃ u, w.cell? ⟨b, o + m, none⟩ = some u ∧ Rep G w r (π ++ [(i, j + m)]) u y ∧
      place vals st w r (π ++ [(i, j + m)]) = some (u, y) := by
  have h0 := hA.inv.slots s
  rw [hsv] at h0
  obtain ⟨-, h0⟩ := h0
  have h1 := h0 rfl
  cases π with
  | nil =>
    obtain ⟨rfl, b, -, h3, h4⟩ := h1
    have hr := hA.inv.slots r
    obtain ⟨cs0, h2⟩ : ∃ cs0, (st r).sv = .box cs0 := by
      simp only [St.cells] at hc
      split at hc
      · rename_i cs0 h; exact ⟨cs0, h⟩
      · cases hc
    rw [h2] at hr
    obtain ⟨b', arr, ty', h5, h6, h7, h8, h9⟩ := hr
    rw [h3] at h5
    cases h5
    simp only [St.cells, h2, if_true, Option.some.injEq] at hc
    subst hc
    refine ⟨b, j, h4, h6, fun m y hy => ?_⟩
    rw [List.getElem?_drop] at hy
    have hlt : j + m < arr.size := by rw [h8]; exact (List.getElem?_eq_some_iff.1 hy).1
    have hu : arr[j + m]? = some arr[j + m] := Array.getElem?_eq_getElem hlt
    refine ⟨arr[j + m], by simp [World.cell?, h7, hu], h9 _ _ _ hy hu, ?_⟩
    refine place_one (by rw [h2]; simp [SV.cell, hy]) ?_
    rw [h2, h3]
    simp [cellVal, World.cell?, h7, hu]
  | cons q π =>
    obtain ⟨b, o, n, c, sz, els, h2, h3, h4⟩ := h1
    have h5 := place_at h2
    simp only [St.cells, h5] at hc
    obtain ⟨row, hrow, rfl⟩ := Option.map_eq_some_iff.1 hc
    have h6 := place_rep hA.inv h2
    cases h6 with
    | nil => simp at h3
    | own fn hG hn hcc hrr hb ha hv ht =>
      refine ⟨b, o + i * sz + j, h4, hG, fun m y hy => ?_⟩
      rw [List.getElem?_drop] at hy
      have he : elAt els i (j + m) = some y := by simp [elAt, hrow, hy]
      have hu := hv _ _ _ he
      have h7 := ht _ _ _ he
      refine ⟨_, by rw [Nat.add_assoc]; exact hu, h7, place_snoc h2 he hu⟩

/-- A load out of a place of ours. -/
theorem OS_load {n s r i j : Nat} {ag : Bool} {π : Path} {cs : List T} (hN : s < X.N) (hsv : (st s).sv = .addr r (st r).ver π i j) (hc : st.cells r π i j = some cs) (hr : r ≠ d) (hs : cells? X.P t = some n) (hg : isAgg? X.P t = some ag) (h1 : ag = false → n = 1)
    (hn : n ≤ cs.length) (hf : X.free d = true) : OStep X ⟨some d, .load t (.tmp s), ty, pos, af, g⟩ st (st.put d (.val ag (cellOf r (st r).ver π i j (cs.take n)))) := by
  refine OStep.value rfl hf fun a w G vals hA => ?_
  have he : a.eval (.tmp s) = vals s := hA.link s hN
  obtain ⟨b, o, hv, -, hall⟩ := addr_cells hA hsv hc
  let us := (List.range n).map fun m => (w.cell? ⟨b, o + m, none⟩).getD default
  have hget : ∀ j, j < n → ∃ y, cs[j]? = some y := fun j hj => ⟨cs[j]'(by omega), List.getElem?_eq_getElem _⟩
  have hcell : ∀ (m : Nat) u, us[m]? = some u → m < n ∧ w.cell? ⟨b, o + m, none⟩ = some u := by
    intro m u hm
    simp only [us, List.getElem?_map] at hm
    obtain ⟨i', hi', rfl⟩ := Option.map_eq_some_iff.1 hm
    have hlt := (List.getElem?_eq_some_iff.1 hi').1
    simp only [List.length_range] at hlt
    rw [List.getElem?_range hlt] at hi'
    cases hi'
    obtain ⟨y, hy⟩ := hget _ hlt
    obtain ⟨u, hu, -⟩ := hall _ y hy
    exact ⟨hlt, by rw [hu]; rfl⟩
  obtain ⟨v, hrun, hp⟩ := loadVar_run (b := b) (o := o) (w := w) (P := X.P) hs hg h1 us (by simp [us]) (fun m u hm => (hcell m u hm).2)
  refine ⟨v, ?_, us, hp, by rw [cellOf_len]; simp [us]; omega, fun m c u hcm hum => ?_⟩
  · simp only [execOp, he, hv]
    exact run_value hrun
  · obtain ⟨hlt, hcu⟩ := hcell m u hum
    rw [cellOf_get] at hcm
    obtain ⟨y, hy, rfl⟩ := Option.map_eq_some_iff.1 hcm
    rw [List.getElem?_take, if_pos hlt] at hy
    obtain ⟨u', hu', hrep, hpl⟩ := hall m y hy
    rw [hcu] at hu'
    cases hu'
    have key : y.free = true → CellRep G w (st.put d (.val ag (cellOf r (st r).ver π i j (cs.take n)))) (upd vals d v) d 0 m u (.t y) := fun hfr => hrep.free hfr (fun b h => ⟨h, rfl⟩)
    cases y with
    | sl mm sz els =>
      cases mm with
      | false => exact key rfl
      | true => exact ⟨by rw [put_ne _ _ hr]; exact Nat.le_refl _, fun _ => ⟨sz, els, by rw [place_put hA hr]; exact hpl⟩⟩
    | gone => exact .gone
    | sc => exact key rfl
    | ptr => exact key rfl
    | fn => exact key rfl

/-- A field of a struct's value. -/
theorem OS_field {s ver f off n : Nat} {ag : Bool} {cs : List Cell} (hN : s < X.N) (hs : s ≠ d) (hsv : st s = ⟨ver, .val true cs⟩) (hfd : field? X.P t f = some (off, n, ag)) (h1 : ag = false → n = 1) (hn : off + n ≤ cs.length) (hf : X.free d = true) :
    OStep X ⟨some d, .field t (.tmp s) f, ty, pos, af, g⟩ st (st.put d (.val ag (((copies s ver 0 0 cs).drop off).take n))) := by
  refine OStep.value rfl hf fun a w G vals hA => ?_
  have he : a.eval (.tmp s) = vals s := hA.link s hN
  have h0 := hA.inv.slots s
  rw [hsv] at h0
  obtain ⟨us, hp, hl, hall⟩ := h0
  unfold field? at hfd
  split at hfd
  · rename_i fs hu
    obtain ⟨fd, hfd1, hfd⟩ := Option.bind_eq_some_iff.1 hfd
    obtain ⟨m, hm, hfd⟩ := Option.bind_eq_some_iff.1 hfd
    obtain ⟨g', hg, he'⟩ := Option.map_eq_some_iff.1 hfd
    simp only [Prod.mk.injEq] at he'
    obtain ⟨rfl, rfl, rfl⟩ := he'
    let us' := (us.drop fd.offset).take m
    have hlen : us'.length = m := by simp [us', hl]; omega
    have hv : vals s = .agg us.toArray := hp
    have hrep : ∀ v, Pack g' us' v → SlotRep G w (st.put d (.val g' (((copies s ver 0 0 cs).drop fd.offset).take m))) (upd vals d v) d v (.val g' (((copies s ver 0 0 cs).drop fd.offset).take m)) := by
      intro v hpk
      refine ⟨us', hpk, by rw [hlen]; simp [copies_len]; omega, fun j c u hc hu' => ?_⟩
      have hj : j < m := by have := (List.getElem?_eq_some_iff.1 hu').1; omega
      rw [List.getElem?_take, if_pos hj, List.getElem?_drop, copies_get] at hc
      obtain ⟨c0, hc0, rfl⟩ := Option.map_eq_some_iff.1 hc
      simp only [us', List.getElem?_take, if_pos hj, List.getElem?_drop] at hu'
      have h5 := cellRep_copy (d := d) (k' := 0) (j' := j) (sv := .val g' (((copies s ver 0 0 cs).drop fd.offset).take m)) (v := v) hA hs (hall _ c0 u hc0 hu') (by rw [hsv]; simp [SV.cell, hc0]) (by rw [hsv]; exact cellVal_val hp _ hu')
      rw [hsv] at h5
      simpa using h5
    cases g' with
    | true =>
      refine ⟨.agg us'.toArray, ?_, hrep _ rfl⟩
      simp only [execOp, he, hv]
      refine run_value ?_
      simp [Instr.field, run_underlying hu, hfd1, asAgg, part, run_isAgg hg, run_sizeOf hm, us', List.take_drop]
    | false =>
      have := h1 rfl
      subst this
      obtain ⟨u, hu1⟩ : ∃ u, us' = [u] := by
        match us', hlen with
        | [u], _ => exact ⟨u, rfl⟩
      have h6 : us[fd.offset]? = some u := by
        have : us'[0]? = some u := by rw [hu1]; rfl
        simpa [us', List.getElem?_take, List.getElem?_drop] using this
      refine ⟨u, ?_, hrep _ (by rw [hu1]; rfl)⟩
      simp only [execOp, he, hv]
      refine run_value ?_
      simp [Instr.field, run_underlying hu, hfd1, asAgg, part, run_isAgg hg, h6]
  · cases hfd

/-- The owner's name of a slot changed. -/
def rename (G : Nat → Own) (t d : Nat) : Nat → Own := fun b => match G b with
  | .at_ s ρ => if s = t then .at_ d ρ else .at_ s ρ
  | o => o

/-- x := the temporary t, with all that t owns; t is dead behind it. -/
theorem OS_take {s : Nat} (hN : s < X.N) (hs : s ≠ d) (hf : X.free d = true) (hfs : X.free s = true) : OStep X ⟨some d, .assign (.tmp s), ty, pos, af, g⟩ st ((st.put s .dead).put d (st s).sv) := by
  rintro a w next Qx ⟨G, vals, hA⟩ hn
  have he : a.eval (.tmp s) = vals s := hA.link s hN
  have hr : (execOp a.eval ⟨some d, .assign (.tmp s), ty, pos, af, g⟩).run X.P w = .ok (.value (vals s)) w := by simp only [execOp, he]; rfl
  unfold Oper.wp
  rw [hr, Oper.upon_value]
  refine hn _ _ ⟨rename G s d, upd vals d (vals s), hA.defers, by simp [Act.put, hA.size], fun t ht => ?_, ?_, ?_⟩
  · simp only [Act.put, upd]
    by_cases h : t = d
    · subst h
      simp [Array.getD_eq_getD_getElem?, hA.size, ht]
    · have := hA.link t ht
      simp only [Array.getD_eq_getD_getElem?] at this ⊢
      rw [Array.getElem?_setIfInBounds_ne (fun e => h e.symm), if_neg h]
      exact this
  · have hst : ∀ q, ¬ (q = s ∨ q = d) → ((st.put s .dead).put d (st s).sv) q = st q := fun q h => by simp only [not_or] at h; rw [put_ne _ _ h.2, put_ne _ _ h.1]
    have hva : ∀ q, ¬ (q = s ∨ q = d) → upd vals d (vals s) q = vals q := fun q h => by simp only [not_or] at h; exact upd_ne _ _ h.2
    have hver : ∀ q, (q = s ∨ q = d) → (st q).ver < (((st.put s .dead).put d (st s).sv) q).ver := by
      rintro q (rfl | rfl)
      · rw [put_ne _ _ hs, put_same]; simp
      · rw [put_same, put_ne _ _ (Ne.symm hs)]; simp
    have hp : ∀ b, G b = .pers → rename G s d b = .pers ∧ w.heap[b]? = w.heap[b]? := fun b h => ⟨by simp [rename, h], rfl⟩
    have ho : ∀ b q ρ, G b = .at_ q ρ → ¬ (q = s ∨ q = d) → rename G s d b = .at_ q ρ ∧ w.heap[b]? = w.heap[b]? := fun b q ρ h hq => ⟨by simp only [not_or] at hq; simp [rename, h, hq.1], rfl⟩
    have hos : ∀ b ρ, G b = .at_ s ρ → rename G s d b = .at_ d ρ ∧ w.heap[b]? = w.heap[b]? := fun b ρ h => ⟨by simp [rename, h], rfl⟩
    refine hA.inv.step (K := fun q => q = s ∨ q = d) hst hva hver hp ho ?_ (fun b hb => by simp [rename, hA.inv.alloc b hb]) ?_
    · rintro q (rfl | rfl)
      · rw [put_ne _ _ hs, put_same]; trivial
      · rw [put_same]
        have hq : upd vals q (vals s) q = vals s := by simp [upd]
        rw [hq]
        have h0 := hA.inv.slots s
        have ckey : ∀ {k j : Nat} {u : Value} {c : Cell}, CellRep G w st vals s k j u c → CellRep (rename G s q) w ((st.put s .dead).put q (st s).sv) (upd vals q (vals s)) q k j u c := by
          intro k j u c hc
          cases c with
          | t x => exact Rep.move hc hp fun b ρ hb => hos b _ hb
          | ref r ver π =>
            obtain ⟨hle, hc⟩ := hc
            by_cases hr' : r = s ∨ r = q
            · exact ⟨Nat.le_of_lt (Nat.lt_of_le_of_lt hle (hver r hr')), fun e => by have := hver r hr'; omega⟩
            · refine ⟨by rw [hst r hr']; exact hle, fun e => ?_⟩
              rw [hst r hr'] at e
              rw [place_keep hA.inv (hst r hr') (hva r hr') fun b ρ hb => rfl]
              exact hc e
        have skey : ∀ {k : Nat} {ag : Bool} {v : Value} {cs : List Cell}, CellsRep G w st vals s k ag v cs → CellsRep (rename G s q) w ((st.put s .dead).put q (st s).sv) (upd vals q (vals s)) q k ag v cs := by
          rintro k ag v cs ⟨us, hpk, hl, hall⟩
          exact ⟨us, hpk, hl, fun j c u h1 h2 => ckey (hall j c u h1 h2)⟩
        cases hsv : (st s).sv with
        | dead => trivial
        | val ag cs => rw [hsv] at h0 skey; exact skey h0
        | tup vs =>
          rw [hsv] at h0 skey
          obtain ⟨arr, hv, hl, hall⟩ := h0
          exact ⟨arr, hv, hl, fun k p u h1 h2 => skey (hall k p u h1 h2)⟩
        | box cs =>
          rw [hsv] at h0
          obtain ⟨b, arr, ty', hv, hG, hb, hl, hall⟩ := h0
          exact ⟨b, arr, ty', hv, (hos b _ hG).1, hb, hl, fun j t u hj hu => (hall j t u hj hu).move hp fun b ρ hb => hos b _ hb⟩
        | bld T e x => rw [hsv] at h0; exact BldRep.move h0 hos
        | addr r ver π i j =>
          rw [hsv] at h0 hst hver
          obtain ⟨hle, h0⟩ := h0
          by_cases hr' : r = s ∨ r = q
          · exact ⟨Nat.le_of_lt (Nat.lt_of_le_of_lt hle (hver r hr')), fun e => by have := hver r hr'; omega⟩
          · refine ⟨by rw [hst r hr']; exact hle, fun e => ?_⟩
            rw [hst r hr'] at e
            have h1 := h0 e
            cases π with
            | nil => simpa only [hst r hr', hva r hr'] using h1
            | cons p π =>
              simp only [place_keep hA.inv (hst r hr') (hva r hr') fun b ρ hb => (rfl : w.heap[b]? = w.heap[b]?)] at h1 ⊢
              exact h1
    · intro p hp'
      have h1 : p.1 ≠ d := by
        have := List.all_eq_true.1 hf p hp'
        simpa using this
      simp only [upd, if_neg h1]
      exact hA.inv.pin p hp'
  · refine ⟨fun b h => ?_, fun b hb h => ?_, hA.base.size, hA.base.os, hA.base.tape, hA.base.output⟩
    · have h2 := hA.base.pers b h; exact ⟨by simp [rename, h2.1], h2.2⟩
    · have h2 := hA.base.outer b hb h; exact ⟨by simp [rename, h2.1], h2.2⟩
end
end Go.V

/- The value interpreter, part h: what stretches of a program do to typed values, rule by rule. Conditions: none. -/
import Derived.Test.YtdligmjpeclkcaaDoorVg
import Derived.ChangeArms
import Derived.WideShapes
import Derived.Below
import Derived.IntWalk
import Derived.Lib.Strings
namespace Go.V
open Go Go.RowKit

section
variable {X : Cx} {st st' : St} {d : Nat} {t t' ty : TypeId} {x y z : Operand} {k : IntKind} {v : Value} {pos : String} {af : Array Edge} {g : Option (Nat × Bool)} {a : Act} {w w' : World} {G G' : Nat → Own} {vals vals' : Nat → Value} {C : List Nat} {ops : Array Oper} {l : List Oper} {Q : Exit → St → Prop} {c : Code}

/-- append(nil, ys...). -/
theorem OS_appendNil {e tx e' : TypeId} {sz by_ : Nat} {ys : List (List T)} {zs : List T} {sy : Option Nat} (hy : Srcs X st C sz y sy ys) (hC : C = sy.toList) (hdC : d ∉ C)
    (he : elem? X.P t = some (e, sz)) (hsz : sz ≠ 0) (hz : Zeros X.P e zs) (hzl : zs.length = sz) (hby : (X.P.info? e).map (·.bytes) = some by_) (hk : X.P.underlying tx = some (.slice e')) (hh : ∀ i j t, elAt ys i j = some t → t.here = true)
    (hB : ys.length * by_ ≤ 140737488355328) (h63 : ((ys.length : Nat) : Int) ≤ 9223372036854775807) (hf : X.free d = true) :
    OStep X ⟨some d, .call { callee := .builtin .append, args := #[.const (.slice none 0 0), y], argTypes := #[t, tx] }, ty, pos, af, g⟩ st ((st.kill C).put d (one (.sl true sz ys))) := by
  rintro a w next Qx ⟨G, vals, hA⟩ hnx
  unfold elem? at he
  split at he
  rotate_left
  · cases he
  rename_i e0 hu
  obtain ⟨sz0, hcs, hx0⟩ := Option.map_eq_some_iff.1 he
  cases hx0
  obtain ⟨i, hi, his⟩ := Option.map_eq_some_iff.1 hcs
  obtain ⟨i', hi', hib⟩ := Option.map_eq_some_iff.1 hby
  rw [hi] at hi'
  cases hi'
  obtain ⟨zv, hzv, hzl', -⟩ := hz
  rw [hi] at hzv
  simp only [Option.bind_some] at hzv
  subst his
  obtain ⟨news, hsrc, hry, hyrep⟩ := srcs_src (d := d) hA hk hsz hy hh
  let st1 := (st.kill C).put d (one (.sl true i.size ys))
  let G1 := relab G d none sy 0
  have hst : ∀ s, ¬ (s = d ∨ s ∈ C) → st1 s = st s := fun s h => by simp only [not_or] at h; simp only [st1]; rw [put_ne _ _ h.1, kill_not _ h.2]
  have hva : ∀ (v : Value) s, ¬ (s = d ∨ s ∈ C) → upd vals d v s = vals s := fun v s h => by simp only [not_or] at h; exact upd_ne _ _ h.1
  have hver : ∀ s, (s = d ∨ s ∈ C) → (st s).ver < (st1 s).ver := by
    intro s h
    simp only [st1]
    by_cases hd : s = d
    · subst hd; rw [put_same, kill_not _ hdC]; simp
    · rw [put_ne _ _ hd, kill_mem _ (h.resolve_left hd)]; simp
  have hsyC : ∀ q, sy = some q → q ∈ C := fun q h => by rw [hC, h]; simp
  have fin : ∀ (v : Value) (G' : Nat → Own) (w' : World), (∀ b, b < w.heap.size → G' b = G1 b) → (∀ b, b < w.heap.size → w'.heap[b]? = w.heap[b]?) → w.heap.size ≤ w'.heap.size → (∀ b, w'.heap.size ≤ b → G' b = .outer) → w'.os = w.os → w'.tape = w.tape → w'.output = w.output →
      ((∀ b, G b = .pers → G' b = .pers ∧ w'.heap[b]? = w.heap[b]?) → (∀ b q i j ρ, sy = some q → G b = .at_ q ((0, 0) :: (i, j) :: ρ) → G' b = .at_ d ((0, 0) :: (0 + i, j) :: ρ) ∧ w'.heap[b]? = w.heap[b]?) → Rep G' w' d [(0, 0)] v (.sl true i.size ys)) →
      All X st1 (a.put (some d) v) w' := by
    intro v G' w' hold hheap hsize hfr hos htp hout hrepd
    have hlt : ∀ b, G b ≠ .outer → b < w.heap.size := fun b h => Nat.lt_of_not_le fun hle => h (hA.inv.alloc b hle)
    have hpers : ∀ b, G b = .pers → G' b = .pers ∧ w'.heap[b]? = w.heap[b]? := fun b h => by
      have hl := hlt b (by simp [h])
      exact ⟨by rw [hold b hl]; exact relab_pers h, hheap b hl⟩
    have hoK : ∀ b s ρ, G b = .at_ s ρ → ¬ (s = d ∨ s ∈ C) → G' b = .at_ s ρ ∧ w'.heap[b]? = w.heap[b]? := fun b s ρ h hs => by
      simp only [not_or] at hs
      have hl := hlt b (by simp [h])
      exact ⟨by rw [hold b hl]; exact relab_else h (fun r' π' e => by cases e) (fun e => hs.2 (hsyC s e)), hheap b hl⟩
    refine ⟨G', upd vals d v, hA.step (K := fun s => s = d ∨ s ∈ C) hst (hva v) hver ?_ hoK ?_ hfr (free_pin hf v hA.inv.pin) hsize hos htp hout hA.defers (by simp [Act.put, hA.size]) (Act.put_link hA)⟩
    · rintro b (h | ⟨h, hb⟩)
      · have := hpers b h; exact ⟨by rw [this.1, h], this.2⟩
      · exact ⟨by rw [hold b hb, h]; exact relab_outer h, hheap b hb⟩
    · intro _ s hs
      by_cases hd : s = d
      · subst hd
        simp only [st1]
        rw [put_same]
        simp only [upd, if_true]
        refine slotRep_one.2 (hrepd hpers (fun b q i j ρ hq h => ?_))
        have hl := hlt b (by simp [h])
        exact ⟨by rw [hold b hl]; simp only [G1, hq]; exact relab_lit h (fun r' π' e => by cases e), hheap b hl⟩
      · have e1 : (st1 s).sv = .dead := by
          simp only [st1]
          rw [put_ne _ _ hd, kill_mem _ (hs.resolve_left hd)]
        rw [e1]; trivial
  have exec : ∀ {v : Value} {w' : World}, (Builtin.append_ #[t, tx] ty #[.slice none 0 0, a.eval y]).run X.P w = .ok v w' →
      (execOp a.eval ⟨some d, .call { callee := .builtin .append, args := #[.const (.slice none 0 0), y], argTypes := #[t, tx] }, ty, pos, af, g⟩).run X.P w = .ok (.value v) w' := by
    intro v w' h
    have h0 : a.eval (.const (.slice none 0 0)) = .slice none 0 0 := rfl
    simp [execOp, resolve, invoke, builtin, h0, h]
  by_cases hy0 : ys.length = 0
  · have hys : ys = [] := List.eq_nil_of_length_eq_zero hy0
    subst hys
    have hnews : news = [] := List.eq_nil_of_length_eq_zero (by have := hsrc.newsLen; simpa using this)
    subst hnews
    have run := run_append_nothing w t tx ty e i hu hi none 0 0 (Nat.le_refl _) (a.eval y) hsrc
    unfold Oper.wp
    rw [exec run, Oper.upon_value]
    exact hnx _ _ (fin _ G1 w (fun b _ => rfl) (fun b _ => rfl) (Nat.le_refl _) (fun b hb => relab_outer (hA.inv.alloc b hb)) rfl rfl rfl fun _ _ => Rep.nil)
  · have hB' : Builtin.nextslicecap (0 + ys.length) 0 * i.bytes ≤ 281474976710656 := growslice_fits (by omega) (by rw [hib]; simpa using hB)
    have run := run_append_grow_src w t tx ty e i zv hu hi hzv none 0 0 [] (run_firstCells_none _ _ _ _ _) (a.eval y) ys.length news hsrc (by omega) (by simpa using h63) hB'
    have hcap := grownCap_ge w (0 + ys.length) 0 e
    generalize grownCap w (0 + ys.length) 0 e = cap at run hcap
    unfold Oper.wp
    rw [exec run, Oper.upon_value]
    have hnl : news.length = ys.length * i.size := hsrc.newsLen
    generalize harr : ([] ++ news).toArray ++ Builtin.zeroCells zv.cells (cap - (0 + ys.length)) = arr'
    have hsizeA : arr'.size = cap * i.size := by
      rw [← harr]
      simp only [Array.size_append, List.size_toArray, List.length_append, List.length_nil, hnl, size_zeroCells, hzl', hzl, Nat.zero_add]
      rw [← Nat.add_mul]; congr 1; omega
    have f1 : (w.drew.alloc (.cells arr' e)).heap = w.heap.push (.cells arr' e) := rfl
    have f2 : (w.drew.alloc (.cells arr' e)).os = w.os := rfl
    have f3 : (w.drew.alloc (.cells arr' e)).tape = w.tape := rfl
    have f4 : (w.drew.alloc (.cells arr' e)).output = w.output := rfl
    generalize w.drew.alloc (.cells arr' e) = w2 at f1 f2 f3 f4 ⊢
    have f5 : w2.heap.size = w.heap.size + 1 := by rw [f1]; simp
    have hnew : w2.heap[w.heap.size]? = some (.cells arr' e (0, 0)) := by rw [f1]; simp
    obtain ⟨G2, hG2⟩ : ∃ G2 : Nat → Own, G2 = fun b => if b = w.heap.size then .at_ d [(0, 0)] else G1 b := ⟨_, rfl⟩
    refine hnx _ _ (fin _ G2 w2 (fun b hb => by simp [hG2, show b ≠ w.heap.size by omega]) (fun b hb => ?_) (by omega) (fun b hb => ?_) f2 f3 f4 fun hpers hlit => ?_)
    · rw [f1, Array.getElem?_push, if_neg (by omega)]
    · simp only [hG2, if_neg (show b ≠ w.heap.size by omega)]
      exact relab_outer (hA.inv.alloc b (by omega))
    · have := append_slot (d := d) (G' := G2) (w' := w2) (n := 0) (els := []) (ys := ys) (f := fun _ _ => default) (news := news) (arr' := arr') (e2 := e) (sz := i.size) (b := w.heap.size) (o := 0) (by simp [hG2]) hnew rfl rfl hcap (by rw [hsizeA]; simp) (by simp) hry (fun i' j t h => by simp [elAt] at h) (fun i' j t h => by
        obtain ⟨u, hu', hall⟩ := hyrep i' j t h
        have hlt := (List.getElem?_eq_some_iff.1 hu').1
        refine ⟨u, hu', ?_, hall _ _ _ hpers (fun b q i j ρ hq h => hlit b q i j ρ hq h)⟩
        rw [← harr]
        simp only [List.nil_append, Nat.zero_mul, Nat.zero_add]
        rw [Array.getElem?_append_left (by simp; omega), List.getElem?_toArray]
        exact hu')
      simpa using this

theorem dAppN {by_ sz : Nat} {e tx e' : TypeId} {ys : List (List T)} {zs : List T} {sy : Option Nat} {k : List Foot → St → Prop} (R : List Nat) (hg : runs X.N ops st ⟨some d, .call { callee := .builtin .append, args := #[.const (.slice none 0 0), y], argTypes := #[t, tx] }, ty, pos, af, g⟩ = true) (hf : X.free d = true)
    (hy : ∀ st2 : St, (∀ q ∈ R, st2 q = st q) → Srcs X st2 sy.toList sz y sy ys) (hC : d ∉ sy.toList ∧ sy.toList.Nodup) (he : elem? X.P t = some (e, sz)) (hsz : Nat.ble 1 sz = true) (hz : Zeros X.P e zs) (hzl : zs.length = sz) (hby : (X.P.info? e).map (·.bytes) = some by_) (hby1 : Nat.ble 1 by_ = true) (hk : X.P.underlying tx = some (.slice e'))
    (hh : ∀ i j t, elAt ys i j = some t → t.here = true) (hB : ys.length * by_ ≤ 140737488355328) {ys' : List (List T)} (hys : ys = ys')
    {R' : List Nat} (hR : gslot ops ⟨some d, .call { callee := .builtin .append, args := #[.const (.slice none 0 0), y], argTypes := #[t, tx] }, ty, pos, af, g⟩ ++ R = R')
    (hl : DL X ops l (applyP st (sy.toList.map (fun q => (q, .dead)) ++ [(d, one (.sl true sz ys'))])) (fun fs st' => k (⟨R', sy.toList.map (fun q => (q, .dead)) ++ [(d, one (.sl true sz ys'))]⟩ :: fs) st')) : DL X ops (⟨some d, .call { callee := .builtin .append, args := #[.const (.slice none 0 0), y], argTypes := #[t, tx] }, ty, pos, af, g⟩ :: l) st k := by
  subst hR
  subst hys
  refine DL_cons (PStep.runs hg fun st2 h2 => ?_) hl
  have h5 : ys.length ≤ ys.length * by_ := Nat.le_mul_of_pos_right _ (Nat.le_of_ble_eq_true hby1)
  have h1 := OS_appendNil (X := X) (st := st2) (d := d) (t := t) (tx := tx) (ty := ty) (pos := pos) (af := af) (g := g) (hy st2 h2) rfl hC.1 he (by have := Nat.le_of_ble_eq_true hsz; omega) hz hzl hby hk hh hB (by omega) hf
  rw [applyP_app, kill_apply _ _ hC.2]
  exact h1

/-! ### a row of ours that nobody writes any more -/
def frzG (G : Nat → Own) (r : Nat) (J : List Nat) : Nat → Own := fun b => match G b with
  | .at_ s ((0, j) :: ρ) => if s = r ∧ j ∈ J then .pers else .at_ s ((0, j) :: ρ)
  | o => o
/-- Some of a slot's cells, given to nobody. -/
def frzL (J : List Nat) : Nat → List T → Option (List T)
  | _, [] => some []
  | j, t :: ts => (frzL J (j + 1) ts).bind fun us => if j ∈ J then (if t.whole then some (t.shr :: us) else none) else some (t :: us)
theorem frzL_get {J : List Nat} : ∀ {ts us : List T} {n : Nat}, frzL J n ts = some us → us.length = ts.length ∧ ∀ (j : Nat) u, us[j]? = some u → ∃ t, ts[j]? = some t ∧ ((n + j ∈ J ∧ t.whole = true ∧ u = t.shr) ∨ (n + j ∉ J ∧ u = t))
  | [], us, n, h => by simp only [frzL, Option.some.injEq] at h; subst h; exact ⟨rfl, fun j u h => by simp at h⟩
  | t :: ts, us, n, h => by
    simp only [frzL] at h
    obtain ⟨us', h1, h2⟩ := Option.bind_eq_some_iff.1 h
    obtain ⟨h3, h4⟩ := frzL_get h1
    have rest : ∀ u0, us = u0 :: us' → ((n ∈ J ∧ t.whole = true ∧ u0 = t.shr) ∨ (n ∉ J ∧ u0 = t)) → us.length = (t :: ts).length ∧ ∀ (j : Nat) u, us[j]? = some u → ∃ t', (t :: ts)[j]? = some t' ∧ ((n + j ∈ J ∧ t'.whole = true ∧ u = t'.shr) ∨ (n + j ∉ J ∧ u = t')) := by
      rintro u0 rfl hu
      refine ⟨by simp [h3], fun j u hj => ?_⟩
      cases j with
      | zero => simp only [List.getElem?_cons_zero, Option.some.injEq] at hj; subst hj; exact ⟨t, rfl, by simpa using hu⟩
      | succ j =>
        obtain ⟨t', h5, h6⟩ := h4 j u (by simpa using hj)
        exact ⟨t', by simpa using h5, by rwa [show n + (j + 1) = n + 1 + j by omega]⟩
    split at h2
    · rename_i hn
      split at h2
      · rename_i hw; cases h2; exact rest _ rfl (.inl ⟨hn, hw, rfl⟩)
      · cases h2
    · rename_i hn; cases h2; exact rest _ rfl (.inr ⟨hn, rfl⟩)
def ts? : List Cell → Option (List T)
  | [] => some []
  | .t x :: cs => (ts? cs).map fun ts => x :: ts
  | .ref .. :: _ => none
theorem ts?_some : ∀ {cs : List Cell} {ts : List T}, ts? cs = some ts → cs = ts.map .t
  | [], ts, h => by simp only [ts?, Option.some.injEq] at h; subst h; rfl
  | .t x :: cs, ts, h => by
    simp only [ts?] at h
    obtain ⟨us, h1, rfl⟩ := Option.map_eq_some_iff.1 h
    simp [ts?_some h1]
  | .ref .. :: _, _, h => by simp [ts?] at h
def SV.frz (J : List Nat) : SV → Option SV
  | .val a cs => (ts? cs).bind fun ts => (frzL J 0 ts).map fun us => .val a (us.map .t)
  | .box cs => (frzL J 0 cs).map .box
  | _ => none

theorem All_frz {r : Nat} {sv sv' : SV} {J : List Nat} (h : (st r).sv = sv) (hs : sv.frz J = some sv') (hA : All X st a w) : All X (st.put r sv') a w := by
  obtain ⟨G, vals, hA⟩ := hA
  have hsh : ∀ j ∈ J, ∀ b ρ, G b = .at_ r ([(0, j)] ++ ρ) → frzG G r J b = .pers ∧ w.heap[b]? = w.heap[b]? := fun j hj b ρ hb => ⟨by simp only [List.singleton_append] at hb; simp [frzG, hb, hj], rfl⟩
  have hkp : ∀ b s ρ, G b = .at_ s ρ → (∀ j ρ', ρ = (0, j) :: ρ' → ¬ (s = r ∧ j ∈ J)) → frzG G r J b = .at_ s ρ := by
    intro b s ρ hb hn
    rcases ρ with _ | ⟨⟨k, j⟩, ρ⟩
    · simp [frzG, hb]
    · cases k with
      | zero => simp only [frzG, hb]; rw [if_neg (hn j ρ rfl)]
      | succ k => simp [frzG, hb]
  have hp : ∀ b, G b = .pers → frzG G r J b = .pers ∧ w.heap[b]? = w.heap[b]? := fun b h => ⟨by simp [frzG, h], rfl⟩
  have cell : ∀ (j : Nat) (u : Value) (t t' : T), Rep G w r [(0, j)] u t → ((0 + j ∈ J ∧ t.whole = true ∧ t' = t.shr) ∨ (0 + j ∉ J ∧ t' = t)) → Rep (frzG G r J) w r [(0, j)] u t' := by
    intro j u t t' ht h
    rw [Nat.zero_add] at h
    rcases h with ⟨hj, hw, rfl⟩ | ⟨hj, rfl⟩
    · exact ht.shr hw hp (hsh j hj)
    · exact ht.move hp fun b ρ hb => ⟨hkp b r _ hb (fun j' ρ' e hh => by simp at e; exact hj (by rw [e.1]; exact hh.2)), rfl⟩
  refine ⟨frzG G r J, vals, hA.step (K := fun q => q = r) (fun s hs => put_ne _ _ hs) (fun _ _ => rfl) (fun s hs => by subst hs; rw [put_same]; simp) ?_ ?_ ?_ (fun b hb => by simp [frzG, hA.inv.alloc b hb]) hA.inv.pin (Nat.le_refl _) rfl rfl rfl hA.defers hA.size hA.link⟩
  · rintro b (h | ⟨h, -⟩) <;> exact ⟨by simp [frzG, h], rfl⟩
  · intro b s ρ hb hs; exact ⟨hkp b s ρ hb (fun _ _ _ hh => hs hh.1), rfl⟩
  · rintro - s rfl
    rw [put_same]
    have h0 := hA.inv.slots s
    rw [h] at h0
    cases sv with
    | val ag cs =>
      simp only [SV.frz] at hs
      obtain ⟨ts, h1, hs⟩ := Option.bind_eq_some_iff.1 hs
      obtain ⟨us, h2, rfl⟩ := Option.map_eq_some_iff.1 hs
      obtain rfl := ts?_some h1
      obtain ⟨vs, hpk, hl, hall⟩ := h0
      obtain ⟨h3, h4⟩ := frzL_get h2
      refine ⟨vs, hpk, by simpa [h3] using hl, fun j c u hc hu => ?_⟩
      rw [List.getElem?_map] at hc
      obtain ⟨y, hy, rfl⟩ := Option.map_eq_some_iff.1 hc
      obtain ⟨t, ht, hh⟩ := h4 j y hy
      exact cell j u t y (hall j (.t t) u (by simp [ht]) hu) hh
    | box cs =>
      simp only [SV.frz] at hs
      obtain ⟨us, h2, rfl⟩ := Option.map_eq_some_iff.1 hs
      obtain ⟨h3, h4⟩ := frzL_get h2
      obtain ⟨b, arr, ty', hv, hG, hb, hl, hall⟩ := h0
      refine ⟨b, arr, ty', hv, hkp b s [] hG (fun _ _ e => by cases e), hb, by rw [hl, h3], fun j y u hy hu => ?_⟩
      obtain ⟨t, ht, hh⟩ := h4 j y hy
      exact cell j u t y (hall j t u ht hu) hh
    | _ => simp [SV.frz] at hs
theorem W_frz {r : Nat} {sv : SV} (sv' : SV) {J : List Nat} (h : (st r).sv = sv) (hs : sv.frz J = some sv') (hW : W X c (st.put r sv') Q) : W X c st Q := fun a w hA => hW a w (All_frz h hs hA)
theorem WL_frz {r : Nat} {sv : SV} (sv' : SV) {J : List Nat} (h : (st r).sv = sv) (hs : sv.frz J = some sv') (hW : WL X ops l (st.put r sv') Q) : WL X ops l st Q := fun a w hA => hW a w (All_frz h hs hA)
end
end Go.V
namespace Go.V
open Go Go.RowKit

section
variable {X : Cx} {st st' : St} {d : Nat} {t ty : TypeId} {x y : Operand} {v : Value} {pos : String} {af : Array Edge} {g : Option (Nat × Bool)} {a : Act} {w : World} {G : Nat → Own} {vals : Nat → Value} {ops : Array Oper} {l : List Oper} {Q : Exit → St → Prop} {c : Code} {k : List Foot → St → Prop}

/-! ### joins -/
def Cell.norm (st : St) : Cell → Cell
  | .t x => .t x
  | .ref r k π => if k = (st r).ver then .ref r 0 π else .t .gone
/-- What a slot holds, its references by number 0. -/
def SV.norm (st : St) : SV → SV
  | .val a cs => .val a (cs.map (Cell.norm st))
  | .tup vs => .tup (vs.map fun p => (p.1, p.2.map (Cell.norm st)))
  | .addr r k π i j => if k = (st r).ver then .addr r 0 π i j else .dead
  | sv => sv
def Cell.roots : Cell → List Nat
  | .t _ => []
  | .ref r _ _ => [r]
def SV.roots : SV → List Nat
  | .val _ cs => cs.flatMap Cell.roots
  | .tup vs => vs.flatMap fun p => p.2.flatMap Cell.roots
  | .addr r _ _ _ _ => [r]
  | _ => []
def closedB (l : List (Nat × SV)) : Bool := l.all fun p => p.2.roots.all fun r => l.any fun q => q.1 == r
def FN (st : St) (l : List (Nat × SV)) : Prop := ∀ p ∈ l, (st p.1).sv.norm st = p.2
theorem nN {st : St} : FN st [] := fun _ h => by cases h
theorem nC {st : St} {s : Nat} {x : SV} {l : List (Nat × SV)} (h : (st s).sv.norm st = x) (hl : FN st l) : FN st ((s, x) :: l) := fun p hp => by
  rcases List.mem_cons.1 hp with rfl | hp
  · exact h
  · exact hl p hp

theorem norm_cell {sv : SV} {k j : Nat} {x : T} (h : sv.cell k j = some (.t x)) : (sv.norm st).cell k j = some (.t x) := by
  cases sv with
  | val a cs =>
    simp only [SV.cell] at h
    simp only [SV.norm, SV.cell]
    split
    · rename_i hk
      rw [if_pos hk] at h
      rw [List.getElem?_map, h]
      rfl
    · rename_i hk; rw [if_neg hk] at h; cases h
  | tup vs =>
    simp only [SV.cell] at h
    obtain ⟨p, hp, h⟩ := Option.bind_eq_some_iff.1 h
    simp only [SV.norm, SV.cell, List.getElem?_map, hp, Option.map_some, Option.bind_some, h]
    rfl
  | addr => simp [SV.cell] at h
  | _ => exact h
theorem norm_cellVal (sv : SV) (u : Value) (k j : Nat) (hd : ∀ r k π i j, sv ≠ .addr r k π i j) : cellVal w u (sv.norm st) k j = cellVal w u sv k j := by
  cases sv with
  | val => rfl
  | tup vs =>
    simp only [SV.norm]
    cases u <;> simp only [cellVal, List.getElem?_map]
    cases vs[k]? <;> rfl
  | addr r k π i j => exact absurd rfl (hd r k π i j)
  | _ => rfl

theorem place_norm {st2 : St} {r : Nat} {π : Path} {p : Value × T} (h2 : (st2 r).sv = (st r).sv.norm st) (h : place vals st w r π = some p) : place vals st2 w r π = some p := by
  cases π with
  | nil => simp [place] at h
  | cons q π =>
    obtain ⟨k, j⟩ := q
    simp only [place] at h ⊢
    obtain ⟨u, hu, h⟩ := Option.bind_eq_some_iff.1 h
    split at h
    · rename_i x hx
      have hd : ∀ r' k' π' i' j', (st r).sv ≠ .addr r' k' π' i' j' := fun r' k' π' i' j' e => by rw [e] at hx; simp [SV.cell] at hx
      rw [h2, norm_cellVal _ _ _ _ hd, hu, Option.bind_some, norm_cell hx]
      exact h
    · cases h

theorem All_ofN {l : List (Nat × SV)} (hl : FN st l) (hc : closedB l = true) (hA : All X st a w) : All X (ofL l) a w := by
  obtain ⟨G, vals, hA⟩ := hA
  have key : ∀ r, (l.any fun q => q.1 == r) = true → (ofL l r).sv = (st r).sv.norm st ∧ (ofL l r).ver = 0 := by
    intro r hr
    unfold ofL
    cases hf : l.find? (fun p => p.1 == r) with
    | none =>
      exfalso
      obtain ⟨q, hq, h1⟩ := List.any_eq_true.1 hr
      exact (List.find?_eq_none.1 hf) q hq h1
    | some p =>
      have hs : p.1 = r := by have := List.find?_some hf; simpa using this
      exact ⟨by rw [← hs]; exact (hl p (List.mem_of_find?_eq_some hf)).symm, rfl⟩
  refine ⟨G, vals, hA.defers, hA.size, hA.link, ⟨fun s => ?_, hA.inv.alloc, hA.inv.pin⟩, hA.base⟩
  have hofl : ∀ p, l.find? (fun p => p.1 == s) = some p → (ofL l s).sv = p.2 := fun p hf => by unfold ofL; rw [hf]
  cases hf : l.find? (fun p => p.1 == s) with
  | none => unfold ofL; rw [hf]; trivial
  | some p =>
    have hm := List.mem_of_find?_eq_some hf
    have hs : p.1 = s := by have := List.find?_some hf; simpa using this
    rw [hofl p hf]
    have h1 := hl p hm
    rw [hs] at h1
    have hrt := List.all_eq_true.1 hc p hm
    rw [← h1] at hrt ⊢
    have h0 := hA.inv.slots s
    have ckey : ∀ {k : Nat} {ag : Bool} {v : Value} {cs : List Cell}, (∀ c ∈ cs, ∀ r ∈ (c.norm st).roots, (l.any fun q => q.1 == r) = true) → CellsRep G w st vals s k ag v cs → CellsRep G w (ofL l) vals s k ag v (cs.map (Cell.norm st)) := by
      rintro k ag v cs hcl ⟨us, hpk, hul, hall⟩
      refine ⟨us, hpk, by simpa using hul, fun j c u hcj hu => ?_⟩
      rw [List.getElem?_map] at hcj
      obtain ⟨c0, hc0, rfl⟩ := Option.map_eq_some_iff.1 hcj
      have h3 := hall j c0 u hc0 hu
      have h4 := hcl c0 (List.mem_of_getElem? hc0)
      cases c0 with
      | t x => exact h3
      | ref r k' π =>
        simp only [Cell.norm] at h4 ⊢
        split
        · rename_i hk
          rw [if_pos hk] at h4
          obtain ⟨h5, h6⟩ := key r (h4 r (by simp [Cell.roots]))
          refine ⟨Nat.zero_le _, fun _ => ?_⟩
          obtain ⟨sz, els, hpl⟩ := h3.2 hk.symm
          exact ⟨sz, els, place_norm h5 hpl⟩
        · exact .gone
    cases hsv : (st s).sv with
    | dead => trivial
    | val ag cs =>
      rw [hsv] at h0 hrt
      refine ckey (fun c hcm r hr => ?_) h0
      exact List.all_eq_true.1 hrt r (by simp only [SV.norm, SV.roots, List.mem_flatMap, List.mem_map]; exact ⟨_, ⟨c, hcm, rfl⟩, hr⟩)
    | tup vs =>
      rw [hsv] at h0 hrt
      obtain ⟨arr, hv, hul, hall⟩ := h0
      refine ⟨arr, hv, by simpa using hul, fun k q u hq hu => ?_⟩
      rw [List.getElem?_map] at hq
      obtain ⟨q0, hq0, rfl⟩ := Option.map_eq_some_iff.1 hq
      refine ckey (fun c hcm r hr => ?_) (hall k q0 u hq0 hu)
      refine List.all_eq_true.1 hrt r ?_
      simp only [SV.norm, SV.roots, List.mem_flatMap, List.mem_map]
      exact ⟨_, ⟨q0, List.mem_of_getElem? hq0, rfl⟩, _, List.mem_map.2 ⟨c, hcm, rfl⟩, hr⟩
    | box cs => rw [hsv] at h0; exact h0
    | bld => rw [hsv] at h0; exact h0
    | addr r k π i j =>
      rw [hsv] at h0 hrt
      simp only [SV.norm] at hrt ⊢
      split
      · rename_i hk
        rw [if_pos hk] at hrt
        obtain ⟨h5, h6⟩ := key r (List.all_eq_true.1 hrt r (by simp [SV.roots]))
        refine ⟨Nat.zero_le _, fun _ => ?_⟩
        have h7 := h0.2 hk.symm
        cases π with
        | nil =>
          obtain ⟨hi, b, hb, h8⟩ := h7
          refine ⟨hi, b, ?_, h8⟩
          rw [h5]
          cases hsr : (st r).sv <;> rw [hsr] at hb <;> simp_all [SV.norm, SV.boxy]
        | cons q π =>
          obtain ⟨b, o, n, c, sz, els, hp, h8⟩ := h7
          exact ⟨b, o, n, c, sz, els, place_norm h5 hp, h8⟩
      · trivial

/-- On from what the list says. -/
theorem W_fn {l : List (Nat × SV)} (h : FN st l) (hc : closedB l = true) (hw : W X c (ofL l) Q) : W X c st Q := fun a w hA => hw a w (All_ofN h hc hA)

/-! ### a region in two parts, for what is done between -/
theorem WL_chunk (n : Nat) (h : DL X ops (l.take n) st fun _ st' => WL X ops (l.drop n) st' Q) : WL X ops l st Q := by
  obtain ⟨fs, h1, h2, h3⟩ := h
  have : ∀ (l1 l2 : List Oper) (fs : List Foot) (st : St), fs.length = l1.length → (∀ (i : Nat) o (f : Foot), l1[i]? = some o → fs[i]? = some f → PStep X ops o (statesAt fs i st) f.reads f.ps) → WL X ops l2 (statesAt fs fs.length st) Q → WL X ops (l1 ++ l2) st Q := by
    intro l1
    induction l1 with
    | nil =>
      intro l2 fs st hl _ hq
      have : fs = [] := List.eq_nil_of_length_eq_zero hl
      subst this
      simpa [statesAt, foldX] using hq
    | cons o l1 ih =>
      intro l2 fs st hl hall hq
      cases fs with
      | nil => simp at hl
      | cons f fs =>
        have h0 := hall 0 o f rfl rfl
        rw [statesAt_zero] at h0
        refine WL_g (h0 st fun _ _ => rfl) (ih l2 fs (applyP st f.ps) (by simpa using hl) (fun i o' f' ho hf => ?_) (by simpa [statesAt_succ] using hq))
        have := hall (i + 1) o' f' (by simpa using ho) (by simpa using hf)
        rwa [statesAt_succ] at this
  have h4 := this (l.take n) (l.drop n) fs st h1 h2 h3
  rwa [List.take_append_drop] at h4
theorem W_chunks {id : Nat} (h : WL X l.toArray l st Q) : W X (.region id l.toArray false) st Q := W_region h

/-! ### calls that write -/
/-- The cells, those in J as the callee left them. -/
def rowNew {α : Type} (inj : T → α) (off : Nat) (J : List Nat) (ts : List T) : Nat → List α → Option (List α)
  | _, [] => some []
  | n, z :: old => (rowNew inj off J ts (n + 1) old).bind fun new => if Nat.ble off n && J.contains (n - off) then (ts[n - off]?).map fun y => inj y :: new else some (z :: new)
theorem rowNew_rel {α : Type} {inj : T → α} {off : Nat} {J : List Nat} {ts : List T} {old new : List α} (h : rowNew inj off J ts 0 old = some new) : RowRel inj off J ts old new := by
  have gen : ∀ (old new : List α) (n : Nat), rowNew inj off J ts n old = some new → new.length = old.length ∧ ∀ (j : Nat) z, new[j]? = some z → (∃ j0 ∈ J, off + j0 = n + j ∧ ∃ y, ts[j0]? = some y ∧ z = inj y) ∨ ((∀ j0 ∈ J, off + j0 ≠ n + j) ∧ old[j]? = some z) := by
    intro old
    induction old with
    | nil => intro new n h; simp only [rowNew, Option.some.injEq] at h; subst h; exact ⟨rfl, fun j z h => by simp at h⟩
    | cons z old ih =>
      intro new n h
      simp only [rowNew] at h
      obtain ⟨new', h1, h⟩ := Option.bind_eq_some_iff.1 h
      obtain ⟨h2, h3⟩ := ih new' (n + 1) h1
      have rest : ∀ z', new = z' :: new' → ((∃ j0 ∈ J, off + j0 = n ∧ ∃ y, ts[j0]? = some y ∧ z' = inj y) ∨ ((∀ j0 ∈ J, off + j0 ≠ n) ∧ z' = z)) → new.length = (z :: old).length ∧ ∀ (j : Nat) z1, new[j]? = some z1 → (∃ j0 ∈ J, off + j0 = n + j ∧ ∃ y, ts[j0]? = some y ∧ z1 = inj y) ∨ ((∀ j0 ∈ J, off + j0 ≠ n + j) ∧ (z :: old)[j]? = some z1) := by
        rintro z' rfl hz
        refine ⟨by simp [h2], fun j z1 hj => ?_⟩
        cases j with
        | zero =>
          simp only [List.getElem?_cons_zero, Option.some.injEq] at hj
          subst hj
          rcases hz with hz | ⟨hz, rfl⟩
          · exact .inl (by simpa using hz)
          · exact .inr ⟨by simpa using hz, rfl⟩
        | succ j =>
          have := h3 j z1 (by simpa using hj)
          rw [show n + 1 + j = n + (j + 1) by omega] at this
          simpa using this
      split at h
      · rename_i hc
        simp only [Bool.and_eq_true, List.contains_iff_mem] at hc
        obtain ⟨y, hy, rfl⟩ := Option.map_eq_some_iff.1 h
        have := Nat.le_of_ble_eq_true hc.1
        exact rest _ rfl (.inl ⟨n - off, hc.2, by omega, y, hy, rfl⟩)
      · rename_i hc
        cases h
        refine rest _ rfl (.inr ⟨fun j0 hj0 e => hc ?_, rfl⟩)
        simp only [Bool.and_eq_true, List.contains_iff_mem]
        refine ⟨Nat.ble_eq_true_of_le (by omega), ?_⟩
        rwa [show n - off = j0 by omega]
  obtain ⟨h1, h2⟩ := gen old new 0 h
  exact ⟨h1, fun j z hj => by simpa using h2 j z hj⟩

theorem newVal {args : List Arg} {fin : List (Option Arg)} {r off i : Nat} {J : List Nat} {ag agr : Bool} {ts ts' : List T} {cs cs' : List Cell} (ha : args[i]? = some (.mv ag ts)) (hf : fin[i]? = some (some (.mv ag ts'))) (hr : (st r).sv = .val agr cs) (hrel : rowNew .t off J ts' 0 cs = some cs') : NewSV st args fin (.row r [] 0 off i J) (.val agr cs') := .val ha hf hr (rowNew_rel hrel)
theorem newBx {args : List Arg} {fin : List (Option Arg)} {r off i : Nat} {J : List Nat} {ag : Bool} {ts ts' : List T} {cs cs' : List T} (ha : args[i]? = some (.mv ag ts)) (hf : fin[i]? = some (some (.mv ag ts'))) (hr : (st r).sv = .box cs) (hrel : rowNew id off J ts' 0 cs = some cs') : NewSV st args fin (.row r [] 0 off i J) (.box cs') := .bx ha hf hr (rowNew_rel hrel)
theorem newDeep {args : List Arg} {fin : List (Option Arg)} {r kk jj c off i sz : Nat} {π : Path} {J : List Nat} {ag : Bool} {ts ts' row row' : List T} {els els' : List (List T)} {sv' : SV} (ha : args[i]? = some (.mv ag ts)) (hf : fin[i]? = some (some (.mv ag ts'))) (hr : st.at_ r ((kk, jj) :: π) = some (.sl true sz els)) (hrow : els[c]? = some row)
    (hrel : rowNew id off J ts' 0 row = some row') (he : els.set c row' = els') (hsv : ((st r).sv.mod kk jj fun x => x.setAt π (.sl true sz els')) = sv') : NewSV st args fin (.row r ((kk, jj) :: π) c off i J) sv' := by
  subst he; subst hsv; exact .deep ha hf hr hrow (rowNew_rel hrel)
inductive NewL (st : St) (args : List Arg) (fin : List (Option Arg)) : List ME → List (Nat × SV) → Prop
  | nil : NewL st args fin [] []
  | cons {e r sv m us} (h : NewSV st args fin e sv) (hr : r = e.root) (hl : NewL st args fin m us) : NewL st args fin (e :: m) ((r, sv) :: us)
theorem NewL.get {args : List Arg} {fin : List (Option Arg)} {m : List ME} {us : List (Nat × SV)} (h : NewL st args fin m us) : us.map Prod.fst = m.map ME.root ∧ ∀ (n : Nat) e p, m[n]? = some e → us[n]? = some p → NewSV st args fin e p.2 := by
  induction h with
  | nil => exact ⟨rfl, fun n e p h => by simp at h⟩
  | cons h hr _ ih =>
    refine ⟨by simp [hr, ih.1], fun n e' p h1 h2 => ?_⟩
    cases n with
    | zero =>
      simp only [List.getElem?_cons_zero, Option.some.injEq] at h1 h2
      subst h1; subst h2; exact h
    | succ n => exact ih.2 n e' p (by simpa using h1) (by simpa using h2)

def nodB : List Nat → Bool
  | [] => true
  | x :: xs => !xs.contains x && nodB xs
theorem nodB_ok : ∀ {xs : List Nat}, nodB xs = true → xs.Nodup
  | [], _ => List.nodup_nil
  | x :: xs, h => by
    simp only [nodB, Bool.and_eq_true, Bool.not_eq_true', List.contains_eq_mem, decide_eq_false_iff_not] at h
    exact List.nodup_cons.2 ⟨h.1, nodB_ok h.2⟩
/-- Roots and parameters each once, no root lent for reading, the result's slot no root. -/
def mokB (l : List (Nat × Path)) (m : List ME) (d k fl : Nat) : Bool :=
  nodB (m.map ME.root) && (nodB (m.map ME.par) && (l.all (fun p => !(m.map ME.root).contains p.1) && (m.all (fun e => Nat.ble (e.par + 1) k) && (!(m.map ME.root).contains d && Nat.ble fl 1000))))
theorem mokB_ok {l : List (Nat × Path)} {m : List ME} {k fl : Nat} (h : mokB l m d k fl = true) : mOK l m ∧ (∀ e ∈ m, e.par < k) ∧ d ∉ m.map ME.root ∧ fl ≤ 1000 := by
  simp only [mokB, Bool.and_eq_true, List.all_eq_true, Bool.not_eq_true', List.contains_eq_mem, decide_eq_false_iff_not] at h
  obtain ⟨h1, h2, h3, h4, h5, h6⟩ := h
  exact ⟨⟨nodB_ok h1, nodB_ok h2, h3⟩, fun e he => Nat.le_of_ble_eq_true (h4 e he), h5, Nat.le_of_ble_eq_true h6⟩
/-- A call that is handed places to write. -/
theorem dCallM {args : List Arg} {res : List (Bool × List T)} {fin : List (Option Arg)} {xs : List Operand} {f : Operand} {tys : Array TypeId} {lt : List (Nat × Path)} {cp : List T} {fn : Func} {gn : FuncId} (m : List ME) (us : List (Nat × SV)) (R : List Nat) (hV : VC X.P gn args res fin) (hfn : X.P.funcs[gn]? = some fn) (hname : (fn.name == "runtime.NumGoroutine") = false) (hbody : fn.body.isNone = false)
    (hg : runs X.N ops st ⟨some d, .call { callee := .value f, args := xs.toArray, argTypes := tys }, ty, pos, af, g⟩ = true) (hfr : X.free d = true) (hM' : mokB lt m d xs.length fin.length = true)
    (hdeep : lt = [] ∨ (∀ p ∈ res, deepl p.2 = true) ∧ (∀ (j : Nat) ar, fin[j]? = some (some ar) → argDeep ar = true)) (hnew : ∀ st2 : St, (∀ s ∈ R, st2 s = st s) → NewL st2 args fin m us)
    (hargs : ∀ st2 : St, (∀ s ∈ R, st2 s = st s) → Opd X.N st2 f (one (.fn gn cp)) ∧ CallArgs X st2 lt m xs cp args)
    {R' : List Nat} (hR : gslot ops ⟨some d, .call { callee := .value f, args := xs.toArray, argTypes := tys }, ty, pos, af, g⟩ ++ R = R') (hl : DL X ops l (applyP st (us ++ [(d, resSV res)])) (fun fs st' => k (⟨R', us ++ [(d, resSV res)]⟩ :: fs) st')) :
    DL X ops (⟨some d, .call { callee := .value f, args := xs.toArray, argTypes := tys }, ty, pos, af, g⟩ :: l) st k := by
  subst hR
  refine DL_cons (PStep.runs hg fun st2 h2 => ?_) hl
  have hM := mokB_ok hM'
  obtain ⟨h3, h4⟩ := hargs st2 h2
  obtain ⟨h5, h6⟩ := (hnew st2 h2).get
  have := OS_callM us hV hfn hname hbody h3 hM.1 h4 h5 h6 hM.2.1 hM.2.2.1 (fun i ar h => by
    have h7 := (List.getElem?_eq_some_iff.1 h).1
    have h8 := hM.2.2.2
    have h9 : RES = 1000000 := rfl
    omega) hdeep hfr (d := d) (tys := tys) (ty := ty) (pos := pos) (af := af) (gd := g)
  rw [applyP_app]
  exact this
inductive FinD : List (Option Arg) → Prop
  | nil : FinD []
  | none {fs} (h : FinD fs) : FinD (none :: fs)
  | some {ar fs} (h0 : argDeep ar = true) (h : FinD fs) : FinD (some ar :: fs)
theorem FinD.get {fs : List (Option Arg)} (h : FinD fs) : ∀ (j : Nat) ar, fs[j]? = Option.some (Option.some ar) → argDeep ar = true := by
  induction h with
  | nil => intro j ar h; simp at h
  | none _ ih => intro j ar h; cases j with
    | zero => simp at h
    | succ j => exact ih j ar (by simpa using h)
  | some h0 _ ih => intro j ar h; cases j with
    | zero => simp at h; subst h; exact h0
    | succ j => exact ih j ar (by simpa using h)

inductive CellsMv (st : St) (r : Nat) (π : Path) (c off : Nat) (J : List Nat) (s : Nat) : Nat → List Cell → List T → Prop
  | nil {j} : CellsMv st r π c off J s j [] []
  | cons {j c' y cs ys} (h : CellMv st r π c off J s j c' y) (hl : CellsMv st r π c off J s (j + 1) cs ys) : CellsMv st r π c off J s j (c' :: cs) (y :: ys)
theorem CellsMv.get {r c off s j : Nat} {π : Path} {J : List Nat} {cs : List Cell} {ys : List T} (h : CellsMv st r π c off J s j cs ys) : cs.length = ys.length ∧ ∀ (i : Nat) c' y, cs[i]? = some c' → ys[i]? = some y → CellMv st r π c off J s (j + i) c' y := by
  induction h with
  | nil => exact ⟨rfl, fun i c y h => by simp at h⟩
  | cons h _ ih =>
    refine ⟨by simp [ih.1], fun i c' y h1 h2 => ?_⟩
    cases i with
    | zero => simp at h1 h2; subst h1; subst h2; exact h
    | succ i =>
      have := ih.2 i c' y (by simpa using h1) (by simpa using h2)
      rwa [Nat.add_assoc, Nat.add_comm 1 i] at this
theorem aMv {lt : List (Nat × Path)} {m : List ME} {i s r c off : Nat} {π : Path} {J : List Nat} {ag : Bool} {cs : List Cell} {ts : List T} (hN : s < X.N) (h : (st s).sv = .val ag cs) (hm : ME.row r π c off i J ∈ m) (hc : CellsMv st r π c off J s 0 cs ts) : ArgOf X st lt m i (.tmp s) (.mv ag ts) :=
  .mv hN h hc.get.1 hm fun j c' y h1 h2 => by have := hc.get.2 j c' y h1 h2; rwa [Nat.zero_add] at this

/-! ### cuts -/
/-- A bound of a cut, as a number. -/
def bndF (N : Nat) (st : St) : Option Operand → Int → Option Int
  | none, dflt => some dflt
  | some x, _ => match scF N st x with
    | some (.int _ n) => some n
    | _ => none
def bndSlots : Option Operand → List Nat
  | some x => opdSlots x
  | none => []
theorem bndF_agree {N : Nat} {st2 : St} {o : Option Operand} {dflt : Int} (h : ∀ s ∈ bndSlots o, st2 s = st s) : bndF N st2 o dflt = bndF N st o dflt := by
  cases o with
  | none => rfl
  | some x => simp only [bndF]; rw [scF_agree h]
theorem bndF_ok {o : Option Operand} {dflt n : Nat} {b : Int} (h : bndF X.N st o dflt = some b) (hb : b = n) : Bound X st o dflt n := by
  cases o with
  | none => simp only [bndF, Option.some.injEq] at h; exact .inl ⟨rfl, by omega⟩
  | some x =>
    simp only [bndF] at h
    split at h
    · rename_i kk m hs
      cases h
      subst hb
      exact .inr ⟨x, kk, rfl, scF_ok hs⟩
    · cases h
def cutS (s : ByteArray) (l h : Int) : ByteArray := s.extract l.toNat h.toNat
def cutL {α : Type} (xs : List α) (l h : Int) : List α := (xs.take h.toNat).drop l.toNat
theorem cut_map {α β : Type} (f : α → β) (xs : List α) (l h : Int) : cutL (xs.map f) l h = (cutL xs l h).map f := by simp [cutL, List.map_take, List.map_drop]
theorem dCutS {s : ByteArray} {lo hi : Option Operand} {b e : Int} (hg : runs X.N ops st ⟨some d, .slice t x lo hi none, ty, pos, af, g⟩ = true) (hf : X.free d = true) (hu : X.P.underlying t = some .string) (hx : scF X.N st x = some (.string s)) (hlo : bndF X.N st lo 0 = some b) (hhi : bndF X.N st hi s.size = some e) (hb : 0 ≤ b ∧ b ≤ e ∧ e ≤ s.size)
    {R' : List Nat} (hR : gslot ops ⟨some d, .slice t x lo hi none, ty, pos, af, g⟩ ++ (opdSlots x ++ bndSlots lo ++ bndSlots hi) = R') (hl : DL X ops l (applyP st [(d, scv (.string (cutS s b e)))]) (fun fs st' => k (⟨R', [(d, scv (.string (cutS s b e)))]⟩ :: fs) st')) : DL X ops (⟨some d, .slice t x lo hi none, ty, pos, af, g⟩ :: l) st k := by
  subst hR
  refine DL_cons (PStep.runs hg fun st2 h2 => ?_) hl
  refine OS_slice_str hu (scF_ok (by rw [scF_agree fun s hs => h2 s (by simp [hs])]; exact hx)) (bndF_ok (b := b) (by rw [Int.natCast_zero, bndF_agree fun s hs => h2 s (by simp [hs])]; exact hlo) (by omega)) (bndF_ok (b := e) (by rw [bndF_agree fun s hs => h2 s (by simp [hs])]; exact hhi) (by omega)) (by omega) (by omega) hf
theorem dCutL {lo hi : Option Operand} {b e : Int} {et : TypeId} {sz : Nat} {els els' : List (List T)} (hg : runs X.N ops st ⟨some d, .slice t x lo hi none, ty, pos, af, g⟩ = true) (hf : X.free d = true) (he : elem? X.P t = some (et, sz)) (hx : opdF X.N st x = some (one (.sl false sz els))) (hlo : bndF X.N st lo 0 = some b) (hhi : bndF X.N st hi els.length = some e) (hb : 0 ≤ b ∧ b ≤ e ∧ e ≤ els.length) (hels : cutL els b e = els')
    {R' : List Nat} (hR : gslot ops ⟨some d, .slice t x lo hi none, ty, pos, af, g⟩ ++ (opdSlots x ++ bndSlots lo ++ bndSlots hi) = R') (hl : DL X ops l (applyP st [(d, one (.sl false sz els'))]) (fun fs st' => k (⟨R', [(d, one (.sl false sz els'))]⟩ :: fs) st')) : DL X ops (⟨some d, .slice t x lo hi none, ty, pos, af, g⟩ :: l) st k := by
  subst hR
  subst hels
  refine DL_cons (PStep.runs hg fun st2 h2 => ?_) hl
  exact OS_slice_shd he (opdF_ok (by rw [opdF_agree fun s hs => h2 s (by simp [hs])]; exact hx)) (bndF_ok (b := b) (by rw [Int.natCast_zero, bndF_agree fun s hs => h2 s (by simp [hs])]; exact hlo) (by omega)) (bndF_ok (b := e) (by rw [bndF_agree fun s hs => h2 s (by simp [hs])]; exact hhi) (by omega)) (by omega) (by omega) hf

/-! ### deep places -/
theorem at_snoc {r i j sz : Nat} {els : List (List T)} {y : T} {row : List T} (hrow : els[i]? = some row) (hy : row[j]? = some y) : ∀ {π : Path}, st.at_ r π = some (.sl true sz els) → st.at_ r (π ++ [(i, j)]) = some y := by
  have key : ∀ {π : Path} {x : T}, x.at_ π = some (.sl true sz els) → x.at_ (π ++ [(i, j)]) = some y := by
    intro π
    induction π with
    | nil => intro x h; simp only [T.at_, Option.some.injEq] at h; subst h; simp [T.at_, elAt, hrow, hy]
    | cons q π ih =>
      intro x h
      obtain ⟨i', j'⟩ := q
      cases x with
      | sl m sz' els' =>
        cases m with
        | false => simp [T.at_] at h
        | true =>
          simp only [T.at_, List.cons_append] at h ⊢
          obtain ⟨z, hz, h⟩ := Option.bind_eq_some_iff.1 h
          rw [hz, Option.bind_some]
          exact ih h
      | _ => simp [T.at_] at h
  intro π h
  cases π with
  | nil => simp [St.at_] at h
  | cons q π =>
    obtain ⟨kk, jj⟩ := q
    simp only [St.at_, List.cons_append] at h ⊢
    split at h
    · rename_i x hx; exact key h
    · cases h
theorem ownD {s r kk sz : Nat} {π : Path} {els : List (List T)} (hs : (st s).sv = .val false [.ref r kk π]) (hk : (st r).ver = kk) (h : st.at_ r π = some (.sl true sz els)) : ownOf st s = some (r, π, sz, els) := by
  simp only [ownOf, hs, hk, if_true, h]
theorem lenO {P : Program} {N s sz r : Nat} {π : Path} {els : List (List T)} {e : TypeId × Nat} {n : Nat} (he : elem? P t = some e) (ho : ownOf st s = some (r, π, sz, els)) (hn : els.length = n) : lenOf P N st s t = some (n : Int) := by
  unfold elem? at he
  split at he
  · rename_i e0 hu
    simp only [lenOf, hu, elem?]
    rw [he]
    have : rowOf st s = some els := by
      unfold rowOf
      split
      · rename_i m' z' els' h
        simp only [ownOf, h] at ho
        cases m' <;> simp_all
      · rw [ho]; rfl
    rw [this]
    simp [hn]
  · cases he
end
end Go.V
namespace Go.V
open Go Go.RowKit

section
variable {X : Cx} {st st' : St} {d : Nat} {t ty : TypeId} {x y : Operand} {pos : String} {af : Array Edge} {g : Option (Nat × Bool)} {ops : Array Oper} {l : List Oper} {k : List Foot → St → Prop} {Q : Exit → St → Prop}

inductive BackL (st : St) (args : List Arg) (rs : List Nat) : Nat → List (Option Arg) → Prop
  | nil {i} : BackL st args rs i []
  | none {i fs} (h : BackL st args rs (i + 1) fs) : BackL st args rs i (none :: fs)
  | some {i a a0 fs} (hs : (st i).sv = argSV a) (ha : argPin a = true) (h0 : args[i]? = some a0) (hp : argPin a0 = true) (hr : i ∉ rs) (h : BackL st args rs (i + 1) fs) : BackL st args rs i (some a :: fs)
theorem BackL.get {args : List Arg} {rs : List Nat} {i : Nat} {fs : List (Option Arg)} (h : BackL st args rs i fs) : ∀ (j : Nat) a, fs[j]? = Option.some (Option.some a) → (st (i + j)).sv = argSV a ∧ argPin a = true ∧ (∃ a0, args[i + j]? = Option.some a0 ∧ argPin a0 = true) ∧ i + j ∉ rs := by
  induction h with
  | nil => intro j a h; simp at h
  | none _ ih =>
    intro j a h
    cases j with
    | zero => simp at h
    | succ j => have := ih j a (by simpa using h); rwa [Nat.add_assoc, Nat.add_comm 1 j] at this
  | some hs ha h0 hp hr _ ih =>
    intro j a h
    cases j with
    | zero => simp at h; subst h; exact ⟨hs, ha, ⟨_, h0, hp⟩, hr⟩
    | succ j => have := ih j a (by simpa using h); rwa [Nat.add_assoc, Nat.add_comm 1 j] at this
theorem leavesF {fn : Func} {args : List Arg} {res : List (Bool × List T)} {fin : List (Option Arg)} (rs : List ResultVar) (h : fn.results = rs.toArray) (hn : (rs.map resSlot).Nodup) (hr : ResL X st rs res) (hb : BackL st args (rs.map resSlot) 0 fin) : Leaves X fn args res fin st := by
  have h1 := leaves_of (args := args) rs h hn hr
  refine ⟨h1.len, h1.each, h1.nodup, h1.cell, fun i a hi => ?_⟩
  obtain ⟨h2, h3, h4, h5⟩ := hb.get i a hi
  simp only [Nat.zero_add] at h2 h3 h4 h5
  exact ⟨h2, h3, h4, by rw [h]; simpa using h5⟩
theorem lenE {P : Program} {N s : Nat} {n m : Nat} (h : lenOf P N st s t = some (n : Int)) (e : n = m) : lenOf P N st s t = some (m : Int) := by subst e; exact h

/-- Some of a slot's cells, given to nobody: cell by cell. -/
inductive FrzR (J : List Nat) : Nat → List T → List T → Prop
  | nil {n} : FrzR J n [] []
  | keep {n t ts us} (hn : n ∉ J) (h : FrzR J (n + 1) ts us) : FrzR J n (t :: ts) (t :: us)
  | frz {n t u ts us} (hn : n ∈ J) (hw : t.whole = true) (hs : t.shr = u) (h : FrzR J (n + 1) ts us) : FrzR J n (t :: ts) (u :: us)
theorem FrzR.to {J : List Nat} {n : Nat} {ts us : List T} (h : FrzR J n ts us) : frzL J n ts = some us := by
  induction h with
  | nil => rfl
  | keep hn _ ih => simp [frzL, ih, hn]
  | frz hn hw hs _ ih => simp [frzL, ih, hn, hw, hs]
theorem ts?_map : ∀ ts : List T, ts? (ts.map .t) = some ts
  | [] => rfl
  | t :: ts => by simp [ts?, ts?_map ts]
theorem W_frzV {c : Code} {r : Nat} {ag : Bool} {ts us : List T} (J : List Nat) (h : (st r).sv = .val ag (ts.map .t)) (hf : FrzR J 0 ts us) (hW : W X c (st.put r (.val ag (us.map .t))) Q) : W X c st Q :=
  W_frz _ (J := J) h (by simp only [SV.frz, ts?_map, Option.bind_some, hf.to, Option.map_some]) hW
theorem W_frzB {c : Code} {r : Nat} {ts us : List T} (J : List Nat) (h : (st r).sv = .box ts) (hf : FrzR J 0 ts us) (hW : W X c (st.put r (.box us)) Q) : W X c st Q :=
  W_frz _ (J := J) h (by simp only [SV.frz, hf.to, Option.map_some]) hW
theorem WL_frzV {r : Nat} {ag : Bool} {ts us : List T} (J : List Nat) (h : (st r).sv = .val ag (ts.map .t)) (hf : FrzR J 0 ts us) (hW : WL X ops l (st.put r (.val ag (us.map .t))) Q) : WL X ops l st Q :=
  WL_frz _ (J := J) h (by simp only [SV.frz, ts?_map, Option.bind_some, hf.to, Option.map_some]) hW
theorem WL_frzB {r : Nat} {ts us : List T} (J : List Nat) (h : (st r).sv = .box ts) (hf : FrzR J 0 ts us) (hW : WL X ops l (st.put r (.box us)) Q) : WL X ops l st Q :=
  WL_frz _ (J := J) h (by simp only [SV.frz, hf.to, Option.map_some]) hW

/-- A function's results given to nobody. -/
theorem shr_rep {G : Nat → Own} {w : World} {k : Nat} {ag : Bool} {v : Value} {ts : List T} {G' : Nat → Own} (h : TsRep G w RES k ag v ts) (hw : wholel ts = true) (hp : ∀ b, G b = .pers → G' b = .pers) (ho : ∀ b ρ, G b = .at_ RES ρ → G' b = .pers) : TsRep G' w RES k ag v (shrl ts) := by
  obtain ⟨us, hpk, hl, hall⟩ := h
  refine ⟨us, hpk, by rw [shrl_map]; simpa using hl, fun j y u hy hu => ?_⟩
  rw [shrl_map, List.getElem?_map] at hy
  obtain ⟨y0, hy0, rfl⟩ := Option.map_eq_some_iff.1 hy
  exact (hall j y0 u hy0 hu).shr (wholel_mem hw y0 (List.mem_of_getElem? hy0)) (fun b hb => ⟨hp b hb, rfl⟩) fun b ρ hb => ⟨ho b _ hb, rfl⟩
theorem VC_shr {P : Program} {gn : FuncId} {args : List Arg} {res res' : List (Bool × List T)} {fin : List (Option Arg)} (h : VC P gn args res fin) (hw : ∀ p ∈ res, wholel p.2 = true) (hr : (res.map fun p => (p.1, shrl p.2)) = res') (hf : fin.length ≤ 1000) : VC P gn args res' fin := by
  subst hr
  intro G w vs hl ha ho
  refine (h G w vs hl ha ho).mono ?_
  rintro e w' ⟨v, G1, rfl, ⟨us, hv, hul, hall⟩, hfin, hB, hout⟩
  let G2 : Nat → Own := fun b => match G1 b with
    | .at_ s ρ => if s = RES then .pers else .at_ s ρ
    | o => o
  have hp : ∀ b, G1 b = .pers → G2 b = .pers := fun b h => by simp [G2, h]
  have hR : ∀ b ρ, G1 b = .at_ RES ρ → G2 b = .pers := fun b ρ h => by simp [G2, h]
  have hk : ∀ b s ρ, G1 b = .at_ s ρ → s ≠ RES → G2 b = .at_ s ρ := fun b s ρ h hs => by simp [G2, h, hs]
  refine ⟨v, G2, rfl, ⟨us, hv, by simpa using hul, fun kk p u hpp hu => ?_⟩, fun i a u hi hu => ?_, ⟨fun b h => ?_, fun b hb h => ?_, hB.size, hB.os, hB.tape, hB.output⟩, fun b hb => by simp [G2, hout b hb]⟩
  · rw [List.getElem?_map] at hpp
    obtain ⟨p0, hp0, rfl⟩ := Option.map_eq_some_iff.1 hpp
    exact shr_rep (hall kk p0 u hp0 hu) (hw p0 (List.mem_of_getElem? hp0)) hp hR
  · have hi' : i ≠ RES := by
      have h7 := (List.getElem?_eq_some_iff.1 hi).1
      have h9 : RES = 1000000 := rfl
      omega
    have h1 := hfin i a u hi hu
    have hm : ∀ b ρ, G1 b = .at_ i ρ → G2 b = .at_ i ρ ∧ w'.heap[b]? = w'.heap[b]? := fun b ρ h => ⟨hk b i ρ h hi', rfl⟩
    have hpp : ∀ b, G1 b = .pers → G2 b = .pers ∧ w'.heap[b]? = w'.heap[b]? := fun b h => ⟨hp b h, rfl⟩
    cases a with
    | sh ag ts =>
      obtain ⟨hf', us', hpk, hl', hall'⟩ := h1
      exact ⟨hf', us', hpk, hl', fun j y u hy hu => (hall' j y u hy hu).free (hf' y (List.mem_of_getElem? hy)) hpp⟩
    | mu cs =>
      obtain ⟨b, arr, ty', hv', hG, hb, hl', hall'⟩ := h1
      exact ⟨b, arr, ty', hv', (hm b _ hG).1, hb, hl', fun j t u hj hu => (hall' j t u hj hu).move hpp fun b ρ hb => hm b _ hb⟩
    | mv ag ts =>
      obtain ⟨us', hpk, hl', hall'⟩ := h1
      exact ⟨us', hpk, hl', fun j y u hy hu => (hall' j y u hy hu).move hpp fun b ρ hb => hm b _ hb⟩
    | bl T e x => exact BldRep.move h1 hm
  · have h2 := hB.pers b h; exact ⟨hp b h2.1, h2.2⟩
  · have h2 := hB.outer b hb h; exact ⟨by simp [G2, h2.1], h2.2⟩
end
end Go.V
namespace Go.V
open Go Go.RowKit

def w64 (x : Int) : Int := IntKind.i64.wrap x
def sEq (x y : ByteArray) : Bool := x.toList == y.toList
def sLt (x y : ByteArray) : Bool := Op.bytesLess x.toList y.toList

section
variable {X : Cx} {st st' : St} {d : Nat} {t ty : TypeId} {x y : Operand} {pos : String} {af : Array Edge} {g : Option (Nat × Bool)} {ops : Array Oper} {l : List Oper} {k : List Foot → St → Prop} {Q : Exit → St → Prop}

theorem lenMul {a b c d k n : Nat} (h1 : a = c) (h2 : b = d) (hp : (c + d) * k ≤ n) : (a + b) * k ≤ n := by subst h1; subst h2; exact hp
theorem app_map0 {α : Type} {f g : α → List T} (h : ∀ x, g x = f x) (xs : List α) : xs.map g = xs.map f := List.map_congr_left fun x _ => h x
theorem freeEls {α : Type} {f : α → List T} (h : ∀ x, (f x).all T.free = true) {xs : List α} : ∀ i j t, elAt (xs.map f) i j = some t → t.free = true := fun i j t he => by
  unfold elAt at he
  obtain ⟨row, hr, ht⟩ := Option.bind_eq_some_iff.1 he
  rw [List.getElem?_map] at hr
  obtain ⟨x, -, rfl⟩ := Option.map_eq_some_iff.1 hr
  exact List.all_eq_true.1 (h x) t (List.mem_of_getElem? ht)
theorem srcO {C R : List Nat} {st2 : St} {q r sz : Nat} {π : Path} {ys : List (List T)} (hN : q < X.N) (hR : (ownSlots st q).all R.contains = true) (h2 : ∀ s ∈ R, st2 s = st s) (ho : ownOf st q = some (r, π, sz, ys)) (hf : ∀ i j t, elAt ys i j = some t → t.free = true) : Srcs X st2 C sz (.tmp q) none ys := by
  have hag : ∀ s ∈ ownSlots st q, st2 s = st s := fun s hs => h2 s (by have := List.all_eq_true.1 hR s hs; simpa using this)
  obtain ⟨h3, h4⟩ := ownOf_ok (X := X) hN (by rw [ownOf_agree hag]; exact ho)
  exact .own h3 h4 hf

/-- A fresh builder. -/
theorem OS_allocB {e : TypeId} (hz : (X.P.info? t).bind (·.zero) = some (.agg #[.pointer none, .slice none 0 0])) (hf : X.free d = true) : OStep X ⟨some d, .alloc t, ty, pos, af, g⟩ st (st.put d (.bld t e ByteArray.empty)) := by
  rintro a w next Qx ⟨G, vals, hA⟩ hn
  have hr : (execOp a.eval ⟨some d, .alloc t, ty, pos, af, g⟩).run X.P w = .ok (.value (.pointer (some ⟨w.heap.size, 0, none⟩))) { w with heap := w.heap.push (.cells #[.pointer none, .slice none 0 0] t) } := by
    simp [execOp, Instr.alloc, newVar, newRow, run_zeroValue hz, Value.cells]
  unfold Oper.wp
  rw [hr, Oper.upon_value]
  have := hA.make1 (C := []) (mp := fun _ _ => none) (sv := .bld t e ByteArray.empty) (v := .pointer (some ⟨w.heap.size, 0, none⟩)) (c := #[.pointer none, .slice none 0 0]) (e := t) (n := w.drawn) (o := .at_ d []) hf (fun _ _ _ h => by cases h) (by simp) (fun G' w' _ _ _ _ hG hb =>
    ⟨w.heap.size, .pointer none, .slice none 0 0, rfl, hG, hb, .inl rfl, World.ownsRowF_nil _ _ _ _, by simp [Value.ownBlock], fun g h => by simp [Value.ownBlock] at h⟩)
  rw [kill_nil] at this
  exact hn _ _ ⟨_, _, this⟩
theorem dAllocB {el : TypeId} (hg : runs X.N ops st ⟨some d, .alloc t, ty, pos, af, g⟩ = true) (hf : X.free d = true) (hz : (X.P.info? t).bind (·.zero) = some (.agg #[.pointer none, .slice none 0 0])) {R' : List Nat} (hR : gslot ops ⟨some d, .alloc t, ty, pos, af, g⟩ = R') (hl : DL X ops l (applyP st [(d, .bld t el ByteArray.empty)]) (fun fs st' => k (⟨R', [(d, .bld t el ByteArray.empty)]⟩ :: fs) st')) : DL X ops (⟨some d, .alloc t, ty, pos, af, g⟩ :: l) st k := by
  subst hR
  refine DL_cons (R := gslot ops ⟨some d, .alloc t, ty, pos, af, g⟩ ++ []) (PStep.runs hg fun st2 _ => OS_allocB hz hf) (by simpa using hl)
end
end Go.V
namespace Go.V
open Go Go.RowKit

section
variable {X : Cx} {st st' : St} {d : Nat} {t ty : TypeId} {x y : Operand} {pos : String} {af : Array Edge} {g : Option (Nat × Bool)} {ops : Array Oper} {l : List Oper} {k : List Foot → St → Prop} {Q : Exit → St → Prop} {o : Oper} {ps : List (Nat × SV)}

theorem lookup_pin {l : List (Nat × Value)} {s : Nat} {v : Value} (h : l.lookup s = some v) : (s, v) ∈ l := by
  induction l with
  | nil => cases h
  | cons p l ih =>
    obtain ⟨q, u⟩ := p
    simp only [List.lookup] at h
    split at h
    · rename_i hb
      simp only [beq_iff_eq] at hb
      cases h
      subst hb
      exact .head _
    · exact .tail _ (ih h)

/-- A row of a parameter's: its value by name. -/
theorem W_hd {code : Code} {s j sz : Nat} {ag : Bool} {cs : List Cell} {els : List (List T)} {v0 : Value} (hp : X.pins.lookup s = some v0) (h : (st s).sv = .val ag cs) (hj : cs[j]? = some (.t (.sl true sz els))) (hW : ∀ A n c, packed ag v0 j = some (.slice A n c) → W X code st Q) : W X code st Q := fun a w hA => by
  obtain ⟨G, vals, hA'⟩ := hA
  have h0 := hA'.inv.slots s
  have hv := hA'.inv.pin _ (lookup_pin hp)
  simp only at hv
  rw [h] at h0
  obtain ⟨us, hpk, hul, hall⟩ := h0
  have hlt : j < us.length := by rw [hul]; exact (List.getElem?_eq_some_iff.1 hj).1
  have hu : us[j]? = some us[j] := List.getElem?_eq_getElem hlt
  have h1 : Rep G w s [(0, j)] us[j] (.sl true sz els) := hall j _ _ hj hu
  have h2 : packed ag v0 j = some us[j] := by rw [← hv, packed_of hpk, hu]
  generalize us[j] = u at h1 h2
  cases h1 with
  | nil => exact hW _ _ _ h2 a w ⟨G, vals, hA'⟩
  | own => exact hW _ _ _ h2 a w ⟨G, vals, hA'⟩

/-- A parameter's copy in memory: its rows by their values alone. -/
inductive HdL (ag : Bool) (v0 : Value) : Nat → List Cell → List T → Prop
  | nil {j} : HdL ag v0 j [] []
  | free {j y cs ts} (hf : y.free = true) (h : HdL ag v0 (j + 1) cs ts) : HdL ag v0 j (.t y :: cs) (y :: ts)
  | hd {j c A n c' cs ts} (hp : packed ag v0 j = some (.slice A n c')) (h : HdL ag v0 (j + 1) cs ts) : HdL ag v0 j (c :: cs) (.sc (.slice A n c') :: ts)
theorem HdL.get {ag : Bool} {v0 : Value} {j : Nat} {cs : List Cell} {ts : List T} (h : HdL ag v0 j cs ts) : cs.length = ts.length ∧ ∀ (i : Nat) c y, cs[i]? = some c → ts[i]? = some y → (c = .t y ∧ y.free = true) ∨ ∃ A n c', y = .sc (.slice A n c') ∧ packed ag v0 (j + i) = some (.slice A n c') := by
  induction h with
  | nil => exact ⟨rfl, fun i c y h => by simp at h⟩
  | free hf _ ih =>
    refine ⟨by simp [ih.1], fun i c y h1 h2 => ?_⟩
    cases i with
    | zero => simp at h1 h2; subst h1; subst h2; exact .inl ⟨rfl, hf⟩
    | succ i => have := ih.2 i c y (by simpa using h1) (by simpa using h2); rwa [Nat.add_assoc, Nat.add_comm 1 i] at this
  | hd hp _ ih =>
    refine ⟨by simp [ih.1], fun i c y h1 h2 => ?_⟩
    cases i with
    | zero => simp at h1 h2; subst h2; exact .inr ⟨_, _, _, rfl, hp⟩
    | succ i => have := ih.2 i c y (by simpa using h1) (by simpa using h2); rwa [Nat.add_assoc, Nat.add_comm 1 i] at this
theorem dBoxH {s : Nat} {ag : Bool} {cs : List Cell} {ts : List T} {v0 : Value} (hg : runs X.N ops st ⟨some d, .box t (.tmp s), ty, pos, af, g⟩ = true) (hf : X.free d = true) (hN : s < X.N) (hp : X.pins.lookup s = some v0) (hx : (st s).sv = .val ag cs) (hc : HdL ag v0 0 cs ts)
    {R' : List Nat} (hR : gslot ops ⟨some d, .box t (.tmp s), ty, pos, af, g⟩ ++ [s] = R') (hl : DL X ops l (applyP st [(d, .box ts)]) (fun fs st' => k (⟨R', [(d, .box ts)]⟩ :: fs) st')) : DL X ops (⟨some d, .box t (.tmp s), ty, pos, af, g⟩ :: l) st k := by
  subst hR
  refine DL_cons (PStep.runs hg fun st2 h2 => ?_) hl
  have h3 := hc.get
  have hh : ∀ y ∈ ts, y.here = true := fun y hy => by
    obtain ⟨i, hi⟩ := List.getElem?_of_mem hy
    have hlt : i < cs.length := by rw [h3.1]; exact (List.getElem?_eq_some_iff.1 hi).1
    rcases h3.2 i _ y (List.getElem?_eq_getElem hlt) hi with ⟨-, h4⟩ | ⟨A, n, c', rfl, -⟩
    · cases y <;> first | rfl | cases h4
    · rfl
  have := OS_box (X := X) (st := st2) (d := d) (t := t) (ty := ty) (pos := pos) (af := af) (g := g) (C := []) (mp := fun _ _ => none) (fun s j π h => by cases h) (by simp) (.hd hN (by rw [h2 s (by simp)]; exact hx) (lookup_pin hp) h3.1 fun j c y h4 h5 => by have := h3.2 j c y h4 h5; rwa [Nat.zero_add] at this) (fun _ => hh) hf
  rw [kill_nil] at this
  exact this

/-- Values of a parameter's rows, seen as the rows. -/
inductive Upg (X : Cx) (st : St) : List Cell → List Cell → Prop
  | nil : Upg X st [] []
  | same {c cs cs'} (h : Upg X st cs cs') : Upg X st (c :: cs) (c :: cs')
  | up {A n c s j kk ag cs0 v0 sz els cs cs'} (hp : X.pins.lookup s = some v0) (h0 : (st s).sv = .val ag cs0) (hj : cs0[j]? = some (.t (.sl true sz els))) (hv : packed ag v0 j = some (.slice A n c)) (hk : (st s).ver = kk) (h : Upg X st cs cs') :
      Upg X st (.t (.sc (.slice A n c)) :: cs) (.ref s kk [(0, j)] :: cs')
theorem Upg.cell {a : Act} {w : World} {G : Nat → Own} {vals : Nat → Value} (hA : Alls X st a w G vals) {cs cs' : List Cell} (h : Upg X st cs cs') : cs'.length = cs.length ∧ ∀ (i : Nat) c' , cs'[i]? = some c' → ∃ c, cs[i]? = some c ∧ ∀ (q i' : Nat) u, CellRep G w st vals q 0 i' u c → CellRep G w st vals q 0 i' u c' := by
  induction h with
  | nil => exact ⟨rfl, fun i c' h => by simp at h⟩
  | same _ ih =>
    refine ⟨by simp [ih.1], fun i c' h => ?_⟩
    cases i with
    | zero => simp at h; subst h; exact ⟨_, rfl, fun _ _ _ h => h⟩
    | succ i => simpa using ih.2 i c' (by simpa using h)
  | @up A n c s j kk ag cs0 v0 sz els cs cs' hp h0 hj hv hk _ ih =>
    refine ⟨by simp [ih.1], fun i c' h => ?_⟩
    cases i with
    | zero =>
      simp at h
      subst h
      refine ⟨_, rfl, fun q i' u h => ?_⟩
      have h1 : Rep G w q [(0, i')] u (.sc (.slice A n c)) := h
      cases h1
      refine ⟨by omega, fun _ => ⟨sz, els, ?_⟩⟩
      have hvp := hA.inv.pin _ (lookup_pin hp)
      simp only at hvp
      refine place_one (by rw [h0]; simp [SV.cell, hj]) ?_
      rw [h0, hvp]
      simp [cellVal, hv]
    | succ i => simpa using ih.2 i c' (by simpa using h)
theorem All_upg {a : Act} {w : World} {ag : Bool} {cs cs' : List Cell} (hA : All X st a w) (h : (st d).sv = .val ag cs) (hu : Upg X st cs cs') (hd : ∀ p ∈ X.pins, p.1 ≠ d) : All X (st.put d (.val ag cs')) a w := by
  obtain ⟨G, vals, hA⟩ := hA
  refine ⟨G, vals, hA.step (K := fun q => q = d) (fun s hs => put_ne _ _ hs) (fun _ _ => rfl) (fun s hs => by subst hs; rw [put_same]; simp) ?_ ?_ ?_ hA.inv.alloc hA.inv.pin (Nat.le_refl _) rfl rfl rfl hA.defers hA.size hA.link⟩
  · rintro b (h | ⟨h, -⟩) <;> exact ⟨rfl, rfl⟩
  · intro b s ρ hb hs; exact ⟨hb, rfl⟩
  · rintro hp s rfl
    rw [put_same]
    have h0 := hA.inv.slots s
    rw [h] at h0
    obtain ⟨us, hpk, hul, hall⟩ := h0
    obtain ⟨h1, h2⟩ := hu.cell hA
    refine ⟨us, hpk, by omega, fun j c' u hc hu' => ?_⟩
    obtain ⟨c, hc0, h3⟩ := h2 j c' hc
    have h4 := h3 s j u (hall j c u hc0 hu')
    cases c' with
    | t x => exact h4
    | ref r ver π =>
      obtain ⟨hle, h5⟩ := h4
      by_cases hr : r = s
      · subst hr
        exact ⟨by rw [put_same]; exact Nat.le_succ_of_le hle, fun e => by rw [put_same] at e; simp only at e; omega⟩
      · refine ⟨by rw [put_ne _ _ hr]; exact hle, fun e => ?_⟩
        rw [put_ne _ _ hr] at e
        obtain ⟨sz, els, hpl⟩ := h5 e
        refine ⟨sz, els, ?_⟩
        rw [place_keep hA.inv (put_ne _ _ hr) rfl fun b ρ hb => rfl]
        exact hpl
theorem dqU {ag : Bool} {cs cs' : List Cell} (R : List Nat) (hg : runs X.N ops st o = true) (hd : X.free d = true) (h : patchF X.P X.N X.free st o = some [(d, .val ag cs)]) (hRs : (readsF st o).all R.contains = true) (hu : ∀ st2 : St, (∀ s ∈ R, st2 s = st s) → Upg X (st2.put d (.val ag cs)) cs cs')
    {R' : List Nat} (hR : gslot ops o ++ R = R') (hl : DL X ops l (applyP st [(d, .val ag cs), (d, .val ag cs')]) (fun fs st' => k (⟨R', [(d, .val ag cs), (d, .val ag cs')]⟩ :: fs) st')) : DL X ops (o :: l) st k := by
  subst hR
  refine DL_cons (PStep.runs hg fun st2 h2 => ?_) hl
  have hag : ∀ s ∈ readsF st o, st2 s = st s := fun s hs => h2 s (by have := List.all_eq_true.1 hRs s hs; simpa using this)
  have h3 := patch_step (X := X) (st := st2) (o := o) (ps := [(d, .val ag cs)]) (by rw [patch_agree hag]; exact h)
  intro a w next Qx hA hn
  refine h3 a w next Qx hA fun a' w' hA' => hn a' w' ?_
  refine All_upg (d := d) hA' ?_ (hu st2 h2) (fun p hp e => by
    have := List.all_eq_true.1 hd p hp
    simp [e] at this)
  show ((st2.put d (.val ag cs)) d).sv = _
  rw [put_same]
end

/-- What a list says of a slot. -/
def lkF (s : Nat) : List (Nat × SV) → Option SV
  | [] => none
  | (q, x) :: l => bif Nat.beq q s then some x else lkF s l
theorem FN_get {st : St} {s : Nat} {x : SV} : ∀ {l : List (Nat × SV)}, FN st l → lkF s l = some x → (st s).sv.norm st = x
  | [], _, h => by simp [lkF] at h
  | (q, y) :: l, hf, h => by
    rw [lkF] at h
    by_cases e : q = s
    · subst e
      rw [Nat.beq_refl] at h
      cases h
      exact hf (q, _) (.head _)
    · have : Nat.beq q s = false := by
        cases hb : Nat.beq q s with
        | false => rfl
        | true => exact absurd (Nat.eq_of_beq_eq_true hb) e
      rw [this] at h
      exact FN_get (fun p hp => hf p (.tail _ hp)) h
end Go.V
namespace Go.V
open Go Go.RowKit

section
variable {X : Cx} {st : St} {d : Nat} {t t' ty : TypeId} {x y z : Operand} {pos : String} {af : Array Edge} {g : Option (Nat × Bool)} {ops : Array Oper} {l : List Oper} {k : List Foot → St → Prop}

/-- Where what slots own goes, place by place. -/
def mpB (base : Nat → Path) (L : List (Nat × Nat)) (q j : Nat) : Option Path := (L.lookup q).map fun off => base (off + j)
theorem mpB_within (base : Nat → Path) (L : List (Nat × Nat)) : Within (L.map (·.1)) (mpB base L) := fun s j π h => by
  unfold mpB at h
  obtain ⟨off, h1, -⟩ := Option.map_eq_some_iff.1 h
  exact lookup_mem L h1
theorem GivesF.toB (base : Nat → Path) {L : List (Nat × Nat)} {off : Nat} {ag : Bool} {ts : List T} (h : GivesF X st L off x ag ts) : Gives X st (L.map (·.1)) (mpB base L) (fun j => base (off + j)) x ag ts := by
  cases h with
  | nilc => exact .nil
  | free h hf => exact .free h (freeAll hf)
  | ref hN h hr =>
    refine .ref hN h hr.get.1 fun j c y hc hy => ?_
    rcases hr.get.2 j c y hc hy with h1 | ⟨r, h1, h2, h3⟩
    · exact .inl h1
    · rw [Nat.zero_add] at h1 h2
      exact .inr ⟨r, j, h1, h2, by simp [mpB, h3]⟩
  | own hN h hL => exact .own hN (lookup_mem L hL) h fun j _ => by simp [mpB, hL]
theorem PartsF.toB (base : Nat → Path) {L : List (Nat × Nat)} {pl : Nat → Option (Nat × Nat)} {ps : List (Nat × Operand)} {qs : List (Nat × List T)} (h : PartsF X st L pl ps qs) : Parts X st (L.map (·.1)) (mpB base L) pl base ps qs := by
  induction h with
  | nil => exact .nil
  | cons hp h h1 _ ih => exact .cons hp (h.toB base) (fun _ => List.all_eq_true.1 h1) ih
theorem dBSO {e : TypeId} {sz n : Nat} {ts zs : List T} {els : List (List T)} {parts : List (Nat × Operand)} {qs : List (Nat × List T)} (L : List (Nat × Nat)) (R : List Nat) (hg : runs X.N ops st ⟨some d, .buildSlice t n parts.toArray, ty, pos, af, g⟩ = true) (hf : X.free d = true) (he : elem? X.P t = some (e, sz)) (hz : Zeros X.P e zs) (hzl : zs.length = sz) (hsz : Nat.ble 1 sz = true) (hn : Nat.ble (n * sz) 16777216 = true) (hL : (L.map (·.1)).Nodup ∧ d ∉ L.map (·.1))
    (hts : fillL (fun i => some (i * sz, sz)) ((List.range (n * sz)).map fun i => (zs[i % sz]?).getD .gone) qs = some ts) (hels : chop sz n ts = els) (hx : ∀ st2 : St, (∀ q ∈ R, st2 q = st q) → PartsF X st2 L (fun i => some (i * sz, sz)) parts qs)
    {R' : List Nat} (hR : gslot ops ⟨some d, .buildSlice t n parts.toArray, ty, pos, af, g⟩ ++ R = R') (hl : DL X ops l (applyP st (L.map (fun p => (p.1, .dead)) ++ [(d, one (.sl true sz els))])) (fun fs st' => k (⟨R', L.map (fun p => (p.1, .dead)) ++ [(d, one (.sl true sz els))]⟩ :: fs) st')) : DL X ops (⟨some d, .buildSlice t n parts.toArray, ty, pos, af, g⟩ :: l) st k := by
  subst hR
  subst hels
  refine DL_cons (PStep.runs hg fun st2 h2 => ?_) hl
  have h1 := OS_buildSlice (X := X) (st := st2) (d := d) (ty := ty) (pos := pos) (af := af) (g := g) he hz hzl (by have := Nat.le_of_ble_eq_true hsz; omega) (Nat.le_of_ble_eq_true hn) (mpB_within (fun j => [(0, 0), (j / sz, j % sz)]) L) hL.2 ((hx st2 h2).toB _) hts hf
  rw [applyP_app, show L.map (fun p => (p.1, SV.dead)) = (L.map (·.1)).map (fun s => (s, SV.dead)) by simp, kill_apply _ _ hL.1]
  exact h1

/-- A tuple's copy: its rows stay where they are. -/
def copiesT (t ver : Nat) : Nat → List (Bool × List Cell) → List (Bool × List Cell)
  | _, [] => []
  | i, p :: vs => (p.1, copies t ver i 0 p.2) :: copiesT t ver (i + 1) vs
theorem copiesT_len (t ver : Nat) : ∀ (vs : List (Bool × List Cell)) (i : Nat), (copiesT t ver i vs).length = vs.length
  | [], _ => rfl
  | _ :: vs, i => by simp [copiesT, copiesT_len t ver vs (i + 1)]
theorem copiesT_get (t ver : Nat) : ∀ (vs : List (Bool × List Cell)) (i k : Nat), (copiesT t ver i vs)[k]? = (vs[k]?).map fun p => (p.1, copies t ver (i + k) 0 p.2)
  | [], _, _ => by simp [copiesT]
  | p :: vs, i, 0 => by simp [copiesT]
  | p :: vs, i, k + 1 => by simp [copiesT, copiesT_get t ver vs (i + 1) k, Nat.add_comm, Nat.add_left_comm]
theorem OS_move_tup {s : Nat} {vs : List (Bool × List Cell)} (hN : s < X.N) (hs : s ≠ d) (hsv : (st s).sv = .tup vs) (hf : X.free d = true) : OStep X ⟨some d, .move (.tmp s), ty, pos, af, g⟩ st (st.put d (.tup (copiesT s (st s).ver 0 vs))) := by
  refine OStep.value rfl hf fun a w G vals hA => ⟨vals s, ?_, ?_⟩
  · simp only [execOp]
    rw [show a.eval (.tmp s) = vals s from hA.link s hN]
    rfl
  · have h0 := hA.inv.slots s
    rw [hsv] at h0
    obtain ⟨arr, hv, hl, hall⟩ := h0
    refine ⟨arr, hv, by rw [copiesT_len]; exact hl, fun k p u hp hu => ?_⟩
    rw [copiesT_get] at hp
    obtain ⟨p0, hp0, rfl⟩ := Option.map_eq_some_iff.1 hp
    obtain ⟨us, hpk, hul, hall'⟩ := hall k p0 u hp0 hu
    refine ⟨us, hpk, by simp only [copies_len]; exact hul, fun j c u' hc hu' => ?_⟩
    simp only [copies_get] at hc
    obtain ⟨c0, hc0, rfl⟩ := Option.map_eq_some_iff.1 hc
    rw [Nat.zero_add, Nat.zero_add]
    refine cellRep_copy hA hs (hall' j c0 u' hc0 hu') (by rw [hsv]; simp [SV.cell, hp0, hc0]) ?_
    rw [hsv]
    simp only [cellVal, hv, hp0, hu, Option.bind_some, packed_of hpk, hu']
/-- A component of a tuple, its rows left where they are. -/
theorem OS_extract_ref {s i : Nat} {ag : Bool} {cs : List Cell} {vs : List (Bool × List Cell)} (hN : s < X.N) (hs : s ≠ d) (hsv : (st s).sv = .tup vs) (hi : vs[i]? = some (ag, cs)) (hf : X.free d = true) :
    OStep X ⟨some d, .extract (.tmp s) i, ty, pos, af, g⟩ st (st.put d (.val ag (copies s (st s).ver i 0 cs))) := by
  refine OStep.value rfl hf fun a w G vals hA => ?_
  have he : a.eval (.tmp s) = vals s := hA.link s hN
  have h0 := hA.inv.slots s
  rw [hsv] at h0
  obtain ⟨arr, hv, hl, hall⟩ := h0
  have hlt : i < arr.size := by rw [hl]; exact (List.getElem?_eq_some_iff.1 hi).1
  have hu : arr[i]? = some arr[i] := Array.getElem?_eq_getElem hlt
  obtain ⟨us, hpk, hul, hall'⟩ := hall i _ _ hi hu
  refine ⟨arr[i], ?_, us, hpk, by rw [copies_len]; exact hul, fun j c u hc huj => ?_⟩
  · simp only [execOp, he, hv]
    refine run_value ?_
    simp [Instr.extract, hu]
  · rw [copies_get] at hc
    obtain ⟨c0, hc0, rfl⟩ := Option.map_eq_some_iff.1 hc
    rw [Nat.zero_add]
    refine cellRep_copy hA hs (hall' j c0 u hc0 huj) (by rw [hsv]; simp [SV.cell, hi, hc0]) ?_
    rw [hsv]
    simp only [cellVal, hv, hi, hu, Option.bind_some, packed_of hpk, huj]
theorem dMvT {s v : Nat} {vs vs' : List (Bool × List Cell)} (hg : runs X.N ops st ⟨some d, .move (.tmp s), ty, pos, af, g⟩ = true) (hf : X.free d = true) (hN : s < X.N) (hd : (s == d) = false) (hsv : (st s).sv = .tup vs) (hv : (st s).ver = v) (hr : copiesT s v 0 vs = vs')
    {R' : List Nat} (hR : gslot ops ⟨some d, .move (.tmp s), ty, pos, af, g⟩ ++ [s] = R') (hl : DL X ops l (applyP st [(d, .tup vs')]) (fun fs st' => k (⟨R', [(d, .tup vs')]⟩ :: fs) st')) : DL X ops (⟨some d, .move (.tmp s), ty, pos, af, g⟩ :: l) st k := by
  subst hR
  subst hr
  subst hv
  refine DL_cons (PStep.runs hg fun st2 h2 => ?_) hl
  have h3 := h2 s (by simp)
  have := OS_move_tup (X := X) (st := st2) (d := d) (ty := ty) (pos := pos) (af := af) (g := g) hN (fun h => by simp [h] at hd) (by rw [h3]; exact hsv) hf
  rw [h3] at this
  exact this
theorem dExtRef {s i v : Nat} {ag : Bool} {cs : List Cell} {vs : List (Bool × List Cell)} {sv : SV} (hg : runs X.N ops st ⟨some d, .extract (.tmp s) i, ty, pos, af, g⟩ = true) (hf : X.free d = true) (hN : s < X.N) (hd : (s == d) = false) (hsv : (st s).sv = .tup vs) (hi : vs[i]? = some (ag, cs)) (hv : (st s).ver = v) (hr : SV.val ag (copies s v i 0 cs) = sv)
    {R' : List Nat} (hR : gslot ops ⟨some d, .extract (.tmp s) i, ty, pos, af, g⟩ ++ [s] = R') (hl : DL X ops l (applyP st [(d, sv)]) (fun fs st' => k (⟨R', [(d, sv)]⟩ :: fs) st')) : DL X ops (⟨some d, .extract (.tmp s) i, ty, pos, af, g⟩ :: l) st k := by
  subst hR
  subst hr
  subst hv
  refine DL_cons (PStep.runs hg fun st2 h2 => ?_) hl
  have h3 := h2 s (by simp)
  have := OS_extract_ref (X := X) (st := st2) (d := d) (ty := ty) (pos := pos) (af := af) (g := g) hN (fun h => by simp [h] at hd) (by rw [h3]; exact hsv) hi hf
  rw [h3] at this
  exact this
end
end Go.V
namespace Go.V
open Go Go.RowKit

/-- All that stands is nobody's. -/
def rowG (w : World) : Nat → Own := fun b => if b < w.heap.size then .pers else .outer
def RdC (w : World) (cs : List Value) (ts : List T) : Prop :=
  cs.length = ts.length ∧ ∀ (j : Nat) v y, cs[j]? = some v → ts[j]? = some y → y.free = true ∧ ∀ s π, Rep (rowG w) w s π v y

section
variable {H : Type} {enc : TypeId × Value → H} {P : Program} {w : World} {t : TypeId} {α β γ : Type}

theorem RdC_app {a b : List Value} {ts us : List T} (h : RdC w a ts) (h' : RdC w b us) : RdC w (a ++ b) (ts ++ us) := by
  refine ⟨by simp [h.1, h'.1], fun j v y hv hy => ?_⟩
  by_cases hj : j < a.length
  · rw [List.getElem?_append_left hj] at hv
    rw [List.getElem?_append_left (by rw [← h.1]; exact hj)] at hy
    exact h.2 j v y hv hy
  · rw [List.getElem?_append_right (by omega)] at hv
    rw [List.getElem?_append_right (by rw [← h.1]; omega), ← h.1] at hy
    exact h'.2 _ v y hv hy
theorem RdC_one {v : Value} {y : T} (hf : y.free = true) (h : ∀ s π, Rep (rowG w) w s π v y) : RdC w [v] [y] := ⟨rfl, fun j u z hu hz => by
  cases j with
  | zero => simp at hu hz; subst hu; subst hz; exact ⟨hf, h⟩
  | succ j => simp at hu⟩

/-- What reads at a type: a typed value, within its bounds. -/
def Rd (enc : TypeId × Value → H) (P : Program) (w : World) (t : TypeId) (c : α → List T) (ok : α → Prop) : Prop :=
  ∀ fuel cs x, DataW.trod enc P w 0 (fun _ => true) true fuel t cs = some x → ∃ a : α, ok a ∧ RdC w cs (c a)

def okI (k : IntKind) (n : Int) : Prop := (Lit.int k n).wf = true
def okS (s : ByteArray) : Prop := s.size ≤ maxLen
def okB (_ : Bool) : Prop := True
def okL (ok : α → Prop) (xs : List α) : Prop := xs.length ≤ maxLen ∧ ∀ x ∈ xs, ok x

theorem rd_int {k : IntKind} (ht : P.underlying t = some (.int k)) : Rd enc P w t (cI k false) (okI k) := fun fuel cs x h => by
  obtain ⟨n, rfl, -, hw⟩ := DataW.trod_int ht h
  exact ⟨n, hw, RdC_one rfl fun s π => .sc rfl⟩
theorem rd_bool (ht : P.underlying t = some .bool) : Rd enc P w t (cB false) okB := fun fuel cs x h => by
  obtain ⟨b, rfl, -⟩ := DataW.trod_bool ht h
  exact ⟨b, trivial, RdC_one rfl fun s π => .sc rfl⟩
theorem rd_str (ht : P.underlying t = some .string) : Rd enc P w t (cS false) okS := fun fuel cs x h => by
  obtain ⟨b, rfl, -, hb⟩ := DataW.trod_string ht h
  exact ⟨b, hb, RdC_one rfl fun s π => .sc rfl⟩

theorem rd_list {e : TypeId} {n : Nat} {c : α → List T} {ok : α → Prop} (ht : P.underlying t = some (.slice e)) (hn : P.cellsOf e = n) (hn0 : Nat.ble 1 n = true) (hl : ∀ a, (c a).length = n) (he : Rd enc P w e c ok) :
    Rd enc P w t (fun xs : List α => [.sl false n (xs.map c)]) (okL ok) := fun fuel cs x h => by
  have hn1 := Nat.le_of_ble_eq_true hn0
  rcases DataW.trod_slice ht h with ⟨rfl, -⟩ | ⟨a, len, cap, elems, rest, m, -, rfl, -, hb, hlc, hcm, hel, hall, hrest, -⟩
  · exact ⟨[], ⟨by simp [maxLen], by simp⟩, RdC_one rfl fun s π => .nil⟩
  · obtain ⟨hrl, hrall⟩ := hrest rfl
    by_cases h0 : cap = 0
    · subst h0
      obtain rfl : len = 0 := by omega
      exact ⟨[], ⟨by simp [maxLen], by simp⟩, RdC_one rfl fun s π => .nil⟩
    · -- its first cell exists
      have cell0 : ∃ cs0, w.cells? 0 (a.add 0) n = some cs0 := by
        by_cases hl0 : len = 0
        · subst hl0
          have h1 := hrall 0 (by omega)
          have hlt : 0 < rest.length := by omega
          rw [List.getElem?_eq_getElem hlt] at h1
          obtain ⟨y, hy, -⟩ := Option.bind_eq_some_iff.1 h1
          rw [hn] at hy
          exact ⟨y, by simpa using hy⟩
        · have h1 := hall 0 (by omega)
          have hlt : 0 < elems.length := by omega
          rw [List.getElem?_eq_getElem hlt] at h1
          obtain ⟨y, hy, -⟩ := Option.bind_eq_some_iff.1 h1
          rw [hn] at hy
          exact ⟨y, by simpa using hy⟩
      obtain ⟨cs0, hcs0⟩ := cell0
      obtain ⟨b, o, spot⟩ := a
      obtain ⟨-, hlen0, hcell0⟩ := World.cells?_some hcs0
      have g0 := hcell0 0 (by omega)
      obtain ⟨c0, hc0⟩ : ∃ c0, cs0[0]? = some c0 := ⟨_, List.getElem?_eq_getElem (by omega)⟩
      rw [hc0] at g0
      have hspot : spot = none := by
        have := World.cell?_spot g0
        simpa [Addr.add] using this
      subst hspot
      have hbl : b < w.heap.size := by
        simp only [Addr.add] at g0
        have : w.cell? ⟨b, o, none⟩ = some c0 := by simpa using g0
        simp only [World.cell?] at this
        cases hh : w.heap[b]? with
        | none => simp [hh] at this
        | some ob => exact (Array.getElem?_eq_some_iff.1 hh).1
      -- the elements
      have each : ∀ i, i < len → ∃ z : α, ok z ∧ ∃ cs : List Value, RdC w cs (c z) ∧ ∀ j, j < n → w.cell? ⟨b, o + i * n + j, none⟩ = cs[j]? := by
        intro i hi
        have h1 := hall i hi
        have hlt : i < elems.length := by omega
        rw [List.getElem?_eq_getElem hlt] at h1
        obtain ⟨y, hy, h2⟩ := Option.bind_eq_some_iff.1 h1
        rw [hn] at hy
        obtain ⟨z, hz, hr⟩ := he m y _ h2
        refine ⟨z, hz, y, hr, fun j hj => ?_⟩
        obtain ⟨-, hl2, hc2⟩ := World.cells?_some hy
        have := hc2 j hj
        rw [← this]
        congr 1
        simp only [addr_add]
      have pick : ∃ xs : List α, xs.length = len ∧ ∀ i z, xs[i]? = some z → ok z ∧ ∃ cs : List Value, RdC w cs (c z) ∧ ∀ j, j < n → w.cell? ⟨b, o + i * n + j, none⟩ = cs[j]? := by
        clear hall hel hlc hrl hrall hrest h
        induction len with
        | zero => exact ⟨[], rfl, fun i z h => by simp at h⟩
        | succ len ih =>
          obtain ⟨xs, hxl, hx⟩ := ih (fun i hi => each i (by omega))
          obtain ⟨z, hz⟩ := each len (by omega)
          refine ⟨xs ++ [z], by simp [hxl], fun i z' h => ?_⟩
          by_cases hi : i < xs.length
          · rw [List.getElem?_append_left hi] at h; exact hx i z' h
          · rw [List.getElem?_append_right (by omega)] at h
            have : i - xs.length = 0 := by
              have := (List.getElem?_eq_some_iff.1 h).1
              simp at this
              omega
            rw [this] at h
            simp at h
            subst h
            rw [show i = len by omega]
            exact hz
      obtain ⟨xs, hxl, hx⟩ := pick
      refine ⟨xs, ⟨by omega, fun z hz => ?_⟩, RdC_one rfl fun s π => ?_⟩
      · obtain ⟨i, hi⟩ := List.getElem?_of_mem hz
        exact (hx i z hi).1
      · have hel' : ∀ (i j : Nat) t, elAt (xs.map c) i j = some t → j < n ∧ ∃ u, w.cell? ⟨b, o + i * n + j, none⟩ = some u ∧ t.free = true ∧ ∀ s π, Rep (rowG w) w s π u t := by
          intro i j t he
          unfold elAt at he
          obtain ⟨row, hr, ht'⟩ := Option.bind_eq_some_iff.1 he
          rw [List.getElem?_map] at hr
          obtain ⟨z, hz, rfl⟩ := Option.map_eq_some_iff.1 hr
          obtain ⟨-, cs, ⟨hcl, hcall⟩, hcell⟩ := hx i z hz
          have hj : j < n := by have := (List.getElem?_eq_some_iff.1 ht').1; rw [hl z] at this; exact this
          have hjc : j < cs.length := by rw [hcl, hl z]; exact hj
          have hu : cs[j]? = some cs[j] := List.getElem?_eq_getElem hjc
          have := hcall j _ t hu ht'
          exact ⟨hj, cs[j], by rw [hcell j hj, hu], this.1, this.2⟩
        refine .shd (fun i j => (w.cell? ⟨b, o + i * n + j, none⟩).getD default) (by simp [rowG, hbl]) (by simp [hxl]) hlc (fun r hr => ?_) (fun i j t h => (hel' i j t h).2.choose_spec.2.1) (fun i j t h => ?_) (fun i j t h => ?_)
        · obtain ⟨z, -, rfl⟩ := List.mem_map.1 hr; exact hl z
        · obtain ⟨-, u, hu, -⟩ := hel' i j t h; rw [hu]; rfl
        · obtain ⟨-, u, hu, -, hrep⟩ := hel' i j t h; rw [hu]; exact hrep _ _

def RdFs (enc : TypeId × Value → H) (P : Program) (w : World) (fs : List Field) (o k : Nat) (c : γ → List T) (ok : γ → Prop) : Prop :=
  ∀ n (cs : List Value), (∀ (i : Nat) (f : Field), fs[i]? = some f → ∃ x, DataW.trod enc P w 0 (fun _ => true) true n f.type ((cs.drop f.offset).take (P.cellsOf f.type)) = some x) → ∃ a : γ, ok a ∧ RdC w ((cs.drop o).take k) (c a)
theorem rdNil {o : Nat} : RdFs enc P w [] o 0 (fun _ : Unit => []) (fun _ => True) := fun n cs _ => ⟨(), trivial, by simp [RdC]⟩
theorem rdCons {f : Field} {fs : List Field} {o n k : Nat} {c : α → List T} {c' : γ → List T} {ok : α → Prop} {ok' : γ → Prop} (h : Rd enc P w f.type c ok) (ho : f.offset = o) (hn : P.cellsOf f.type = n) (hr : RdFs enc P w fs (o + n) k c' ok') :
    RdFs enc P w (f :: fs) o (n + k) (fun x : α × γ => c x.1 ++ c' x.2) (fun x => ok x.1 ∧ ok' x.2) := fun m cs hall => by
  obtain ⟨x, hx⟩ := hall 0 f rfl
  obtain ⟨a, ha, hra⟩ := h m _ _ hx
  obtain ⟨b, hb, hrb⟩ := hr m cs fun i f' hf => hall (i + 1) f' (by simpa using hf)
  refine ⟨(a, b), ⟨ha, hb⟩, ?_⟩
  rw [ho, hn] at hra
  have : (cs.drop o).take (n + k) = (cs.drop o).take n ++ (cs.drop (o + n)).take k := by
    rw [List.take_add, List.drop_drop]
  rw [this]
  exact RdC_app hra hrb
theorem rdStruct {fs : List Field} {k : Nat} {c : γ → List T} {ok : γ → Prop} (ht : P.underlying t = some (.struct fs.toArray)) (hk : P.cellsOf t = k) (h : RdFs enc P w fs 0 k c ok) : Rd enc P w t c ok := fun fuel cs x hx => by
  obtain ⟨xs, n, rfl, -, hlen, hxl, hall⟩ := DataW.trod_struct ht hx
  obtain ⟨a, ha, hr⟩ := h n cs fun i f hf => by
    have h1 := hall i f (by simpa using hf)
    have hlt : i < xs.length := by rw [hxl]; simpa using (List.getElem?_eq_some_iff.1 hf).1
    exact ⟨xs[i], by rw [h1]; exact List.getElem?_eq_getElem hlt⟩
  refine ⟨a, ha, ?_⟩
  rw [List.drop_zero, List.take_of_length_le (by omega)] at hr
  exact hr
theorem rdMap {c : α → List T} {c' : β → List T} {ok : α → Prop} {ok' : β → Prop} (h : Rd enc P w t c ok) (f : α → β) (hc : ∀ a, c' (f a) = c a) (hok : ∀ a, ok a → ok' (f a)) : Rd enc P w t c' ok' := fun fuel cs x hx => by
  obtain ⟨a, ha, hr⟩ := h fuel cs x hx
  exact ⟨f a, hok a ha, by rw [hc]; exact hr⟩

theorem arg_agg {i : Nat} {cs : Array Value} {ts : List T} (h : RdC w cs.toList ts) : ArgRep (rowG w) w i (.agg cs) (.sh true ts) := by
  refine ⟨fun y hy => ?_, cs.toList, by simp [Pack], h.1, fun j y u hy hu => (h.2 j u y hu hy).2 _ _⟩
  obtain ⟨j, hj⟩ := List.getElem?_of_mem hy
  have hlt : j < cs.toList.length := by rw [h.1]; exact (List.getElem?_eq_some_iff.1 hj).1
  exact (h.2 j _ y (List.getElem?_eq_getElem hlt) hj).1
theorem arg_one {i : Nat} {v : Value} {ts : List T} (h : RdC w [v] ts) : ArgRep (rowG w) w i v (.sh false ts) := by
  refine ⟨fun y hy => ?_, [v], rfl, h.1, fun j y u hy hu => (h.2 j u y hu hy).2 _ _⟩
  obtain ⟨j, hj⟩ := List.getElem?_of_mem hy
  have hlt : j < [v].length := by rw [h.1]; exact (List.getElem?_eq_some_iff.1 hj).1
  exact (h.2 j _ y (List.getElem?_eq_getElem hlt) hj).1

/-- A law's contract: it answers true, and what stood stands. -/
theorem law_calls {g : FuncId} {args : List Arg} {vs : List Value} (hV : VC P g args [(false, cB true true)] []) (hl : vs.length = args.length) (ha : ∀ (i : Nat) a v, args[i]? = some a → vs[i]? = some v → ArgRep (rowG w) w i v a) :
    Calls P g vs.toArray w fun e w' => e = .returned (.bool true) ∧ Below w.heap.size w w' := by
  refine (hV (rowG w) w vs hl ha (fun b hb => by simp [rowG]; omega)).mono ?_
  rintro e w' ⟨v, G', rfl, ⟨us, rfl, hul, hall⟩, -, hB, -⟩
  refine ⟨?_, ⟨hB.os, hB.tape, hB.output, hB.size, fun k hk => (hB.pers k (by simp [rowG, hk])).2⟩⟩
  match us, hul with
  | [u], _ =>
    obtain ⟨us', hpk, hl', hall'⟩ := hall 0 _ u rfl rfl
    match us', hl' with
    | [u'], _ =>
      have h1 := hall' 0 _ u' rfl rfl
      have h2 : [u'] = [u] := hpk
      cases h2
      cases h1
      rfl
inductive ArgsL (w : World) : Nat → List Arg → List Value → Prop
  | nil {i} : ArgsL w i [] []
  | cons {i a v as vs} (h : ArgRep (rowG w) w i v a) (hl : ArgsL w (i + 1) as vs) : ArgsL w i (a :: as) (v :: vs)
theorem ArgsL.get {i : Nat} {as : List Arg} {vs : List Value} (h : ArgsL w i as vs) : vs.length = as.length ∧ ∀ (j : Nat) a v, as[j]? = some a → vs[j]? = some v → ArgRep (rowG w) w (i + j) v a := by
  induction h with
  | nil => exact ⟨rfl, fun j a v h => by simp at h⟩
  | cons h _ ih =>
    refine ⟨by simp [ih.1], fun j a v h1 h2 => ?_⟩
    cases j with
    | zero => simp at h1 h2; subst h1; subst h2; exact h
    | succ j => have := ih.2 j a v (by simpa using h1) (by simpa using h2); rwa [Nat.add_assoc, Nat.add_comm 1 j] at this
theorem law_of {g : FuncId} {args : List Arg} {vs : List Value} (hV : VC P g args [(false, cB true true)] []) (ha : ArgsL w 0 args vs) :
    Calls P g vs.toArray w fun e w' => e = .returned (.bool true) ∧ Below w.heap.size w w' := law_calls hV ha.get.1 fun i a v h1 h2 => by have := ha.get.2 i a v h1 h2; rwa [Nat.zero_add] at this
end
end Go.V
namespace Go.V
open Go Go.RowKit

/-- From some number on. -/
def Evt (p : Nat → Prop) : Prop := ∃ N, ∀ n, N ≤ n → p n
theorem Evt.of {p : Nat → Prop} (h : ∀ n, p n) : Evt p := ⟨0, fun n _ => h n⟩
theorem Evt.and {p q : Nat → Prop} (h : Evt p) (k : Evt q) : Evt fun n => p n ∧ q n := by
  obtain ⟨N, h⟩ := h; obtain ⟨M, k⟩ := k
  exact ⟨max N M, fun n hn => ⟨h n (by omega), k n (by omega)⟩⟩
theorem Evt.mono {p q : Nat → Prop} (h : Evt p) (k : ∀ n, p n → q n) : Evt q := by
  obtain ⟨N, h⟩ := h; exact ⟨N, fun n hn => k n (h n hn)⟩
theorem Evt.succ {p : Nat → Prop} (h : Evt fun n => p (n + 1)) : Evt p := by
  obtain ⟨N, h⟩ := h
  refine ⟨N + 1, fun n hn => ?_⟩
  obtain ⟨m, rfl⟩ : ∃ m, n = m + 1 := ⟨n - 1, by omega⟩
  exact h m (by omega)
theorem Evt.ex {p : Nat → Prop} (h : Evt p) : ∃ n, p n := by obtain ⟨N, h⟩ := h; exact ⟨N, h N (Nat.le_refl _)⟩
theorem Evt.bind {α β : Type} {f : Nat → Option α} {g : Nat → α → Option β} {a : α} {r : Option β} (h : Evt fun n => f n = some a) (k : Evt fun n => g n a = r) : Evt fun n => (f n).bind (g n) = r :=
  (h.and k).mono fun n ⟨h1, h2⟩ => by rw [h1]; exact h2

theorem w64_id {x : Int} (h1 : -9223372036854775808 ≤ x) (h2 : x ≤ 9223372036854775807) : w64 x = x := IntWalk.i64_in x ⟨h1, h2⟩

theorem getI_nat {α : Type} {xs : List α} {i : Nat} (h : i < xs.length) : getI xs (i : Int) = some xs[i] := by
  unfold getI
  rw [if_pos (by omega), Int.toNat_natCast, List.getElem?_eq_getElem h]
theorem getI_of {α : Type} {xs : List α} {i : Int} {k : Nat} (hk : i = k) (h : k < xs.length) : getI xs i = some xs[k] := by subst hk; exact getI_nat h
theorem byteAt_nat {s : ByteArray} {i : Nat} (h : i < s.size) : byteAt s (i : Int) = (s.data.toList[i]'(by simpa using h)).toNat := by
  unfold byteAt
  have : s.data[i]? = some s.data[i] := Array.getElem?_eq_getElem h
  rw [Int.toNat_natCast, this]
  simp

/-- The sum of the first n. -/
def sumN (f : Nat → Int) : Nat → Int
  | 0 => 0
  | n + 1 => sumN f n + f n
theorem sumN_congr {f g : Nat → Int} : ∀ {n : Nat}, (∀ i, i < n → f i = g i) → sumN f n = sumN g n
  | 0, _ => rfl
  | n + 1, h => by rw [sumN, sumN, sumN_congr fun i hi => h i (by omega), h n (by omega)]
theorem sumN_first (f : Nat → Int) : ∀ n, sumN f (n + 1) = f 0 + sumN (fun i => f (i + 1)) n
  | 0 => by simp [sumN]
  | n + 1 => by rw [sumN, sumN_first f n, sumN]; omega
theorem sumN_rev (f : Nat → Int) : ∀ n, sumN (fun i => f (n - 1 - i)) n = sumN f n
  | 0 => rfl
  | n + 1 => by
    rw [sumN_first, sumN]
    have : sumN (fun i => f (n + 1 - 1 - (i + 1))) n = sumN (fun i => f (n - 1 - i)) n := sumN_congr fun i hi => by congr 1; omega
    rw [this, sumN_rev f n]
    simp
    omega
theorem sumN_sub (f g : Nat → Int) : ∀ n, sumN (fun i => f i - g i) n = sumN f n - sumN g n
  | 0 => rfl
  | n + 1 => by rw [sumN, sumN, sumN, sumN_sub f g n]; omega
theorem sumN_le {f : Nat → Int} {c : Int} (n : Nat) (h : ∀ i, i < n → 0 ≤ f i ∧ f i ≤ c) : 0 ≤ sumN f n ∧ sumN f n ≤ n * c := by
  induction n with
  | zero => simp [sumN]
  | succ n ih =>
    have h1 := ih fun i hi => h i (by omega)
    have h2 := h n (by omega)
    rw [sumN]
    have : ((n + 1 : Nat) : Int) * c = n * c + c := by rw [Int.natCast_add, Int.add_mul]; simp
    omega
theorem sEq_iff {x y : ByteArray} : sEq x y = decide (x = y) := by
  unfold sEq
  have h : x.toList = y.toList ↔ x = y := by
    rw [Lib.toList_data, Lib.toList_data]
    exact ⟨WideShapes.bytes_inj, fun h => by rw [h]⟩
  by_cases e : x = y
  · simp [e]
  · have : ¬ x.toList = y.toList := fun h' => e (h.1 h')
    simp [e, this]
end Go.V

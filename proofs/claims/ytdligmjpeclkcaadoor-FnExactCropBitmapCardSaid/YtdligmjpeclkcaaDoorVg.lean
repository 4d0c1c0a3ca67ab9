/- The value interpreter, part g: what stretches of a program do to typed values, rule by rule. Conditions: none. -/
import Derived.Test.YtdligmjpeclkcaaDoorVf
import Derived.Below
import Derived.Lib.SlTrimSet
namespace Go.V
open Go Go.RowKit
section
variable {X : Cx} {st st' : St} {d : Nat} {t ty : TypeId} {x y : Operand} {pos : String} {af : Array Edge} {g : Option (Nat × Bool)} {ops : Array Oper} {l : List Oper} {k : List Foot → St → Prop}

theorem OS_takeM {s : Nat} (hN : s < X.N) (hs : s ≠ d) (hf : X.free d = true) (hfs : X.free s = true) : OStep X ⟨some d, .move (.tmp s), ty, pos, af, g⟩ st ((st.put s .dead).put d (st s).sv) := by
  rintro a w next Qx ⟨G, vals, hA⟩ hn
  have he : a.eval (.tmp s) = vals s := hA.link s hN
  have hr : (execOp a.eval ⟨some d, .move (.tmp s), ty, pos, af, g⟩).run X.P w = .ok (.value (vals s)) w := by simp only [execOp, he]; rfl
  unfold Oper.wp
  rw [hr, Oper.upon_value]
  refine hn _ _ ⟨rename G s d, upd vals d (vals s), hA.defers, by simp [Act.put, hA.size], fun t ht => ?_, ?_, ?_⟩
  · simp only [Act.put, upd]
    by_cases h : t = d
    · subst h
      simp [Array.getD_eq_getD_getElem?, hA.size, ht]
    · have := hA.link t ht
      simp only [Array.getD_eq_getD_getElem?] at this ⊢
      rw [Array.getElem?_setIfInBounds_ne (fun e => h e.symm), if_neg h]
      exact this
  · have hst : ∀ q, ¬ (q = s ∨ q = d) → ((st.put s .dead).put d (st s).sv) q = st q := fun q h => by simp only [not_or] at h; rw [put_ne _ _ h.2, put_ne _ _ h.1]
    have hva : ∀ q, ¬ (q = s ∨ q = d) → upd vals d (vals s) q = vals q := fun q h => by simp only [not_or] at h; exact upd_ne _ _ h.2
    have hver : ∀ q, (q = s ∨ q = d) → (st q).ver < (((st.put s .dead).put d (st s).sv) q).ver := by
      rintro q (rfl | rfl)
      · rw [put_ne _ _ hs, put_same]; simp
      · rw [put_same, put_ne _ _ (Ne.symm hs)]; simp
    have hp : ∀ b, G b = .pers → rename G s d b = .pers ∧ w.heap[b]? = w.heap[b]? := fun b h => ⟨by simp [rename, h], rfl⟩
    have ho : ∀ b q ρ, G b = .at_ q ρ → ¬ (q = s ∨ q = d) → rename G s d b = .at_ q ρ ∧ w.heap[b]? = w.heap[b]? := fun b q ρ h hq => ⟨by simp only [not_or] at hq; simp [rename, h, hq.1], rfl⟩
    have hos : ∀ b ρ, G b = .at_ s ρ → rename G s d b = .at_ d ρ ∧ w.heap[b]? = w.heap[b]? := fun b ρ h => ⟨by simp [rename, h], rfl⟩
    refine hA.inv.step (K := fun q => q = s ∨ q = d) hst hva hver hp ho ?_ (fun b hb => by simp [rename, hA.inv.alloc b hb]) ?_
    · rintro q (rfl | rfl)
      · rw [put_ne _ _ hs, put_same]; trivial
      · rw [put_same]
        have hq : upd vals q (vals s) q = vals s := by simp [upd]
        rw [hq]
        have h0 := hA.inv.slots s
        have ckey : ∀ {k j : Nat} {u : Value} {c : Cell}, CellRep G w st vals s k j u c → CellRep (rename G s q) w ((st.put s .dead).put q (st s).sv) (upd vals q (vals s)) q k j u c := by
          intro k j u c hc
          cases c with
          | t x => exact Rep.move hc hp fun b ρ hb => hos b _ hb
          | ref r ver π =>
            obtain ⟨hle, hc⟩ := hc
            by_cases hr' : r = s ∨ r = q
            · exact ⟨Nat.le_of_lt (Nat.lt_of_le_of_lt hle (hver r hr')), fun e => by have := hver r hr'; omega⟩
            · refine ⟨by rw [hst r hr']; exact hle, fun e => ?_⟩
              rw [hst r hr'] at e
              rw [place_keep hA.inv (hst r hr') (hva r hr') fun b ρ hb => rfl]
              exact hc e
        have skey : ∀ {k : Nat} {ag : Bool} {v : Value} {cs : List Cell}, CellsRep G w st vals s k ag v cs → CellsRep (rename G s q) w ((st.put s .dead).put q (st s).sv) (upd vals q (vals s)) q k ag v cs := by
          rintro k ag v cs ⟨us, hpk, hl, hall⟩
          exact ⟨us, hpk, hl, fun j c u h1 h2 => ckey (hall j c u h1 h2)⟩
        cases hsv : (st s).sv with
        | dead => trivial
        | val ag cs => rw [hsv] at h0 skey; exact skey h0
        | tup vs =>
          rw [hsv] at h0 skey
          obtain ⟨arr, hv, hl, hall⟩ := h0
          exact ⟨arr, hv, hl, fun k p u h1 h2 => skey (hall k p u h1 h2)⟩
        | box cs =>
          rw [hsv] at h0
          obtain ⟨b, arr, ty', hv, hG, hb, hl, hall⟩ := h0
          exact ⟨b, arr, ty', hv, (hos b _ hG).1, hb, hl, fun j t u hj hu => (hall j t u hj hu).move hp fun b ρ hb => hos b _ hb⟩
        | bld T e x => rw [hsv] at h0; exact BldRep.move h0 hos
        | addr r ver π i j =>
          rw [hsv] at h0 hst hver
          obtain ⟨hle, h0⟩ := h0
          by_cases hr' : r = s ∨ r = q
          · exact ⟨Nat.le_of_lt (Nat.lt_of_le_of_lt hle (hver r hr')), fun e => by have := hver r hr'; omega⟩
          · refine ⟨by rw [hst r hr']; exact hle, fun e => ?_⟩
            rw [hst r hr'] at e
            have h1 := h0 e
            cases π with
            | nil => simpa only [hst r hr', hva r hr'] using h1
            | cons p π =>
              simp only [place_keep hA.inv (hst r hr') (hva r hr') fun b ρ hb => (rfl : w.heap[b]? = w.heap[b]?)] at h1 ⊢
              exact h1
    · intro p hp'
      have h1 : p.1 ≠ d := by
        have := List.all_eq_true.1 hf p hp'
        simpa using this
      simp only [upd, if_neg h1]
      exact hA.inv.pin p hp'
  · refine ⟨fun b h => ?_, fun b hb h => ?_, hA.base.size, hA.base.os, hA.base.tape, hA.base.output⟩
    · have h2 := hA.base.pers b h; exact ⟨by simp [rename, h2.1], h2.2⟩
    · have h2 := hA.base.outer b hb h; exact ⟨by simp [rename, h2.1], h2.2⟩

theorem OS_loadTake {s n : Nat} {ag : Bool} {cs : List T} (hN : s < X.N) (hs : s ≠ d) (hsv : (st s).sv = .box cs) (hc : cells? X.P t = some n) (hg : isAgg? X.P t = some ag) (h1 : ag = false → n = 1) (hn : n ≤ cs.length) (hf : X.free d = true) (hfs : X.free s = true) : OStep X ⟨some d, .load t (.tmp s), ty, pos, af, g⟩ st ((st.put s .dead).put d (.val ag ((cs.take n).map .t))) := by
  rintro a w next Qx ⟨G, vals, hA⟩ hn'
  have he : a.eval (.tmp s) = vals s := hA.link s hN
  obtain ⟨b, o, hv, -, hall⟩ := addr_cells_bx (s := s) (r := s) (π := []) (i := 0) (j := 0) hA rfl rfl rfl rfl hsv
  let us := (List.range n).map fun m => (w.cell? ⟨b, o + m, none⟩).getD default
  have hcell : ∀ (m : Nat) u, us[m]? = some u → ∃ y, m < n ∧ cs[m]? = some y ∧ w.cell? ⟨b, o + m, none⟩ = some u ∧ Rep G w s [(0, m)] u y := by
    intro m u hm
    simp only [us, List.getElem?_map] at hm
    obtain ⟨i', hi', rfl⟩ := Option.map_eq_some_iff.1 hm
    have hlt := (List.getElem?_eq_some_iff.1 hi').1
    simp only [List.length_range] at hlt
    rw [List.getElem?_range hlt] at hi'
    cases hi'
    have hy : cs[m]? = some (cs[m]'(by omega)) := List.getElem?_eq_getElem _
    obtain ⟨u, hu, hrep, -⟩ := hall _ _ hy
    exact ⟨_, hlt, hy, by rw [hu]; rfl, by simpa [hu] using hrep⟩
  obtain ⟨v, hrun, hpk⟩ := loadVar_run (b := b) (o := o) (w := w) (P := X.P) hc hg h1 us (by simp [us]) (fun m u hm => by obtain ⟨_, _, _, h, _⟩ := hcell m u hm; exact h)
  have hr : (execOp a.eval ⟨some d, .load t (.tmp s), ty, pos, af, g⟩).run X.P w = .ok (.value v) w := by
    simp only [execOp, he, hv]
    exact run_value hrun
  unfold Oper.wp
  rw [hr, Oper.upon_value]
  refine hn' _ _ ⟨rename G s d, upd vals d v, hA.defers, by simp [Act.put, hA.size], fun t ht => ?_, ?_, ?_⟩
  · simp only [Act.put, upd]
    by_cases h : t = d
    · subst h
      simp [Array.getD_eq_getD_getElem?, hA.size, ht]
    · have := hA.link t ht
      simp only [Array.getD_eq_getD_getElem?] at this ⊢
      rw [Array.getElem?_setIfInBounds_ne (fun e => h e.symm), if_neg h]
      exact this
  · have hst : ∀ q, ¬ (q = s ∨ q = d) → ((st.put s .dead).put d (.val ag ((cs.take n).map .t))) q = st q := fun q h => by simp only [not_or] at h; rw [put_ne _ _ h.2, put_ne _ _ h.1]
    have hva : ∀ q, ¬ (q = s ∨ q = d) → upd vals d v q = vals q := fun q h => by simp only [not_or] at h; exact upd_ne _ _ h.2
    have hver : ∀ q, (q = s ∨ q = d) → (st q).ver < (((st.put s .dead).put d (.val ag ((cs.take n).map .t))) q).ver := by
      rintro q (rfl | rfl)
      · rw [put_ne _ _ hs, put_same]; simp
      · rw [put_same, put_ne _ _ (Ne.symm hs)]; simp
    have hp : ∀ b, G b = .pers → rename G s d b = .pers ∧ w.heap[b]? = w.heap[b]? := fun b h => ⟨by simp [rename, h], rfl⟩
    have ho : ∀ b q ρ, G b = .at_ q ρ → ¬ (q = s ∨ q = d) → rename G s d b = .at_ q ρ ∧ w.heap[b]? = w.heap[b]? := fun b q ρ h hq => ⟨by simp only [not_or] at hq; simp [rename, h, hq.1], rfl⟩
    have hos : ∀ b ρ, G b = .at_ s ρ → rename G s d b = .at_ d ρ ∧ w.heap[b]? = w.heap[b]? := fun b ρ h => ⟨by simp [rename, h], rfl⟩
    refine hA.inv.step (K := fun q => q = s ∨ q = d) hst hva hver hp ho ?_ (fun b hb => by simp [rename, hA.inv.alloc b hb]) ?_
    · rintro q (rfl | rfl)
      · rw [put_ne _ _ hs, put_same]; trivial
      · rw [put_same]
        have hq : upd vals q v q = v := by simp [upd]
        rw [hq]
        refine ⟨us, hpk, by simp [us]; omega, fun j c u hcj hu => ?_⟩
        obtain ⟨y, hlt, hy, -, hrep⟩ := hcell j u hu
        rw [List.getElem?_map, List.getElem?_take, if_pos hlt, hy] at hcj
        cases hcj
        exact Rep.move hrep hp fun b ρ hb => hos b _ hb
    · intro p hp'
      have h1 : p.1 ≠ d := by
        have := List.all_eq_true.1 hf p hp'
        simpa using this
      simp only [upd, if_neg h1]
      exact hA.inv.pin p hp'
  · refine ⟨fun b h => ?_, fun b hb h => ?_, hA.base.size, hA.base.os, hA.base.tape, hA.base.output⟩
    · have h2 := hA.base.pers b h; exact ⟨by simp [rename, h2.1], h2.2⟩
    · have h2 := hA.base.outer b hb h; exact ⟨by simp [rename, h2.1], h2.2⟩

/-- A move out of a slot that is not read again. -/
theorem dTkM {s : Nat} {sv : SV} (hg : runs X.N ops st ⟨some d, .move (.tmp s), ty, pos, af, g⟩ = true) (hf : X.free d = true) (hfs : X.free s = true) (hN : s < X.N) (hs : (s == d) = false) (hsv : (st s).sv = sv)
    {R' : List Nat} (hR : gslot ops ⟨some d, .move (.tmp s), ty, pos, af, g⟩ ++ [s] = R') (hl : DL X ops l (applyP st [(s, .dead), (d, sv)]) (fun fs st' => k (⟨R', [(s, .dead), (d, sv)]⟩ :: fs) st')) : DL X ops (⟨some d, .move (.tmp s), ty, pos, af, g⟩ :: l) st k := by
  subst hR
  subst hsv
  refine DL_cons (PStep.runs hg fun st2 h2 => ?_) hl
  have := OS_takeM (X := X) (st := st2) (ty := ty) (pos := pos) (af := af) (g := g) hN (by simpa using hs) hf hfs
  rw [h2 s (by simp)] at this
  exact this
/-- All of a struct that is not read again. -/
theorem dLdT {s n : Nat} {ag : Bool} {cs ts : List T} (hg : runs X.N ops st ⟨some d, .load t (.tmp s), ty, pos, af, g⟩ = true) (hf : X.free d = true) (hfs : X.free s = true) (hN : s < X.N) (hs : (s == d) = false) (hsv : (st s).sv = .box cs) (hc : cells? X.P t = some n) (hag : isAgg? X.P t = some ag) (h1 : (ag || n == 1) = true) (hn : Nat.ble n cs.length = true) (hts : cs.take n = ts)
    {R' : List Nat} (hR : gslot ops ⟨some d, .load t (.tmp s), ty, pos, af, g⟩ ++ [s] = R') (hl : DL X ops l (applyP st [(s, .dead), (d, .val ag (ts.map .t))]) (fun fs st' => k (⟨R', [(s, .dead), (d, .val ag (ts.map .t))]⟩ :: fs) st')) : DL X ops (⟨some d, .load t (.tmp s), ty, pos, af, g⟩ :: l) st k := by
  subst hR
  subst hts
  refine DL_cons (PStep.runs hg fun st2 h2 => ?_) hl
  exact OS_loadTake (X := X) (st := st2) (ty := ty) (pos := pos) (af := af) (g := g) hN (by simpa using hs) (by rw [h2 s (by simp)]; exact hsv) hc hag (by rintro rfl; simpa using h1) (Nat.le_of_ble_eq_true hn) hf hfs
end
end Go.V
namespace Go.V
open Go Go.RowKit
section
variable {X : Cx} {st st' : St} {d : Nat} {t ty : TypeId} {x y : Operand} {pos : String} {af : Array Edge} {g : Option (Nat × Bool)} {ops : Array Oper} {l : List Oper} {k : List Foot → St → Prop}

/-- Parts that nobody owns. -/
inductive PartsFr (X : Cx) (st : St) (pl : Nat → Option (Nat × Nat)) : List (Nat × Operand) → List (Nat × List T) → Prop
  | nil : PartsFr X st pl [] []
  | cons {i x ag ts ps qs off size} (hp : pl i = some (off, size)) (h : Opd X.N st x (.val ag (ts.map .t))) (hf : ts.all T.free = true) (hr : PartsFr X st pl ps qs) : PartsFr X st pl ((i, x) :: ps) ((i, ts) :: qs)
theorem PartsFr.to {pl : Nat → Option (Nat × Nat)} {base : Nat → Path} {ps : List (Nat × Operand)} {qs : List (Nat × List T)} (h : PartsFr X st pl ps qs) : Parts X st [] (fun _ _ => none) pl base ps qs := by
  induction h with
  | nil => exact .nil
  | cons hp h hf _ ih => exact .cons hp (.free h (freeAll hf)) (fun _ y hy => by have := freeAll hf y hy; cases y <;> first | rfl | cases this) ih
theorem dBS {e : TypeId} {sz n : Nat} {ts zs : List T} {els : List (List T)} {parts : List (Nat × Operand)} {qs : List (Nat × List T)} (R : List Nat) (hg : runs X.N ops st ⟨some d, .buildSlice t n parts.toArray, ty, pos, af, g⟩ = true) (hf : X.free d = true) (he : elem? X.P t = some (e, sz)) (hz : Zeros X.P e zs) (hzl : zs.length = sz) (hsz : Nat.ble 1 sz = true) (hn : Nat.ble (n * sz) 16777216 = true)
    (hts : fillL (fun i => some (i * sz, sz)) ((List.range (n * sz)).map fun i => (zs[i % sz]?).getD .gone) qs = some ts) (hels : chop sz n ts = els) (hx : ∀ st2 : St, (∀ q ∈ R, st2 q = st q) → PartsFr X st2 (fun i => some (i * sz, sz)) parts qs)
    {R' : List Nat} (hR : gslot ops ⟨some d, .buildSlice t n parts.toArray, ty, pos, af, g⟩ ++ R = R') (hl : DL X ops l (applyP st [(d, one (.sl true sz els))]) (fun fs st' => k (⟨R', [(d, one (.sl true sz els))]⟩ :: fs) st')) : DL X ops (⟨some d, .buildSlice t n parts.toArray, ty, pos, af, g⟩ :: l) st k := by
  subst hR
  subst hels
  refine DL_cons (PStep.runs hg fun st2 h2 => ?_) hl
  have := OS_buildSlice (X := X) (st := st2) (d := d) (ty := ty) (pos := pos) (af := af) (g := g) he hz hzl (by have := Nat.le_of_ble_eq_true hsz; omega) (Nat.le_of_ble_eq_true hn) (C := []) (mp := fun _ _ => none) (fun s j π h => by cases h) (by simp) (hx st2 h2).to hts hf
  rw [kill_nil] at this
  exact this

/-- A row of bytes as a string. -/
theorem dByt {e src : TypeId} {m : Bool} {ns : List Int} {s : Nat} (hg : runs X.N ops st ⟨some d, .convert src t (.tmp s), ty, pos, af, g⟩ = true) (hf : X.free d = true) (hN : s < X.N) (hu : X.P.underlying src = some (.slice e)) (hue : X.P.underlying e = some (.int .u8)) (hut : X.P.underlying t = some .string) (hx : (st s).sv = one (.sl m 1 (ns.map fun n => [.sc (.int .u8 n)])))
    {R' : List Nat} (hR : gslot ops ⟨some d, .convert src t (.tmp s), ty, pos, af, g⟩ ++ [s] = R') (hl : DL X ops l (applyP st [(d, scv (.string (strOf ns)))]) (fun fs st' => k (⟨R', [(d, scv (.string (strOf ns)))]⟩ :: fs) st')) : DL X ops (⟨some d, .convert src t (.tmp s), ty, pos, af, g⟩ :: l) st k := by
  subst hR
  refine DL_cons (PStep.runs hg fun st2 h2 => ?_) hl
  exact OS_bytes hu hue hut (.inl ⟨hN, by rw [h2 s (by simp)]; exact hx⟩) hf
theorem dBytO {e src : TypeId} {ns : List Int} {s r : Nat} {π : Path} (hg : runs X.N ops st ⟨some d, .convert src t (.tmp s), ty, pos, af, g⟩ = true) (hf : X.free d = true) (hN : s < X.N) (hu : X.P.underlying src = some (.slice e)) (hue : X.P.underlying e = some (.int .u8)) (hut : X.P.underlying t = some .string) (hx : ownOf st s = some (r, π, 1, ns.map fun n => [.sc (.int .u8 n)]))
    {R' : List Nat} (hR : gslot ops ⟨some d, .convert src t (.tmp s), ty, pos, af, g⟩ ++ ownSlots st s = R') (hl : DL X ops l (applyP st [(d, scv (.string (strOf ns)))]) (fun fs st' => k (⟨R', [(d, scv (.string (strOf ns)))]⟩ :: fs) st')) : DL X ops (⟨some d, .convert src t (.tmp s), ty, pos, af, g⟩ :: l) st k := by
  subst hR
  refine DL_cons (PStep.runs hg fun st2 h2 => ?_) hl
  obtain ⟨h3, h4⟩ := ownOf_ok (X := X) hN (by rw [ownOf_agree h2]; exact hx)
  exact OS_bytes (m := true) hu hue hut (.inr ⟨r, π, h3, h4⟩) hf

theorem wN : wholel [] = true := rfl
theorem wC {t : T} {ts : List T} (h : t.whole = true) (hl : wholel ts = true) : wholel (t :: ts) = true := by simp [wholel, h, hl]
theorem wS {m : Bool} {sz : Nat} {els : List (List T)} (h : wholes els = true) : T.whole (.sl m sz els) = true := h
theorem sN : shrl [] = [] := rfl
theorem sC {t u : T} {ts us : List T} (h : t.shr = u) (hl : shrl ts = us) : shrl (t :: ts) = u :: us := by simp [shrl, h, hl]
theorem sS {m : Bool} {sz : Nat} {els els' : List (List T)} (h : shrs els = els') : T.shr (.sl m sz els) = .sl false sz els' := by rw [T.shr, h]
theorem eN : deepl [] = true := rfl
theorem eC {t : T} {ts : List T} (h : t.deep = true) (hl : deepl ts = true) : deepl (t :: ts) = true := by simp [deepl, h, hl]
theorem eS {sz : Nat} {els : List (List T)} (h : deeps els = true) : T.deep (.sl true sz els) = true := by simp [T.deep, h]
theorem rN : ∀ p ∈ ([] : List (Bool × List T)), deepl p.2 = true := fun _ h => by cases h
theorem rC {ag : Bool} {ts : List T} {res : List (Bool × List T)} (h : deepl ts = true) (hl : ∀ p ∈ res, deepl p.2 = true) : ∀ p ∈ (ag, ts) :: res, deepl p.2 = true := fun p hp => by
  rcases List.mem_cons.1 hp with rfl | hp
  · exact h
  · exact hl p hp
theorem here_map {α : Type} {f : α → List T} (h : ∀ x, (f x).all T.here = true) (xs : List α) : ∀ i j t, elAt (xs.map f) i j = some t → t.here = true := fun i j t he => by
  unfold elAt at he
  obtain ⟨row, hr, ht⟩ := Option.bind_eq_some_iff.1 he
  rw [List.getElem?_map] at hr
  obtain ⟨x, -, rfl⟩ := Option.map_eq_some_iff.1 hr
  exact List.all_eq_true.1 (h x) t (List.mem_of_getElem? ht)
theorem app_map {α : Type} {f g : α → List T} (h : ∀ x, g x = f x) (xs ys : List α) : xs.map f ++ ys.map g = (xs ++ ys).map f := by
  rw [List.map_append]
  congr 1
  exact List.map_congr_left fun x _ => h x
/-- A row of ours and more. -/
theorem dApp {s r sz by_ : Nat} {π : Path} {e tx e' : TypeId} {els ys els' : List (List T)} {zs : List T} {sy : Option Nat} {svg : SV} (R : List Nat) (hg : runs X.N ops st ⟨some d, .call { callee := .builtin .append, args := #[.tmp s, y], argTypes := #[t, tx] }, ty, pos, af, g⟩ = true) (hf : X.free d = true) (hN : s < X.N)
    (ho : ownOf st s = some (r, π, sz, els)) (hsR : (ownSlots st s).all R.contains = true) (hrR : r ∈ R) (hy : ∀ st2 : St, (∀ q ∈ R, st2 q = st q) → Srcs X st2 sy.toList sz y sy ys) (hC : r ∉ sy.toList ∧ d ∉ sy.toList ∧ sy.toList.Nodup) (hrd : (r == d) = false) (he : elem? X.P t = some (e, sz)) (hsz : Nat.ble 1 sz = true) (hz : Zeros X.P e zs) (hzl : zs.length = sz) (hby : (X.P.info? e).map (·.bytes) = some by_) (hby1 : Nat.ble 1 by_ = true) (hk : X.P.underlying tx = some (.slice e'))
    (hh : ∀ i j t, elAt ys i j = some t → t.here = true) (hB : (els.length + ys.length) * by_ ≤ 140737488355328) (hels : els ++ ys = els') (hsv : ∀ st2 : St, st2 r = st r → st2.setAt r π .gone = applyP st2 [(r, svg)])
    {R' : List Nat} (hR : gslot ops ⟨some d, .call { callee := .builtin .append, args := #[.tmp s, y], argTypes := #[t, tx] }, ty, pos, af, g⟩ ++ R = R')
    (hl : DL X ops l (applyP st (sy.toList.map (fun q => (q, .dead)) ++ [(r, svg), (d, one (.sl true sz els'))])) (fun fs st' => k (⟨R', sy.toList.map (fun q => (q, .dead)) ++ [(r, svg), (d, one (.sl true sz els'))]⟩ :: fs) st')) : DL X ops (⟨some d, .call { callee := .builtin .append, args := #[.tmp s, y], argTypes := #[t, tx] }, ty, pos, af, g⟩ :: l) st k := by
  subst hR
  subst hels
  refine DL_cons (PStep.runs hg fun st2 h2 => ?_) hl
  have hag : ∀ q ∈ ownSlots st s, st2 q = st q := fun q hq => h2 q (by have := List.all_eq_true.1 hsR q hq; simpa using this)
  obtain ⟨h3, h4⟩ := ownOf_ok (X := X) hN (by rw [ownOf_agree hag]; exact ho)
  have h5 : els.length + ys.length ≤ (els.length + ys.length) * by_ := Nat.le_mul_of_pos_right _ (Nat.le_of_ble_eq_true hby1)
  have h1 := OS_append (X := X) (st := st2) (d := d) (t := t) (tx := tx) (ty := ty) (pos := pos) (af := af) (g := g) h3 h4 (hy st2 h2) rfl hC.1 (by simpa using hrd) hC.2.1 he (by have := Nat.le_of_ble_eq_true hsz; omega) hz hzl hby hk hh hB (by omega) hf
  rw [applyP_app, kill_apply _ _ hC.2.2]
  have h6 : (st2.kill sy.toList) r = st r := by
    have : (st2.kill sy.toList) r = st2 r := by simp only [St.kill]; rw [if_neg hC.1]
    rw [this]; exact h2 r hrR
  rw [hsv _ h6] at h1
  exact h1
end
end Go.V
namespace Go.V
open Go Go.RowKit
section
variable {X : Cx} {st st' : St} {a : Act} {w : World} {G : Nat → Own} {vals : Nat → Value} {d : Nat} {t ty : TypeId} {x y : Operand} {pos : String} {af : Array Edge} {g : Option (Nat × Bool)} {ops : Array Oper} {l : List Oper} {k : List Foot → St → Prop} {c : Code} {Q : Exit → St → Prop}

def freezeG (G : Nat → Own) (r : Nat) : Nat → Own := fun b => match G b with
  | .at_ s ρ => if s = r then .pers else .at_ s ρ
  | o => o
theorem shrl_map : ∀ l : List T, shrl l = l.map T.shr
  | [] => rfl
  | a :: l => by simp [shrl, shrl_map l]
theorem wholel_mem : ∀ {l : List T}, wholel l = true → ∀ y ∈ l, y.whole = true
  | [], _, y, hy => by cases hy
  | a :: l, h, y, hy => by
    simp only [wholel, Bool.and_eq_true] at h
    rcases List.mem_cons.1 hy with rfl | hy
    · exact h.1
    · exact wholel_mem h.2 y hy
theorem All_freeze {r : Nat} {cs ys : List T} (h : (st r).sv = .box cs) (hw : wholel cs = true) (hs : shrl cs = ys) (hA : All X st a w) : All X (st.put r (one (.ptr ys))) a w := by
  subst hs
  obtain ⟨G, vals, hA⟩ := hA
  have hsh : ∀ b ρ, G b = .at_ r ρ → freezeG G r b = .pers ∧ w.heap[b]? = w.heap[b]? := fun b ρ hb => ⟨by simp [freezeG, hb], rfl⟩
  refine ⟨freezeG G r, vals, hA.step (K := fun q => q = r) (fun s hs => put_ne _ _ hs) (fun _ _ => rfl) (fun s hs => by subst hs; rw [put_same]; simp) ?_ ?_ ?_ (fun b hb => by simp [freezeG, hA.inv.alloc b hb]) hA.inv.pin (Nat.le_refl _) rfl rfl rfl hA.defers hA.size hA.link⟩
  · rintro b (h | ⟨h, -⟩) <;> exact ⟨by simp [freezeG, h], rfl⟩
  · intro b s ρ hb hs; exact ⟨by simp [freezeG, hb, hs], rfl⟩
  · rintro hp s rfl
    rw [put_same]
    have h0 := hA.inv.slots s
    rw [h] at h0
    obtain ⟨b, arr, ty', hv, hG, hb, hl, hall⟩ := h0
    refine slotRep_one.2 ?_
    rw [hv]
    refine .ptr (fun q => (w.cell? ⟨b, 0 + q, none⟩).getD default) (hsh b [] hG).1 (fun t ht => ?_) (fun q t ht => ?_) (fun q t ht => ?_)
    · rw [shrl_map] at ht; obtain ⟨t0, -, rfl⟩ := List.mem_map.1 ht; exact T.shr_free _
    · rw [shrl_map, List.getElem?_map] at ht
      obtain ⟨t0, ht0, rfl⟩ := Option.map_eq_some_iff.1 ht
      have hlt : q < arr.size := by rw [hl]; exact (List.getElem?_eq_some_iff.1 ht0).1
      simp [World.cell?, hb, Array.getElem?_eq_getElem hlt]
    · rw [shrl_map, List.getElem?_map] at ht
      obtain ⟨t0, ht0, rfl⟩ := Option.map_eq_some_iff.1 ht
      have hlt : q < arr.size := by rw [hl]; exact (List.getElem?_eq_some_iff.1 ht0).1
      have hu : arr[q]? = some arr[q] := Array.getElem?_eq_getElem hlt
      have hrep := hall q t0 _ ht0 hu
      have hc : (w.cell? ⟨b, 0 + q, none⟩).getD default = arr[q] := by simp [World.cell?, hb, hu]
      rw [hc]
      exact hrep.shr (wholel_mem hw t0 (List.mem_of_getElem? ht0)) hp fun b ρ hb => hsh b ((0, q) :: ρ) (by rw [hb]; simp)
/-- From here on a struct of ours is memory that nobody writes. -/
theorem W_freeze {r : Nat} {cs ys : List T} (h : (st r).sv = .box cs) (hw : wholel cs = true) (hs : shrl cs = ys) (hW : W X c (st.put r (one (.ptr ys))) Q) : W X c st Q := fun a w hA => hW a w (All_freeze h hw hs hA)

theorem dMF {f : FuncId} {caps : List Operand} {ys : List T} (R : List Nat) (hg : runs X.N ops st ⟨some d, .makeFunc (.func f) #[] caps.toArray, ty, pos, af, g⟩ = true) (hf : X.free d = true) (hl' : caps.length = ys.length)
    (hc : ∀ st2 : St, (∀ q ∈ R, st2 q = st q) → ∀ (j : Nat) x y, caps[j]? = some x → ys[j]? = some y → Opd X.N st2 x (one y) ∧ y.free = true)
    {R' : List Nat} (hR : gslot ops ⟨some d, .makeFunc (.func f) #[] caps.toArray, ty, pos, af, g⟩ ++ R = R') (hl : DL X ops l (applyP st [(d, one (.fn f ys))]) (fun fs st' => k (⟨R', [(d, one (.fn f ys))]⟩ :: fs) st')) : DL X ops (⟨some d, .makeFunc (.func f) #[] caps.toArray, ty, pos, af, g⟩ :: l) st k := by
  subst hR
  exact DL_cons (PStep.runs hg fun st2 h2 => OS_makeFunc hl' (hc st2 h2) hf) hl

/-- What is captured, one after the other. -/
inductive Caps (X : Cx) (st : St) : List Operand → List T → Prop
  | nil : Caps X st [] []
  | cons {x y xs ys} (h : Opd X.N st x (one y)) (hf : y.free = true) (hl : Caps X st xs ys) : Caps X st (x :: xs) (y :: ys)
theorem Caps.get {xs : List Operand} {ys : List T} (h : Caps X st xs ys) : ∀ (j : Nat) x y, xs[j]? = some x → ys[j]? = some y → Opd X.N st x (one y) ∧ y.free = true := by
  induction h with
  | nil => intro j x y h; simp at h
  | cons h hf _ ih =>
    intro j x y hx hy
    cases j with
    | zero => simp at hx hy; subst hx; subst hy; exact ⟨h, hf⟩
    | succ j => exact ih j x y (by simpa using hx) (by simpa using hy)
theorem OS_max {kk : IntKind} {p q : Int} {tys : Array TypeId} (hx : Opd X.N st x (scv (.int kk p))) (hy : Opd X.N st y (scv (.int kk q))) (hf : X.free d = true) :
    OStep X ⟨some d, .call { callee := .builtin .max, args := #[x, y], argTypes := tys }, ty, pos, af, g⟩ st (st.put d (scv (.int kk (if q > p then q else p)))) := by
  refine OStep.scalar rfl hf rfl fun ac w G vals hA => ?_
  have h1 := (opd_sc hA hx).1
  have h2 := (opd_sc hA hy).1
  simp only [execOp]
  simp [resolve, invoke, builtin, Builtin.max_, Builtin.max2, h1, h2]
theorem dMax {kk : IntKind} {p q : Int} {tys : Array TypeId} (hg : runs X.N ops st ⟨some d, .call { callee := .builtin .max, args := #[x, y], argTypes := tys }, ty, pos, af, g⟩ = true) (hf : X.free d = true) (hx : scF X.N st x = some (.int kk p)) (hy : scF X.N st y = some (.int kk q))
    {R' : List Nat} (hR : gslot ops ⟨some d, .call { callee := .builtin .max, args := #[x, y], argTypes := tys }, ty, pos, af, g⟩ ++ (opdSlots x ++ opdSlots y) = R') (hl : DL X ops l (applyP st [(d, scv (.int kk (if q > p then q else p)))]) (fun fs st' => k (⟨R', [(d, scv (.int kk (if q > p then q else p)))]⟩ :: fs) st')) : DL X ops (⟨some d, .call { callee := .builtin .max, args := #[x, y], argTypes := tys }, ty, pos, af, g⟩ :: l) st k := by
  subst hR
  refine DL_cons (PStep.runs hg fun st2 h2 => ?_) hl
  exact OS_max (scF_ok (by rw [scF_agree (x := x) fun s hs => h2 s (by simp [hs])]; exact hx)) (scF_ok (by rw [scF_agree (x := y) fun s hs => h2 s (by simp [hs])]; exact hy)) hf

theorem OS_min {kk : IntKind} {p q : Int} {tys : Array TypeId} (hx : Opd X.N st x (scv (.int kk p))) (hy : Opd X.N st y (scv (.int kk q))) (hf : X.free d = true) :
    OStep X ⟨some d, .call { callee := .builtin .min, args := #[x, y], argTypes := tys }, ty, pos, af, g⟩ st (st.put d (scv (.int kk (if q < p then q else p)))) := by
  refine OStep.scalar rfl hf rfl fun ac w G vals hA => ?_
  have h1 := (opd_sc hA hx).1
  have h2 := (opd_sc hA hy).1
  simp only [execOp]
  simp [resolve, invoke, builtin, Builtin.min_, Builtin.min2, h1, h2]
theorem dMin {kk : IntKind} {p q : Int} {tys : Array TypeId} (hg : runs X.N ops st ⟨some d, .call { callee := .builtin .min, args := #[x, y], argTypes := tys }, ty, pos, af, g⟩ = true) (hf : X.free d = true) (hx : scF X.N st x = some (.int kk p)) (hy : scF X.N st y = some (.int kk q))
    {R' : List Nat} (hR : gslot ops ⟨some d, .call { callee := .builtin .min, args := #[x, y], argTypes := tys }, ty, pos, af, g⟩ ++ (opdSlots x ++ opdSlots y) = R') (hl : DL X ops l (applyP st [(d, scv (.int kk (if q < p then q else p)))]) (fun fs st' => k (⟨R', [(d, scv (.int kk (if q < p then q else p)))]⟩ :: fs) st')) : DL X ops (⟨some d, .call { callee := .builtin .min, args := #[x, y], argTypes := tys }, ty, pos, af, g⟩ :: l) st k := by
  subst hR
  refine DL_cons (PStep.runs hg fun st2 h2 => ?_) hl
  exact OS_min (scF_ok (by rw [scF_agree (x := x) fun s hs => h2 s (by simp [hs])]; exact hx)) (scF_ok (by rw [scF_agree (x := y) fun s hs => h2 s (by simp [hs])]; exact hy)) hf
theorem dQuo {kk : IntKind} {p q : Int} {t' : TypeId} (hg : runs X.N ops st ⟨some d, .binOp .quo t x y t', ty, pos, af, g⟩ = true) (hf : X.free d = true) (hx : scF X.N st x = some (.int kk p)) (hy : scF X.N st y = some (.int kk q)) (hb : q ≠ 0)
    {R' : List Nat} (hR : gslot ops ⟨some d, .binOp .quo t x y t', ty, pos, af, g⟩ ++ (opdSlots x ++ opdSlots y) = R') (hl : DL X ops l (applyP st [(d, scv (.int kk (kk.wrap (p.tdiv q))))]) (fun fs st' => k (⟨R', [(d, scv (.int kk (kk.wrap (p.tdiv q))))]⟩ :: fs) st')) : DL X ops (⟨some d, .binOp .quo t x y t', ty, pos, af, g⟩ :: l) st k := by
  subst hR
  refine DL_cons (PStep.runs hg fun st2 h2 => ?_) hl
  exact OS_quo (scF_ok (by rw [scF_agree (x := x) fun s hs => h2 s (by simp [hs])]; exact hx)) (scF_ok (by rw [scF_agree (x := y) fun s hs => h2 s (by simp [hs])]; exact hy)) hb hf
theorem dRem {kk : IntKind} {p q : Int} {t' : TypeId} (hg : runs X.N ops st ⟨some d, .binOp .rem t x y t', ty, pos, af, g⟩ = true) (hf : X.free d = true) (hx : scF X.N st x = some (.int kk p)) (hy : scF X.N st y = some (.int kk q)) (hb : q ≠ 0)
    {R' : List Nat} (hR : gslot ops ⟨some d, .binOp .rem t x y t', ty, pos, af, g⟩ ++ (opdSlots x ++ opdSlots y) = R') (hl : DL X ops l (applyP st [(d, scv (.int kk (p.tmod q)))]) (fun fs st' => k (⟨R', [(d, scv (.int kk (p.tmod q)))]⟩ :: fs) st')) : DL X ops (⟨some d, .binOp .rem t x y t', ty, pos, af, g⟩ :: l) st k := by
  subst hR
  refine DL_cons (PStep.runs hg fun st2 h2 => ?_) hl
  exact OS_rem (scF_ok (by rw [scF_agree (x := x) fun s hs => h2 s (by simp [hs])]; exact hx)) (scF_ok (by rw [scF_agree (x := y) fun s hs => h2 s (by simp [hs])]; exact hy)) hb hf
theorem dShl {kk ky : IntKind} {p q : Int} {t' : TypeId} (hg : runs X.N ops st ⟨some d, .binOp .shl t x y t', ty, pos, af, g⟩ = true) (hf : X.free d = true) (hx : scF X.N st x = some (.int kk p)) (hy : scF X.N st y = some (.int ky q)) (hb : 0 ≤ q)
    {R' : List Nat} (hR : gslot ops ⟨some d, .binOp .shl t x y t', ty, pos, af, g⟩ ++ (opdSlots x ++ opdSlots y) = R') (hl : DL X ops l (applyP st [(d, scv (.int kk (kk.wrap (p * 2 ^ (min q.toNat kk.bits)))))]) (fun fs st' => k (⟨R', [(d, scv (.int kk (kk.wrap (p * 2 ^ (min q.toNat kk.bits)))))]⟩ :: fs) st')) : DL X ops (⟨some d, .binOp .shl t x y t', ty, pos, af, g⟩ :: l) st k := by
  subst hR
  refine DL_cons (PStep.runs hg fun st2 h2 => ?_) hl
  exact OS_shl (scF_ok (by rw [scF_agree (x := x) fun s hs => h2 s (by simp [hs])]; exact hx)) (scF_ok (by rw [scF_agree (x := y) fun s hs => h2 s (by simp [hs])]; exact hy)) hb hf
theorem dShr {kk ky : IntKind} {p q : Int} {t' : TypeId} (hg : runs X.N ops st ⟨some d, .binOp .shr t x y t', ty, pos, af, g⟩ = true) (hf : X.free d = true) (hx : scF X.N st x = some (.int kk p)) (hy : scF X.N st y = some (.int ky q)) (hb : 0 ≤ q)
    {R' : List Nat} (hR : gslot ops ⟨some d, .binOp .shr t x y t', ty, pos, af, g⟩ ++ (opdSlots x ++ opdSlots y) = R') (hl : DL X ops l (applyP st [(d, scv (.int kk (p.fdiv (2 ^ (min q.toNat kk.bits)))))]) (fun fs st' => k (⟨R', [(d, scv (.int kk (p.fdiv (2 ^ (min q.toNat kk.bits)))))]⟩ :: fs) st')) : DL X ops (⟨some d, .binOp .shr t x y t', ty, pos, af, g⟩ :: l) st k := by
  subst hR
  refine DL_cons (PStep.runs hg fun st2 h2 => ?_) hl
  exact OS_shr (scF_ok (by rw [scF_agree (x := x) fun s hs => h2 s (by simp [hs])]; exact hx)) (scF_ok (by rw [scF_agree (x := y) fun s hs => h2 s (by simp [hs])]; exact hy)) hb hf
theorem yielded_undef (hA : Alls X st a w G vals) {j q : Nat} (hd : (ops[j]?).bind (·.dst) = some q) (hN : q < X.N) (hb : (st q).sv = .tup []) : yielded ops a.tmps j = none := by
  have h0 := hA.inv.slots q
  rw [hb] at h0
  obtain ⟨arr, hv, hl, -⟩ := h0
  have h2 : a.tmps.getD q undef = vals q := hA.link q hN
  have h3 : arr = #[] := Array.eq_empty_of_size_eq_zero (by simpa using hl)
  rw [hv, h3] at h2
  have h4 : a.tmps[q]? = some (.tuple #[]) := by
    have hlt : q < a.tmps.size := by rw [hA.size]; exact hN
    simp only [Array.getD_eq_getD_getElem?, Array.getElem?_eq_getElem hlt, Option.getD_some] at h2
    rw [Array.getElem?_eq_getElem hlt, h2]
  simp [yielded, hd, h4]
theorem undef_rep {d : Nat} {vals' : Nat → Value} {st' : St} : SlotRep G w st' vals' d undef (.tup []) := ⟨#[], rfl, rfl, fun k p u h => by simp at h⟩
/-- What the guard says of a step that is passed by. -/
def offF (N : Nat) (ops : Array Oper) (st : St) (o : Oper) : Bool :=
  match o.guard with
  | none => false
  | some (j, b) => match (ops[j]?).bind (·.dst) with
    | some q => if q < N then (match (st q).sv with | .val false [.t (.sc (.bool b'))] => b' != b | .tup [] => true | _ => false) else false
    | none => false
theorem offF_agree {N : Nat} {st st2 : St} {o : Oper} (h : ∀ s ∈ gslot ops o, st2 s = st s) : offF N ops st2 o = offF N ops st o := by
  unfold offF
  unfold gslot at h
  split
  · rfl
  · rename_i j b hg
    rw [hg] at h
    split
    · rename_i q hq
      simp only [hq] at h
      rw [h q (by simp)]
    · rfl
theorem offF_ok {o : Oper} (hA : Alls X st a w G vals) (h : offF X.N ops st o = true) : Region.wanted o (yielded ops a.tmps) = false := by
  unfold offF at h
  split at h
  · cases h
  · rename_i j b hg
    split at h
    · rename_i q hq
      split at h
      · rename_i hN
        split at h
        · rename_i b' hb
          have := yielded_of hA hq hN hb
          simp only [bne_iff_ne, ne_eq] at h
          simp [Region.wanted, hg, this, h]
        · rename_i hb
          have := yielded_undef hA hq hN hb
          simp [Region.wanted, hg, this]
        · cases h
      · cases h
    · cases h
theorem GStep.offU {o : Oper} {e : Nat} (h : offF X.N ops st o = true) (he : o.dst = some e) (hf : X.free e = true) : GStep X ops o st (st.put e (.tup [])) := fun a w K Qx hA hK => by
  obtain ⟨G, vals, hA'⟩ := hA
  rw [if_neg (by simp [offF_ok hA' h]), he]
  exact hK _ _ ⟨G, _, hA'.put hf undef_rep⟩
theorem GStep.offUN {o : Oper} (h : offF X.N ops st o = true) (he : o.dst = none) : GStep X ops o st st := fun a w K Qx hA hK => by
  obtain ⟨G, vals, hA'⟩ := hA
  rw [if_neg (by simp [offF_ok hA' h]), he]
  exact hK _ _ ⟨G, _, hA'⟩
/-- Passed by; its slot is known to be undefined. -/
theorem dU {o : Oper} {e : Nat} (hg : offF X.N ops st o = true) (he : o.dst = some e) (hf : X.free e = true) {R' : List Nat} (hR : gslot ops o = R') (hl : DL X ops l (applyP st [(e, .tup [])]) (fun fs st' => k (⟨R', [(e, .tup [])]⟩ :: fs) st')) : DL X ops (o :: l) st k := by
  subst hR
  exact DL_cons (fun st2 h2 => GStep.offU (by rw [offF_agree h2]; exact hg) he hf) hl
theorem dUn {o : Oper} (hg : offF X.N ops st o = true) (he : o.dst = none) {R' : List Nat} (hR : gslot ops o = R') (hl : DL X ops l (applyP st []) (fun fs st' => k (⟨R', []⟩ :: fs) st')) : DL X ops (o :: l) st k := by
  subst hR
  exact DL_cons (fun st2 h2 => GStep.offUN (by rw [offF_agree h2]; exact hg) he) hl
end
end Go.V
namespace Go.V
open Go Go.RowKit Go.RowKit
theorem str2_bridge {P : Program} {g : FuncId} {a0 a1 r : ByteArray} (h : ∀ w, Calls P g #[.string a0, .string a1] w fun e w' => e = .returned (.string r) ∧ Below w.heap.size w w') :
    VC P g [.sh false [.sc (.string a0)], .sh false [.sc (.string a1)]] [(false, [.sc (.string r)])] [] := by
  intro G w vs hl hargs hout
  match vs, hl with
  | [u, v], _ =>
    have key : ∀ {i : Nat} {u : Value} {s : ByteArray}, ArgRep G w i u (.sh false [.sc (.string s)]) → u = .string s := by
      rintro i u s ⟨-, us, hpk, hul, hall⟩
      match us, hul with
      | [z], _ =>
        have h1 := hall 0 _ z rfl rfl
        have h2 : [z] = [u] := hpk
        cases h2
        cases h1
        rfl
    have h0 := key (hargs 0 _ u rfl rfl)
    have h1 := key (hargs 1 _ v rfl rfl)
    subst h0; subst h1
    refine (h w).mono ?_
    rintro e w' ⟨rfl, hb⟩
    refine ⟨.string r, G, rfl, ⟨[.string r], rfl, rfl, fun k p u hp hu => ?_⟩, fun i a v h => by simp at h, ?_, fun b hb' => hout b (Nat.le_trans hb.size hb')⟩
    · cases k with
      | succ k => simp at hp
      | zero =>
        simp only [List.getElem?_cons_zero, Option.some.injEq] at hp hu
        subst hp; subst hu
        refine ⟨[.string r], rfl, rfl, fun j y u hy hu => ?_⟩
        cases j with
        | succ j => simp at hy
        | zero =>
          simp only [List.getElem?_cons_zero, Option.some.injEq] at hy hu
          subst hy; subst hu
          exact .sc rfl
    · exact ⟨fun b h => ⟨h, hb.block b (Nat.lt_of_not_le fun hle => by rw [hout b hle] at h; cases h)⟩, fun b hlt h => ⟨h, hb.block b hlt⟩, hb.size, hb.os, hb.tape, hb.output⟩
/-- strings.Trim(s, "#."), as far as a length that an int holds. -/
def trimF (a0 a1 : ByteArray) : Option ByteArray :=
  if a0.size ≤ 9223372036854775807 ∧ a1 = ByteArray.mk #[35, 46] then some ⟨(Go.Lib.trimS a0.data.toList [35, 46]).toArray⟩ else none
end Go.V

/- The value interpreter, part c: what stretches of a program do to typed values, rule by rule. Conditions: none. -/
import Derived.Test.YtdligmjpeclkcaaDoorVb
import Derived.Laws.BytesString
namespace Go.V
open Go Go.RowKit

section
variable {X : Cx} {st st' : St} {d : Nat} {t t' ty : TypeId} {x y z : Operand} {k : IntKind} {v : Value} {pos : String} {af : Array Edge} {g : Option (Nat × Bool)} {a : Act} {w w' : World} {G G' : Nat → Own} {vals vals' : Nat → Value} {C : List Nat}

theorem run_append_room_at {P : Program} {w : World} (t tx ty e e2 : TypeId) (i : TypeInfo) (ht : P.underlying t = some (.slice e)) (hi : P.info? e = some i) (b off sLen sCap : Nat) (x : Value) (n : Nat) (news : List Value) (hs : Src P i.size tx x n news w)
    (hroom : sLen + n ≤ sCap) {arr : Array Value} (hb : w.heap[b]? = some (.cells arr e2 (0, 0))) (hfit : off + sLen * i.size + news.length ≤ arr.size) :
    (Builtin.append_ #[t, tx] ty #[.slice (some ⟨b, off, none⟩) sLen sCap, x]).run P w = .ok (.slice (some ⟨b, off, none⟩) (sLen + n) sCap) (w.setRow b (over arr.toList (off + sLen * i.size) news).toArray) := by
  have hst := run_storeCells_at P b (off + sLen * i.size) e2 news 0 arr w hb (by simpa using hfit) hs.one
  simp only [Nat.add_zero] at hst
  rcases hs.kind with ⟨e', hk⟩ | hk <;> simp [Builtin.append_, run_underlying ht, run_underlying hk, sizeOf, typeInfo, hi, hs.len, hroom, hs.cells, Addr.add_lit, hst, over]

/-- The row that an append gives, in whatever way. -/
theorem append_slot {n m sz b o c : Nat} {els ys : List (List T)} {f : Nat → Nat → Value} {news : List Value} {arr' : Array Value} {e2 : TypeId} (hG' : G' b = .at_ d [(0, 0)]) (hb' : w'.heap[b]? = some (.cells arr' e2 (0, 0))) (hn : n = els.length) (hm : m = ys.length) (hc : n + m ≤ c) (ha : o + c * sz ≤ arr'.size)
    (hr : ∀ r ∈ els, r.length = sz) (hr' : ∀ r ∈ ys, r.length = sz) (hold : ∀ i j t, elAt els i j = some t → arr'[o + i * sz + j]? = some (f i j) ∧ Rep G' w' d [(0, 0), (i, j)] (f i j) t)
    (hnew : ∀ (i j : Nat) t, elAt ys i j = some t → ∃ u, news[i * sz + j]? = some u ∧ arr'[o + n * sz + (i * sz + j)]? = some u ∧ Rep G' w' d [(0, 0), (n + i, j)] u t) :
    Rep G' w' d [(0, 0)] (.slice (some ⟨b, o, none⟩) (n + m) c) (.sl true sz (els ++ ys)) := by
  have hcase : ∀ (i j : Nat) t, elAt (els ++ ys) i j = some t → (i < n ∧ elAt els i j = some t) ∨ (n ≤ i ∧ elAt ys (i - n) j = some t) := by
    intro i j t h
    simp only [elAt, List.getElem?_append] at h
    subst hn
    split at h
    · rename_i hlt; exact .inl ⟨hlt, h⟩
    · rename_i hlt; exact .inr ⟨by omega, h⟩
  refine .own (fun i j => if i < n then f i j else (news[(i - n) * sz + j]?).getD default) hG' (by simp [hn, hm]) hc (fun r h => (List.mem_append.1 h).elim (hr r) (hr' r)) hb' ha (fun i j t h => ?_) (fun i j t h => ?_)
  · simp only [World.cell?, hb']
    rcases hcase i j t h with ⟨hi, h1⟩ | ⟨hi, h1⟩
    · rw [if_pos hi]; simpa using (hold i j t h1).1
    · obtain ⟨u, hu, hau, -⟩ := hnew _ _ _ h1
      rw [if_neg (show ¬ i < n by omega), hu]
      have : o + i * sz + j = o + n * sz + ((i - n) * sz + j) := by
        have : i * sz = n * sz + (i - n) * sz := by rw [← Nat.add_mul]; congr 1; omega
        omega
      rw [this]
      simpa using hau
  · rcases hcase i j t h with ⟨hi, h1⟩ | ⟨hi, h1⟩
    · simp only [if_pos hi]; exact (hold i j t h1).2
    · obtain ⟨u, hu, -, hru⟩ := hnew _ _ _ h1
      simp only [if_neg (show ¬ i < n by omega), hu, Option.getD_some]
      rwa [show n + (i - n) = i by omega] at hru

/-- xs = append(xs, ys...) where xs is a row of ours. -/
theorem OS_append {r : Nat} {π : Path} {e tx e' : TypeId} {sz by_ : Nat} {els ys : List (List T)} {zs : List T} {sy : Option Nat} (hx : OwnAt X st x r π) (hat : st.at_ r π = some (.sl true sz els)) (hy : Srcs X st C sz y sy ys) (hC : C = sy.toList) (hrC : r ∉ C) (hrd : r ≠ d) (hdC : d ∉ C)
    (he : elem? X.P t = some (e, sz)) (hsz : sz ≠ 0) (hz : Zeros X.P e zs) (hzl : zs.length = sz) (hby : (X.P.info? e).map (·.bytes) = some by_) (hk : X.P.underlying tx = some (.slice e')) (hh : ∀ i j t, elAt ys i j = some t → t.here = true)
    (hB : (els.length + ys.length) * by_ ≤ 140737488355328) (h63 : ((els.length + ys.length : Nat) : Int) ≤ 9223372036854775807) (hf : X.free d = true) :
    OStep X ⟨some d, .call { callee := .builtin .append, args := #[x, y], argTypes := #[t, tx] }, ty, pos, af, g⟩ st (((st.kill C).setAt r π .gone).put d (one (.sl true sz (els ++ ys)))) := by
  rintro a w next Qx ⟨G, vals, hA⟩ hnx
  obtain ⟨sz', els', hp⟩ := own_place hA hx
  have h2 := place_at hp
  rw [hat] at h2
  cases h2
  have hrep := place_rep hA.inv hp
  unfold elem? at he
  split at he
  rotate_left
  · cases he
  rename_i e0 hu
  obtain ⟨sz0, hcs, hx0⟩ := Option.map_eq_some_iff.1 he
  cases hx0
  obtain ⟨i, hi, his⟩ := Option.map_eq_some_iff.1 hcs
  obtain ⟨i', hi', hib⟩ := Option.map_eq_some_iff.1 hby
  rw [hi] at hi'
  cases hi'
  obtain ⟨zv, hzv, hzl', -⟩ := hz
  rw [hi] at hzv
  simp only [Option.bind_some] at hzv
  subst his
  obtain ⟨news, hsrc, hry, hyrep⟩ := srcs_src (d := d) hA hk hsz hy hh
  cases π with
  | nil => simp [place] at hp
  | cons qk π =>
  obtain ⟨kq, jq⟩ := qk
  let st1 := ((st.kill C).setAt r ((kq, jq) :: π) .gone).put d (one (.sl true i.size (els ++ ys)))
  let G1 := relab G d (some (r, (kq, jq) :: π)) sy els.length
  have hst : ∀ s, ¬ (s = d ∨ s = r ∨ s ∈ C) → st1 s = st s := fun s h => by simp only [not_or] at h; simp only [st1, St.setAt]; rw [put_ne _ _ h.1, put_ne _ _ h.2.1, kill_not _ h.2.2]
  have hva : ∀ (v : Value) s, ¬ (s = d ∨ s = r ∨ s ∈ C) → upd vals d v s = vals s := fun v s h => by simp only [not_or] at h; exact upd_ne _ _ h.1
  have hver : ∀ s, (s = d ∨ s = r ∨ s ∈ C) → (st s).ver < (st1 s).ver := by
    intro s h
    simp only [st1, St.setAt]
    by_cases hd : s = d
    · subst hd; rw [put_same, put_ne _ _ (Ne.symm hrd), kill_not _ hdC]; simp
    · rw [put_ne _ _ hd]
      by_cases hr : s = r
      · subst hr; rw [put_same, kill_not _ hrC]; simp
      · rw [put_ne _ _ hr, kill_mem _ ((h.resolve_left hd).resolve_left hr)]; simp
  have hsyC : ∀ q, sy = some q → q ∈ C := fun q h => by rw [hC, h]; simp
  -- whatever the new world is
  have fin : ∀ (v : Value) (G' : Nat → Own) (w' : World) (ch : Nat → Prop), (∀ b, b < w.heap.size → G' b = G1 b) → (∀ b, b < w.heap.size → ¬ ch b → w'.heap[b]? = w.heap[b]?) → (∀ b, ch b → G b = .at_ r ((kq, jq) :: π)) → w.heap.size ≤ w'.heap.size → (∀ b, w'.heap.size ≤ b → G' b = .outer) → w'.os = w.os → w'.tape = w.tape → w'.output = w.output →
      ((∀ b, G b = .pers → G' b = .pers ∧ w'.heap[b]? = w.heap[b]?) → (∀ b ρ, G b = .at_ r ((kq, jq) :: π ++ ρ) → ρ ≠ [] → G' b = .at_ d ((0, 0) :: ρ) ∧ w'.heap[b]? = w.heap[b]?) → (∀ b q i j ρ, sy = some q → G b = .at_ q ((0, 0) :: (i, j) :: ρ) → G' b = .at_ d ((0, 0) :: (els.length + i, j) :: ρ) ∧ w'.heap[b]? = w.heap[b]?) → Rep G' w' d [(0, 0)] v (.sl true i.size (els ++ ys))) →
      All X st1 (a.put (some d) v) w' := by
    intro v G' w' ch hold hheap hch hsize hfr hos htp hout hrepd
    have hlt : ∀ b, G b ≠ .outer → b < w.heap.size := fun b h => Nat.lt_of_not_le fun hle => h (hA.inv.alloc b hle)
    have hpers : ∀ b, G b = .pers → G' b = .pers ∧ w'.heap[b]? = w.heap[b]? := fun b h => by
      have hl := hlt b (by simp [h])
      exact ⟨by rw [hold b hl]; exact relab_pers h, hheap b hl fun hc => by rw [hch b hc] at h; cases h⟩
    have hoK : ∀ b s ρ, G b = .at_ s ρ → ¬ (s = d ∨ s = r ∨ s ∈ C) → G' b = .at_ s ρ ∧ w'.heap[b]? = w.heap[b]? := fun b s ρ h hs => by
      simp only [not_or] at hs
      have hl := hlt b (by simp [h])
      refine ⟨by rw [hold b hl]; exact relab_else h (fun r' π' e => by cases e; exact fun hh => hs.2.1 hh.1.symm) (fun e => hs.2.2 (hsyC s e)), hheap b hl fun hc => ?_⟩
      rw [hch b hc] at h
      cases h
      exact hs.2.1 rfl
    have hor : ∀ b ρ, G b = .at_ r ρ → ¬ ((kq, jq) :: π) <+: ρ → G' b = .at_ r ρ ∧ w'.heap[b]? = w.heap[b]? := fun b ρ h hn => by
      have hl := hlt b (by simp [h])
      refine ⟨by rw [hold b hl]; exact relab_else h (fun r' π' e => by cases e; exact fun hh => hn hh.2) (fun e => hrC (hsyC r e)), hheap b hl fun hc => ?_⟩
      rw [hch b hc] at h
      cases h
      exact hn (List.prefix_refl _)
    refine ⟨G', upd vals d v, hA.step (K := fun s => s = d ∨ s = r ∨ s ∈ C) hst (hva v) hver ?_ hoK ?_ hfr (free_pin hf v hA.inv.pin) hsize hos htp hout hA.defers (by simp [Act.put, hA.size]) (Act.put_link hA)⟩
    · rintro b (h | ⟨h, hb⟩)
      · have := hpers b h; exact ⟨by rw [this.1, h], this.2⟩
      · exact ⟨by rw [hold b hb, h]; exact relab_outer h, hheap b hb fun hc => by rw [hch b hc] at h; cases h⟩
    · intro _ s hs
      by_cases hd : s = d
      · subst hd
        simp only [st1]
        rw [put_same]
        simp only [upd, if_true]
        refine slotRep_one.2 (hrepd hpers (fun b ρ h hne => ?_) (fun b q i j ρ hq h => ?_))
        · have hl := hlt b (by simp [h])
          refine ⟨by rw [hold b hl]; exact relab_src h, hheap b hl fun hc => ?_⟩
          rw [hch b hc] at h
          simp at h
          exact hne h
        · have hl := hlt b (by simp [h])
          refine ⟨by rw [hold b hl]; simp only [G1, hq]; exact relab_lit h (fun r' π' e => by cases e; rintro rfl; exact hrC (hsyC _ hq)), hheap b hl fun hc => ?_⟩
          rw [hch b hc] at h
          cases h
          exact hrC (hsyC _ hq)
      · by_cases hr : s = r
        · subst hr
          have e1 : (st1 s).sv = (st s).sv.mod kq jq fun x => x.setAt π .gone := by
            simp only [st1]
            rw [put_ne _ _ hd]
            show (((st.kill C).put s ((st.kill C s).sv.mod kq jq _)) s).sv = _
            rw [put_same, kill_not _ hrC]
          rw [e1, upd_ne _ _ hd]
          exact slot_replace hA.inv hst (hva v) hver hpers hoK hp .gone hor
        · have e1 : (st1 s).sv = .dead := by
            simp only [st1, St.setAt]
            rw [put_ne _ _ hd, put_ne _ _ hr, kill_mem _ ((hs.resolve_left hd).resolve_left hr)]
          rw [e1]; trivial
  -- the slice that is appended to
  have exec : ∀ {v : Value} {w' : World}, (Builtin.append_ #[t, tx] ty #[a.eval x, a.eval y]).run X.P w = .ok v w' →
      (execOp a.eval ⟨some d, .call { callee := .builtin .append, args := #[x, y], argTypes := #[t, tx] }, ty, pos, af, g⟩).run X.P w = .ok (.value v) w' := by
    intro v w' h
    simp [execOp, resolve, invoke, builtin, h]
  have grow : ∀ (base : Option Addr) (n c : Nat) (olds : List Value) (f : Nat → Nat → Value), a.eval x = .slice base n c → n = els.length → c < n + ys.length → (∀ r ∈ els, r.length = i.size) → olds.length = n * i.size →
      (∀ b, base = some b → ∀ (j : Nat) u, olds[j]? = some u → w.cell? (b.add j) = some u) → (base = none → n = 0) → (∀ i' j t, elAt els i' j = some t → olds[i' * i.size + j]? = some (f i' j)) →
      (∀ (G' : Nat → Own) (w' : World), (∀ b, G b = .pers → G' b = .pers ∧ w'.heap[b]? = w.heap[b]?) → (∀ b ρ, G b = .at_ r ((kq, jq) :: π ++ ρ) → ρ ≠ [] → G' b = .at_ d ((0, 0) :: ρ) ∧ w'.heap[b]? = w.heap[b]?) → ∀ i' j t, elAt els i' j = some t → Rep G' w' d [(0, 0), (i', j)] (f i' j) t) →
      Oper.wp X.P ⟨some d, .call { callee := .builtin .append, args := #[x, y], argTypes := #[t, tx] }, ty, pos, af, g⟩ a w next Qx := by
    intro base n c olds f hex hn hc hrr hol hoc hbn hof hor
    have hB' : Builtin.nextslicecap (n + ys.length) c * i.bytes ≤ 281474976710656 := growslice_fits hc (by rw [hn, hib]; exact hB)
    have hof' : (Builtin.firstCells i.size n (.slice base n c)).run X.P w.drew = .ok olds.toArray w.drew := by
      cases base with
      | none =>
        have := hbn rfl
        subst this
        have : olds = [] := List.eq_nil_of_length_eq_zero (by simpa using hol)
        subst this
        exact run_firstCells_none _ _ _ _ _
      | some b => exact run_firstCells_some w.drew i.size n b n c olds hol (fun j v h => by simpa using hoc b rfl j v h)
    have run := run_append_grow_src w t tx ty e i zv hu hi hzv base n c olds hof' (a.eval y) ys.length news hsrc hc (by rw [hn]; exact h63) hB'
    have hcap := grownCap_ge w (n + ys.length) c e
    generalize grownCap w (n + ys.length) c e = cap at run hcap
    rw [← hex] at run
    unfold Oper.wp
    rw [exec run, Oper.upon_value]
    have hnl : news.length = ys.length * i.size := hsrc.newsLen
    generalize harr : (olds ++ news).toArray ++ Builtin.zeroCells zv.cells (cap - (n + ys.length)) = arr'
    have hsizeA : arr'.size = cap * i.size := by
      rw [← harr]
      simp only [Array.size_append, List.size_toArray, List.length_append, hol, hnl, size_zeroCells, hzl', hzl]
      rw [← Nat.add_mul, ← Nat.add_mul]; congr 1; omega
    have f1 : (w.drew.alloc (.cells arr' e)).heap = w.heap.push (.cells arr' e) := rfl
    have f2 : (w.drew.alloc (.cells arr' e)).os = w.os := rfl
    have f3 : (w.drew.alloc (.cells arr' e)).tape = w.tape := rfl
    have f4 : (w.drew.alloc (.cells arr' e)).output = w.output := rfl
    generalize w.drew.alloc (.cells arr' e) = w2 at f1 f2 f3 f4 ⊢
    have f5 : w2.heap.size = w.heap.size + 1 := by rw [f1]; simp
    have hnew : w2.heap[w.heap.size]? = some (.cells arr' e (0, 0)) := by rw [f1]; simp
    obtain ⟨G2, hG2⟩ : ∃ G2 : Nat → Own, G2 = fun b => if b = w.heap.size then .at_ d [(0, 0)] else G1 b := ⟨_, rfl⟩
    refine hnx _ _ (fin _ G2 w2 (fun _ => False) (fun b hb => by simp [hG2, show b ≠ w.heap.size by omega]) (fun b hb _ => ?_) (fun b h => h.elim) (by omega) (fun b hb => ?_) f2 f3 f4 fun hpers hsrcl hlit => ?_)
    · rw [f1, Array.getElem?_push, if_neg (by omega)]
    · simp only [hG2, if_neg (show b ≠ w.heap.size by omega)]
      exact relab_outer (hA.inv.alloc b (by omega))
    · refine append_slot (f := f) (news := news) (arr' := arr') (e2 := e) (by simp [hG2]) hnew hn rfl hcap (by rw [hsizeA]; simp) hrr hry (fun i' j t h => ⟨?_, hor _ _ hpers hsrcl i' j t h⟩) (fun i' j t h => ?_)
      · have h3 := hof _ _ _ h
        have hlt := (List.getElem?_eq_some_iff.1 h3).1
        rw [← harr, Nat.zero_add]
        rw [Array.getElem?_append_left (by simp; omega), List.getElem?_toArray, List.getElem?_append_left hlt]
        exact h3
      · obtain ⟨u, hu', hall⟩ := hyrep i' j t h
        have hlt := (List.getElem?_eq_some_iff.1 hu').1
        refine ⟨u, hu', ?_, ?_⟩
        · rw [← harr, Nat.zero_add]
          rw [Array.getElem?_append_left (by simp; omega), List.getElem?_toArray, List.getElem?_append_right (by omega)]
          rw [← hu']; congr 1; omega
        · rw [hn]; exact hall _ _ _ hpers (fun b q i j ρ hq h => hlit b q i j ρ hq h)
  generalize hex : a.eval x = u at hrep hp
  cases hrep with
  | nil =>
    rename_i A
    by_cases hy0 : ys.length = 0
    · have hys : ys = [] := List.eq_nil_of_length_eq_zero hy0
      subst hys
      have hnews : news = [] := List.eq_nil_of_length_eq_zero (by have := hsrc.newsLen; simpa using this)
      subst hnews
      have run := run_append_nothing w t tx ty e i hu hi A 0 0 (Nat.le_refl _) (a.eval y) hsrc
      unfold Oper.wp
      rw [exec (by rw [hex]; exact run), Oper.upon_value]
      refine hnx _ _ (fin _ G1 w (fun _ => False) (fun b _ => rfl) (fun b _ _ => rfl) (fun b h => h.elim) (Nat.le_refl _) (fun b hb => relab_outer (hA.inv.alloc b hb)) rfl rfl rfl fun _ _ _ => ?_)
      simpa using Rep.nil
    · exact grow A 0 0 [] (fun _ _ => default) hex rfl (by omega) (by simp) (by simp) (by simp) (fun _ => rfl) (fun i' j t h => by simp [elAt] at h) (fun _ _ _ _ i' j t h => by simp [elAt] at h)
  | own f hG hn hc hrr hb ha hv ht =>
    rename_i b o n c arr ty2
    have hmv : ∀ (G' : Nat → Own) (w' : World), (∀ b, G b = .pers → G' b = .pers ∧ w'.heap[b]? = w.heap[b]?) → (∀ b ρ, G b = .at_ r ((kq, jq) :: π ++ ρ) → ρ ≠ [] → G' b = .at_ d ((0, 0) :: ρ) ∧ w'.heap[b]? = w.heap[b]?) → ∀ i' j t, elAt els i' j = some t → Rep G' w' d [(0, 0), (i', j)] (f i' j) t := by
      intro G' w' hpers hsrcl i' j t h
      exact (ht i' j t h).move hpers fun b ρ hb => hsrcl b _ (by rw [hb]; simp) (by simp)
    by_cases hroom : n + ys.length ≤ c
    · have hnl : news.length = ys.length * i.size := hsrc.newsLen
      have hfit : o + n * i.size + news.length ≤ arr.size := by
        have := Nat.mul_le_mul_right i.size hroom
        rw [Nat.add_mul] at this
        omega
      have run := run_append_room_at (w := w) (P := X.P) t tx ty e ty2 i hu hi b o n c (a.eval y) ys.length news hsrc hroom hb hfit
      let arr' := (over arr.toList (o + n * i.size) news).toArray
      have hsizeA : arr'.size = arr.size := by
        simp only [arr', List.size_toArray]
        rw [over_len (by simpa using hfit)]; simp
      have hnew : (w.setRow b arr').heap[b]? = some (.cells arr' ty2 (0, 0)) := setRow_heap w b arr arr' ty2 (0, 0) hb
      unfold Oper.wp
      rw [exec (by rw [hex]; exact run), Oper.upon_value]
      refine hnx _ _ (fin _ G1 (w.setRow b arr') (fun b' => b' = b) (fun b' _ => rfl) (fun b' _ hne => setRow_other w b b' arr' hne) (fun b' h => by rw [h]; exact hG) (by simp) (fun b' hb' => relab_outer (hA.inv.alloc b' (by simpa using hb'))) rfl rfl rfl fun hpers hsrcl hlit => ?_)
      refine append_slot (f := f) (news := news) (arr' := arr') (e2 := ty2) (relab_src (ρ := []) (by simpa using hG)) hnew hn rfl hroom (by rw [hsizeA]; exact ha) hrr hry (fun i' j t h => ⟨?_, hmv _ _ hpers hsrcl i' j t h⟩) (fun i' j t h => ?_)
      · have h3 := hv _ _ _ h
        simp only [World.cell?, hb, Option.isSome_none, Bool.false_eq_true, if_false] at h3
        have hi' : i' < n := by
          rw [hn]
          obtain ⟨r1, hr1, -⟩ := Option.bind_eq_some_iff.1 h
          exact (List.getElem?_eq_some_iff.1 hr1).1
        have hj : j < i.size := by
          obtain ⟨r1, hr1, hr2⟩ := Option.bind_eq_some_iff.1 h
          rw [← hrr r1 (List.mem_of_getElem? hr1)]
          exact (List.getElem?_eq_some_iff.1 hr2).1
        have hlt : i' * i.size + j < n * i.size := by
          have := Nat.mul_le_mul_right i.size (show i' + 1 ≤ n by omega)
          rw [Nat.add_mul] at this
          omega
        simp only [arr', List.getElem?_toArray]
        rw [over_get (by simpa using hfit), if_neg (by omega)]
        simpa using h3
      · obtain ⟨u, hu', hall⟩ := hyrep i' j t h
        have hlt := (List.getElem?_eq_some_iff.1 hu').1
        refine ⟨u, hu', ?_, ?_⟩
        · simp only [arr', List.getElem?_toArray]
          rw [over_get (by simpa using hfit), if_pos (by omega), ← hu']
          congr 1; omega
        · rw [hn]; exact hall _ _ _ hpers (fun b q i j ρ hq h => hlit b q i j ρ hq h)
    · obtain ⟨olds, hol, hoall⟩ := flat_of f hrr hsz
      rw [← hn] at hol
      refine grow (some ⟨b, o, none⟩) n c olds f hex hn (by omega) hrr hol (fun b' he j u hj => ?_) (fun h => by cases h) (fun i' j t h => ?_) hmv
      · cases he
        obtain ⟨rfl, -, -, hmm, t, ht'⟩ := hoall j u hj
        rw [addr_add]
        have := hv _ _ _ ht'
        rw [← this]; congr 2; omega
      · have hi' : i' < n := by
          rw [hn]
          obtain ⟨r1, hr1, -⟩ := Option.bind_eq_some_iff.1 h
          exact (List.getElem?_eq_some_iff.1 hr1).1
        have hj : j < i.size := by
          obtain ⟨r1, hr1, hr2⟩ := Option.bind_eq_some_iff.1 h
          rw [← hrr r1 (List.mem_of_getElem? hr1)]
          exact (List.getElem?_eq_some_iff.1 hr2).1
        have hlt : i' * i.size + j < olds.length := by
          rw [hol]
          have := Nat.mul_le_mul_right i.size (show i' + 1 ≤ n by omega)
          rw [Nat.add_mul] at this
          omega
        obtain ⟨h2, -⟩ := hoall _ _ (List.getElem?_eq_getElem hlt)
        rw [List.getElem?_eq_getElem hlt, h2]
        rw [show (i' * i.size + j) / i.size = i' by rw [Nat.mul_comm, Nat.mul_add_div (by omega), Nat.div_eq_of_lt hj, Nat.add_zero], show (i' * i.size + j) % i.size = j by rw [Nat.mul_comm, Nat.mul_add_mod, Nat.mod_eq_of_lt hj]]
end
end Go.V
namespace Go.V
open Go Go.RowKit

/-- What is handed in: cells that nobody writes; a struct of the caller's, by its address; cells with rows of the caller's; a builder of the caller's. -/
inductive Arg where
  | sh (ag : Bool) (ts : List T)
  | mu (cs : List T)
  | mv (ag : Bool) (ts : List T)
  | bl (T e : TypeId) (x : ByteArray)

def BoxRep (G : Nat → Own) (w : World) (s : Nat) (v : Value) (cs : List T) : Prop :=
  ∃ b arr ty, v = .pointer (some ⟨b, 0, none⟩) ∧ G b = .at_ s [] ∧ w.heap[b]? = some (.cells arr ty (0, 0)) ∧ arr.size = cs.length ∧
    ∀ (j : Nat) t u, cs[j]? = some t → arr[j]? = some u → Rep G w s [(0, j)] u t

/-- Cells of a value, at a slot's component. -/
def TsRep (G : Nat → Own) (w : World) (s k : Nat) (ag : Bool) (v : Value) (ts : List T) : Prop :=
  ∃ us, Pack ag us v ∧ us.length = ts.length ∧ ∀ (j : Nat) y u, ts[j]? = some y → us[j]? = some u → Rep G w s [(k, j)] u y

def ArgRep (G : Nat → Own) (w : World) (i : Nat) (v : Value) : Arg → Prop
  | .sh ag ts => (∀ y ∈ ts, y.free = true) ∧ TsRep G w i 0 ag v ts
  | .mu cs => BoxRep G w i v cs
  | .mv ag ts => TsRep G w i 0 ag v ts
  | .bl T e x => BldRep G w i v T e x

/-- Where results are put for the caller to take. -/
def RES : Nat := 1000000

def tupled : List Value → Value
  | [v] => v
  | vs => .tuple vs.toArray

def ResRep (G : Nat → Own) (w : World) (v : Value) (res : List (Bool × List T)) : Prop :=
  ∃ vs, v = tupled vs ∧ vs.length = res.length ∧ ∀ (k : Nat) p u, res[k]? = some p → vs[k]? = some u → TsRep G w RES k p.1 u p.2

/-- WHAT A CALL COMES TO: for all that represents the arguments, results that represent 'res', what was handed in by address as 'fin' says, all else as it was. -/
def VC (P : Program) (g : FuncId) (args : List Arg) (res : List (Bool × List T)) (fin : List (Option Arg)) : Prop :=
  ∀ (G : Nat → Own) (w : World) (vs : List Value), vs.length = args.length → (∀ (i : Nat) a v, args[i]? = some a → vs[i]? = some v → ArgRep G w i v a) → (∀ b, w.heap.size ≤ b → G b = .outer) →
    Calls P g vs.toArray w fun e w' => ∃ v G', e = .returned v ∧ ResRep G' w' v res ∧ (∀ (i : Nat) a v, fin[i]? = some (some a) → vs[i]? = some v → ArgRep G' w' i v a) ∧ Base G w G' w' ∧ (∀ b, w'.heap.size ≤ b → G' b = .outer)

def argSV : Arg → SV
  | .sh ag ts => .val ag (ts.map .t)
  | .mu cs => .box cs
  | .mv ag ts => .val ag (ts.map .t)
  | .bl T e x => .bld T e x
def argPin : Arg → Bool
  | .sh _ _ => false
  | _ => true

/-- The state in which a body begins. -/
def St0 (args : List Arg) : St := fun s => match args[s]? with | some a => ⟨0, argSV a⟩ | none => ⟨0, .dead⟩
def pins0 (pv : Nat → Value) : Nat → List Arg → List (Nat × Value)
  | _, [] => []
  | i, a :: as => if argPin a then (i, pv i) :: pins0 pv (i + 1) as else pins0 pv (i + 1) as

theorem pins0_mem (pv : Nat → Value) : ∀ (i : Nat) (as : List Arg), ∀ p ∈ pins0 pv i as, p.2 = pv p.1
  | _, [], p, h => by simp [pins0] at h
  | i, a :: as, p, h => by
    simp only [pins0] at h
    split at h
    · rcases List.mem_cons.1 h with rfl | h
      · rfl
      · exact pins0_mem pv (i + 1) as p h
    · exact pins0_mem pv (i + 1) as p h
theorem pins0_has (pv : Nat → Value) : ∀ (as : List Arg) (i j : Nat) a, as[j]? = some a → argPin a = true → (i + j, pv (i + j)) ∈ pins0 pv i as
  | [], _, _, _, h, _ => by simp at h
  | a :: as, i, 0, b, h, hp => by
    simp only [List.getElem?_cons_zero, Option.some.injEq] at h
    subst h
    simp [pins0, hp]
  | a :: as, i, j + 1, b, h, hp => by
    have := pins0_has pv as (i + 1) j b (by simpa using h) hp
    rw [show i + 1 + j = i + (j + 1) by omega] at this
    simp only [pins0]
    split
    · exact List.mem_cons_of_mem _ this
    · exact this

/-- A result, as the body leaves it. -/
def ResIs (N : Nat) (st : St) : ResultVar → Bool × List T → Prop
  | .tmp t, p => t < N ∧ (st t).sv = .val p.1 (p.2.map .t)
  | .cell a _, p => a < N ∧ (st a).sv = .box p.2
def resSlot : ResultVar → Nat
  | .tmp t => t
  | .cell a _ => a

/-- The result cells' owner becomes the place of results. -/
def resOwn (G : Nat → Own) (rs : List ResultVar) : Nat → Own := fun b => match G b with
  | .at_ s ((0, j) :: ρ) => (match (rs.map resSlot).idxOf? s with | some k => .at_ RES ((k, j) :: ρ) | none => .at_ s ((0, j) :: ρ))
  | o => o

/-- What a body has to leave: results in slots of their own, what came by address where it was. -/
structure Leaves (X : Cx) (fn : Func) (args : List Arg) (res : List (Bool × List T)) (fin : List (Option Arg)) (st : St) : Prop where
  len : fn.results.size = res.length
  each : ∀ (k : Nat) r p, fn.results[k]? = some r → res[k]? = some p → ResIs X.N st r p
  nodup : (fn.results.toList.map resSlot).Nodup
  cell : ∀ (k : Nat) a t p, fn.results[k]? = some (.cell a t) → res[k]? = some p → cells? X.P t = some p.2.length ∧ isAgg? X.P t = some p.1 ∧ (p.1 = false → p.2.length = 1)
  back : ∀ (i : Nat) a, fin[i]? = some (some a) → (st i).sv = argSV a ∧ argPin a = true ∧ (∃ a0, args[i]? = some a0 ∧ argPin a0 = true) ∧ i ∉ fn.results.toList.map resSlot

section
variable {P : Program} {X : Cx} {st : St} {a : Act} {w w' : World} {G G' : Nat → Own} {vals : Nat → Value}

theorem resOwn_pers {rs : List ResultVar} {b : Nat} (h : G b = .pers) : resOwn G rs b = .pers := by simp [resOwn, h]
theorem resOwn_else {rs : List ResultVar} {b s : Nat} {ρ : Path} (h : G b = .at_ s ρ) (hs : s ∉ rs.map resSlot) : resOwn G rs b = .at_ s ρ := by
  rcases ρ with _ | ⟨⟨k, j⟩, ρ⟩
  · simp [resOwn, h]
  · cases k with
    | zero => simp [resOwn, h, List.idxOf?_eq_none_iff.2 hs]
    | succ k => simp [resOwn, h]
theorem resOwn_res {rs : List ResultVar} {b k j : Nat} {ρ : Path} {r : ResultVar} (hn : (rs.map resSlot).Nodup) (hk : rs[k]? = some r) (h : G b = .at_ (resSlot r) ((0, j) :: ρ)) : resOwn G rs b = .at_ RES ((k, j) :: ρ) := by
  have hlt : k < (rs.map resSlot).length := by simpa using (List.getElem?_eq_some_iff.1 hk).1
  have : (rs.map resSlot).idxOf? (resSlot r) = some k := by
    have he : (rs.map resSlot)[k]'hlt = resSlot r := by simp [(List.getElem?_eq_some_iff.1 hk).2]
    rw [List.idxOf?, List.findIdx?_eq_some_iff_getElem]
    refine ⟨hlt, by simp [he], fun j' hj' => ?_⟩
    simp only [beq_iff_eq, ← he]
    intro hh
    have := (List.getElem_inj hn).1 hh
    omega
  simp [resOwn, h, this]

def resRead (a : Act) : ResultVar → Sem Value
  | .tmp t => pure (a.tmps.getD t undef)
  | .cell c t => do loadVar t (← asAddr (a.tmps.getD c undef))
theorem results_eq (fn : Func) (a : Act) : results fn a.tmps = (do let vs ← fn.results.mapM (resRead a); pure (if h : vs.size = 1 then vs[0] else .tuple vs)) := by
  unfold results
  have : (fun r : ResultVar => (match r with | .tmp t => pure (a.tmps.getD t undef) | .cell c t => do loadVar t (← asAddr (a.tmps.getD c undef)) : Sem Value)) = resRead a := by funext r; cases r <;> rfl
  rw [← this]
  rfl

/-- The results are read: as they were left. -/
theorem results_run (hA : Alls X st a w G vals) {fn : Func} {args : List Arg} {res : List (Bool × List T)} {fin : List (Option Arg)} (hL : Leaves X fn args res fin st) :
    ∃ v, (results fn a.tmps).run X.P w = .ok v w ∧ ResRep (resOwn G fn.results.toList) w v res := by
  have each : ∀ (k : Nat) r p, fn.results[k]? = some r → res[k]? = some p → ∃ u, (resRead a r).run X.P w = .ok u w ∧ TsRep (resOwn G fn.results.toList) w RES k p.1 u p.2 := by
    intro k r p hr hp
    have hk : fn.results.toList[k]? = some r := by simpa using hr
    have hi := hL.each k r p hr hp
    cases r with
    | tmp t =>
      obtain ⟨hN, hsv⟩ := hi
      refine ⟨vals t, ?_, ?_⟩
      · show (pure (a.tmps.getD t undef) : Sem Value).run X.P w = _
        rw [show a.tmps.getD t undef = vals t from hA.link t hN]; rfl
      · have hs := hA.inv.slots t
        rw [hsv] at hs
        obtain ⟨us, hpk, hl, hall⟩ := hs
        refine ⟨us, hpk, by simpa using hl, fun j y u hy hu => ?_⟩
        have h1 : CellRep G w st vals t 0 j u (.t y) := hall j (.t y) u (by simp [hy]) hu
        exact Rep.move h1 (fun b h => ⟨resOwn_pers h, rfl⟩) fun b ρ hb => ⟨resOwn_res hL.nodup hk (by simpa [resSlot] using hb), rfl⟩
    | cell c t =>
      obtain ⟨hN, hsv⟩ := hi
      obtain ⟨hc1, hc2, hc3⟩ := hL.cell k c t p hr hp
      have hs := hA.inv.slots c
      rw [hsv] at hs
      obtain ⟨b, arr, ty, hv, hG, hb, hl, hall⟩ := hs
      obtain ⟨u, hrun, hpk⟩ := loadVar_run (b := b) (o := 0) (w := w) (P := X.P) hc1 hc2 hc3 arr.toList (by simpa using hl) (fun j u hu => by simp only [World.cell?, hb, Nat.zero_add]; simpa using hu)
      refine ⟨u, ?_, arr.toList, hpk, by simpa using hl, fun j y u' hy hu => ?_⟩
      · show (do loadVar t (← asAddr (a.tmps.getD c undef)) : Sem Value).run X.P w = _
        rw [show a.tmps.getD c undef = vals c from hA.link c hN, hv]
        simpa [asAddr, Instr.loadAt, Instr.sureAddr] using hrun
      · exact (hall j y u' hy (by simpa using hu)).move (fun b h => ⟨resOwn_pers h, rfl⟩) fun b ρ hb => ⟨resOwn_res hL.nodup hk (by simpa [resSlot] using hb), rfl⟩
  have list : ∀ (l : List ResultVar) (n : Nat), (∀ (k : Nat) r, l[k]? = some r → fn.results[n + k]? = some r) → n + l.length ≤ res.length →
      ∃ vs : List Value, (l.mapM fun r => resRead a r).run X.P w = .ok vs w ∧ vs.length = l.length ∧
        ∀ (k : Nat) p u, res[n + k]? = some p → vs[k]? = some u → TsRep (resOwn G fn.results.toList) w RES (n + k) p.1 u p.2 := by
    intro l
    induction l with
    | nil => intro n _ _; exact ⟨[], rfl, rfl, fun k p u _ h => by simp at h⟩
    | cons r l ih =>
      intro n hl hlen
      simp only [List.length_cons] at hlen
      obtain ⟨p, hp⟩ : ∃ p, res[n]? = some p := ⟨res[n]'(by omega), List.getElem?_eq_getElem _⟩
      obtain ⟨u, hu, hrep⟩ := each n r p (by simpa using hl 0 r rfl) hp
      obtain ⟨vs, hvs, hvl, hall⟩ := ih (n + 1) (fun k r' h => by have := hl (k + 1) r' (by simpa using h); rwa [show n + 1 + k = n + (k + 1) by omega]) (by omega)
      refine ⟨u :: vs, ?_, by simp [hvl], fun k q u' hq hu' => ?_⟩
      · rw [List.mapM_cons, Sem.run_bind, hu]
        simp only [Result.andThen_ok, Sem.run_bind]
        rw [hvs]
        rfl
      · cases k with
        | zero =>
          simp only [Nat.add_zero] at hq
          rw [hp] at hq
          cases hq
          simp only [List.getElem?_cons_zero, Option.some.injEq] at hu'
          subst hu'
          exact hrep
        | succ k =>
          have := hall k q u' (by rwa [show n + 1 + k = n + (k + 1) by omega]) (by simpa using hu')
          rwa [show n + 1 + k = n + (k + 1) by omega] at this
  obtain ⟨vs, hvs, hvl, hall⟩ := list fn.results.toList 0 (fun k r h => by simpa using h) (by simp [hL.len])
  refine ⟨tupled vs, ?_, vs, rfl, by rw [hvl]; simp [hL.len], fun k p u hp hu => by simpa using hall k p u (by simpa using hp) hu⟩
  rw [results_eq, Sem.run_bind, Array.mapM_eq_mapM_toList, Sem.run_map]
  rw [hvs]
  simp only [Result.andThen_ok]
  match vs with
  | [] => rfl
  | [v] => rfl
  | v :: v' :: vs => simp [tupled]
end

/-- A FUNCTION's CONTRACT OUT OF ITS BODY. -/
theorem VC_intro {P : Program} {g : FuncId} {fn : Func} {c : Code} {args : List Arg} {res : List (Bool × List T)} {fin : List (Option Arg)} (hfn : P.funcs[g]? = some fn) (hb : fn.body = some c) (hN : args.length ≤ fn.ntmps)
    (h : ∀ (G0 : Nat → Own) (w0 : World) (pv : Nat → Value), W ⟨P, fn.ntmps, pins0 pv 0 args, G0, w0⟩ c (St0 args) fun e st => (e = .normal ∨ e = .ret) ∧ Leaves ⟨P, fn.ntmps, pins0 pv 0 args, G0, w0⟩ fn args res fin st) :
    VC P g args res fin := by
  intro G w vs hlen hargs hfr
  let vals : Nat → Value := fun t => (vs.toArray ++ Array.replicate (fn.ntmps - vs.toArray.size) undef).getD t undef
  let pv : Nat → Value := fun t => (vs[t]?).getD undef
  have hvals : ∀ i v, vs[i]? = some v → vals i = v := by
    intro i v h
    have hlt := (List.getElem?_eq_some_iff.1 h).1
    simp only [vals, Array.getD_eq_getD_getElem?]
    rw [Array.getElem?_append_left (by simpa using hlt)]
    simp [h]
  refine calls_of_wp hfn hb ?_
  have hA : All ⟨P, fn.ntmps, pins0 pv 0 args, G, w⟩ (St0 args) { tmps := vs.toArray ++ Array.replicate (fn.ntmps - vs.toArray.size) undef, defers := [] } w := by
    refine ⟨G, vals, rfl, by simp; omega, fun t _ => rfl, ⟨fun s => ?_, hfr, fun p hp => ?_⟩, ⟨fun b hb => ⟨hb, rfl⟩, fun b _ hb => ⟨hb, rfl⟩, Nat.le_refl _, rfl, rfl, rfl⟩⟩
    · simp only [St0]
      cases ha : args[s]? with
      | none => trivial
      | some ar =>
        have hlt : s < vs.length := by rw [hlen]; exact (List.getElem?_eq_some_iff.1 ha).1
        have hv : vs[s]? = some vs[s] := List.getElem?_eq_getElem hlt
        have h1 := hargs s ar _ ha hv
        rw [hvals s _ hv]
        cases ar with
        | sh ag ts =>
          obtain ⟨hf, us, hpk, hl, hall⟩ := h1
          refine ⟨us, hpk, by simpa using hl, fun j c u hc hu => ?_⟩
          rw [List.getElem?_map] at hc
          obtain ⟨y, hy, rfl⟩ := Option.map_eq_some_iff.1 hc
          exact hall j y u hy hu
        | mu cs => exact h1
        | mv ag ts =>
          obtain ⟨us, hpk, hl, hall⟩ := h1
          refine ⟨us, hpk, by simpa using hl, fun j c u hc hu => ?_⟩
          rw [List.getElem?_map] at hc
          obtain ⟨y, hy, rfl⟩ := Option.map_eq_some_iff.1 hc
          exact hall j y u hy hu
        | bl T e x => exact h1
    · have h2 := pins0_mem pv 0 args p hp
      rw [h2]
      have : ∀ (i : Nat) (as : List Arg), (∀ p ∈ pins0 pv i as, p.1 < i + as.length) := by
        intro i as
        induction as generalizing i with
        | nil => intro p h; simp [pins0] at h
        | cons a as ih =>
          intro p h
          simp only [pins0] at h
          simp only [List.length_cons]
          split at h
          · rcases List.mem_cons.1 h with rfl | h
            · simp
            · have := ih (i + 1) p h; omega
          · have := ih (i + 1) p h; omega
      have hlt := this 0 args p hp
      simp only [Nat.zero_add] at hlt
      rw [← hlen] at hlt
      have hv : vs[p.1]? = some vs[p.1] := List.getElem?_eq_getElem hlt
      rw [hvals _ _ hv]
      simp [pv, hv]
  refine wp_mono (h G w pv _ _ hA) ?_
  rintro e a' w' ⟨st, ⟨G1, vals1, hA1⟩, he, hL⟩
  have fin' : bodyPost P fn (fun e w' => ∃ v G', e = .returned v ∧ ResRep G' w' v res ∧ (∀ (i : Nat) a v, fin[i]? = some (some a) → vs[i]? = some v → ArgRep G' w' i v a) ∧ Base G w G' w' ∧ (∀ b, w'.heap.size ≤ b → G' b = .outer)) .ret a' w' := by
    obtain ⟨v, hv, hres⟩ := results_run hA1 hL
    refine ⟨hA1.defers, v, hv, v, _, rfl, hres, fun i ar u hi hu => ?_, ?_, fun b hb => by simp [resOwn, hA1.inv.alloc b hb]⟩
    · obtain ⟨h1, h2, ⟨a0, h3, h4⟩, h5⟩ := hL.back i ar hi
      have hs := hA1.inv.slots i
      rw [h1] at hs
      have hpin : vals1 i = u := by
        have h6 := pins0_has pv args 0 i a0 h3 h4
        rw [Nat.zero_add] at h6
        have := hA1.inv.pin _ h6
        simp only at this
        rw [this]
        simp [pv, hu]
      rw [hpin] at hs
      have hmv : ∀ b ρ, G1 b = .at_ i ρ → resOwn G1 fn.results.toList b = .at_ i ρ ∧ w'.heap[b]? = w'.heap[b]? := fun b ρ hb => ⟨resOwn_else hb h5, rfl⟩
      have hpp : ∀ b, G1 b = .pers → resOwn G1 fn.results.toList b = .pers ∧ w'.heap[b]? = w'.heap[b]? := fun b hb => ⟨resOwn_pers hb, rfl⟩
      cases ar with
      | sh ag ts => simp [argPin] at h2
      | mu cs =>
        obtain ⟨b, arr, ty, hv, hG, hb, hl, hall⟩ := hs
        exact ⟨b, arr, ty, hv, (hmv b _ hG).1, hb, hl, fun j t u hj hu => (hall j t u hj hu).move hpp fun b ρ hb => hmv b _ hb⟩
      | mv ag ts =>
        obtain ⟨us, hpk, hl, hall⟩ := hs
        refine ⟨us, hpk, by simpa using hl, fun j y u hy hu => ?_⟩
        have h1 : CellRep G1 w' st vals1 i 0 j u (.t y) := hall j (.t y) u (by simp [hy]) hu
        exact Rep.move h1 hpp fun b ρ hb => hmv b _ hb
      | bl T e x => exact BldRep.move hs hmv
    · refine ⟨fun b h => ?_, fun b hb h => ?_, hA1.base.size, hA1.base.os, hA1.base.tape, hA1.base.output⟩
      · have h2 := hA1.base.pers b h; exact ⟨resOwn_pers h2.1, h2.2⟩
      · have h2 := hA1.base.outer b hb h; exact ⟨by simp [resOwn, h2.1], h2.2⟩
  rcases he with rfl | rfl
  · exact fin'
  · exact fin'
end Go.V
namespace Go.V
open Go Go.RowKit

mutual
/-- Nothing in it leads to memory of others. -/
def T.deep : T → Bool
  | .sc _ => true
  | .sl m _ els => m && deeps els
  | .gone => true
  | _ => false
def deeps : List (List T) → Bool
  | [] => true
  | r :: rs => deepl r && deeps rs
def deepl : List T → Bool
  | [] => true
  | t :: ts => t.deep && deepl ts
end
theorem deepl_mem : ∀ {l : List T}, deepl l = true → ∀ t ∈ l, t.deep = true
  | [], _, t, h => by cases h
  | x :: xs, hd, t, h => by
    simp only [deepl, Bool.and_eq_true] at hd
    rcases List.mem_cons.1 h with rfl | h
    · exact hd.1
    · exact deepl_mem hd.2 t h
theorem deeps_at : ∀ {els : List (List T)}, deeps els = true → ∀ {i j : Nat} {t : T}, elAt els i j = some t → t.deep = true
  | [], _, i, j, t, h => by simp [elAt] at h
  | r :: rs, hd, 0, j, t, h => by
    simp only [deeps, Bool.and_eq_true] at hd
    simp only [elAt, List.getElem?_cons_zero, Option.bind_some] at h
    exact deepl_mem hd.1 t (List.mem_of_getElem? h)
  | r :: rs, hd, i + 1, j, t, h => by
    simp only [deeps, Bool.and_eq_true] at hd
    exact deeps_at hd.2 (i := i) (j := j) (by simpa [elAt] using h)

theorem Rep.deepMove {G G' : Nat → Own} {w w' : World} {s : Nat} {π : Path} {v : Value} {t : T} (h : Rep G w s π v t) : ∀ {s' : Nat} {π' : Path}, t.deep = true → (ho : ∀ b ρ, G b = .at_ s (π ++ ρ) → G' b = .at_ s' (π' ++ ρ) ∧ w'.heap[b]? = w.heap[b]?) → Rep G' w' s' π' v t := by
  induction h with
  | sc h => exact fun _ _ => .sc h
  | gone => exact fun _ _ => .gone
  | nil => exact fun _ _ => .nil
  | shd => intro _ _ h; simp [T.deep] at h
  | own f hG hn hc hr hb ha hv _ ih =>
    intro s' π' hd ho
    have h0 := ho _ [] (by simpa using hG)
    simp only [T.deep, Bool.true_and] at hd
    refine .own f (by simpa using h0.1) hn hc hr (h0.2.trans hb) ha (fun i j t h => (cell_eq h0.2).trans (hv i j t h)) (fun i j t h => ih i j t h (deeps_at hd h) fun b ρ hb => ?_)
    have := ho b ((i, j) :: ρ) (by simpa using hb)
    simpa using this
  | ptr => intro _ _ h; simp [T.deep] at h
  | fn => intro _ _ h; simp [T.deep] at h

/-- Lent: for reading ('some none'), or with the right to write, under another name. -/
abbrev Lent := Nat → Path → Option (Option (Nat × Path))
abbrev Back := Nat → Path → Option (Nat × Path)

def lentOwn (G : Nat → Own) (L : Lent) : Nat → Own := fun b => match G b with
  | .at_ s ρ => (match L s ρ with | some none => .pers | some (some (i, ρ')) => .at_ i ρ' | none => .outer)
  | o => o
def backOwn (d : Nat) (M : Back) : Own → Own
  | .at_ i ρ => if i = RES then .at_ d ρ else (match M i ρ with | some (r, ρ') => .at_ r ρ' | none => .outer)
  | o => o
def afterOwn (G Gc : Nat → Own) (L : Lent) (M : Back) (d n : Nat) : Nat → Own := fun b =>
  if b < n then (match G b with
    | .at_ s ρ => (match L s ρ with | some (some _) => backOwn d M (Gc b) | _ => .at_ s ρ)
    | o => o)
  else backOwn d M (Gc b)

def resSV (res : List (Bool × List T)) : SV :=
  match res with
  | [p] => .val p.1 (p.2.map .t)
  | res => .tup (res.map fun p => (p.1, p.2.map .t))

def argDeep : Arg → Bool
  | .sh _ _ => true
  | .mu cs => deepl cs
  | .mv _ ts => deepl ts
  | .bl .. => true

/-- A lent argument or result, as the caller sees it: in its own name. -/
def FinRep (G : Nat → Own) (w : World) (M : Back) (i : Nat) (v : Value) : Arg → Prop
  | .sh _ _ => True
  | .mu cs => ∀ r, M i [] = some (r, []) → (∀ ρ, M i ρ = some (r, ρ)) → BoxRep G w r v cs
  | .mv ag ts => ∃ us, Pack ag us v ∧ us.length = ts.length ∧ ∀ (j : Nat) y u, ts[j]? = some y → us[j]? = some u → ∀ r π, (∀ ρ, M i ((0, j) :: ρ) = some (r, π ++ ρ)) → Rep G w r π u y
  | .bl T e x => ∀ r, (∀ ρ, M i ρ = some (r, ρ)) → BldRep G w r v T e x

section
variable {X : Cx} {st : St} {d : Nat} {a : Act} {w w' : World} {G G' : Nat → Own} {vals : Nat → Value} {P : Program} {g : FuncId} {args : List Arg} {res : List (Bool × List T)} {fin : List (Option Arg)} {L : Lent} {M : Back}

theorem call_core (hA : Alls X st a w G vals) (hV : VC X.P g args res fin) {vs : List Value} (hl : vs.length = args.length) (hargs : ∀ (i : Nat) ar v, args[i]? = some ar → vs[i]? = some v → ArgRep (lentOwn G L) w i v ar)
    (hMR : ∀ (i : Nat) ar, fin[i]? = some (some ar) → i ≠ RES)
    (hdeep : (∀ s ρ, L s ρ ≠ some none) ∨ ((∀ p ∈ res, deepl p.2 = true) ∧ ∀ (i : Nat) ar, fin[i]? = some (some ar) → argDeep ar = true)) :
    Calls X.P g vs.toArray w fun e w' => ∃ v G2, e = .returned v ∧ (∀ b, G b = .pers → G2 b = .pers ∧ w'.heap[b]? = w.heap[b]?) ∧ (∀ b, b < w.heap.size → G b = .outer → G2 b = .outer ∧ w'.heap[b]? = w.heap[b]?) ∧
      (∀ b s ρ, G b = .at_ s ρ → (L s ρ = none ∨ L s ρ = some none) → G2 b = .at_ s ρ ∧ w'.heap[b]? = w.heap[b]?) ∧ w.heap.size ≤ w'.heap.size ∧ w'.os = w.os ∧ w'.tape = w.tape ∧ w'.output = w.output ∧ (∀ b, w'.heap.size ≤ b → G2 b = .outer) ∧
      (∃ us, v = tupled us ∧ us.length = res.length ∧ ∀ (k : Nat) p u, res[k]? = some p → us[k]? = some u → TsRep G2 w' d k p.1 u p.2) ∧ (∀ (i : Nat) ar v, fin[i]? = some (some ar) → vs[i]? = some v → FinRep G2 w' M i v ar) := by
  have hlt : ∀ b, G b ≠ .outer → b < w.heap.size := fun b h => Nat.lt_of_not_le fun hle => h (hA.inv.alloc b hle)
  refine (hV (lentOwn G L) w vs hl hargs (fun b hb => by simp [lentOwn, hA.inv.alloc b hb])).mono ?_
  rintro e w' ⟨v, Gc, rfl, hres, hfin, hB, hfr⟩
  -- what bears a place's name behind the call comes back under the caller's name
  have hback : ∀ b i ρ, Gc b = .at_ i ρ → afterOwn G Gc L M d w.heap.size b = backOwn d M (.at_ i ρ) := by
    intro b i ρ h
    unfold afterOwn
    split
    · rename_i hb
      split
      · rename_i s ρ0 hG
        split
        · rw [h]
        · rename_i hno
          exfalso
          cases hL : L s ρ0 with
          | none =>
            have := hB.outer b hb (by simp [lentOwn, hG, hL])
            rw [h] at this; cases this.1
          | some q =>
            cases q with
            | none => have := hB.pers b (by simp [lentOwn, hG, hL]); rw [h] at this; cases this.1
            | some q => exact hno q hL
      · rename_i hno
        exfalso
        cases hG : G b with
        | outer => have := hB.outer b hb (by simp [lentOwn, hG]); rw [h] at this; cases this.1
        | pers => have := hB.pers b (by simp [lentOwn, hG]); rw [h] at this; cases this.1
        | at_ s ρ0 => exact hno s ρ0 hG
    · rw [h]
  have hpers : (∀ s ρ, L s ρ ≠ some none) → ∀ b, Gc b = .pers → afterOwn G Gc L M d w.heap.size b = .pers ∧ w'.heap[b]? = w'.heap[b]? := by
    intro hno b h
    refine ⟨?_, rfl⟩
    unfold afterOwn
    split
    · rename_i hb
      split
      · rename_i s ρ0 hG
        split
        · rw [h]; rfl
        · rename_i hno'
          exfalso
          cases hL : L s ρ0 with
          | none => have := hB.outer b hb (by simp [lentOwn, hG, hL]); rw [h] at this; cases this.1
          | some q =>
            cases q with
            | none => exact hno s ρ0 hL
            | some q => exact hno' q hL
      · cases hG : G b with
        | outer => have := hB.outer b hb (by simp [lentOwn, hG]); rw [h] at this; cases this.1
        | pers => rfl
        | at_ s ρ0 => rename_i hno'; exact absurd hG (hno' s ρ0)
    · rw [h]; rfl
  have hmove : ∀ {s s' : Nat} {π π' : Path} {u : Value} {y : T}, Rep Gc w' s π u y → ((∀ s ρ, L s ρ ≠ some none) ∨ y.deep = true) → (∀ ρ, backOwn d M (.at_ s (π ++ ρ)) = .at_ s' (π' ++ ρ)) → Rep (afterOwn G Gc L M d w.heap.size) w' s' π' u y := by
    intro s s' π π' u y h hc hm
    rcases hc with hc | hc
    · exact h.move (hpers hc) fun b ρ hb => ⟨by rw [hback b _ _ hb, hm], rfl⟩
    · exact h.deepMove hc fun b ρ hb => ⟨by rw [hback b _ _ hb, hm], rfl⟩
  refine ⟨v, afterOwn G Gc L M d w.heap.size, rfl, fun b h => ?_, fun b hb h => ?_, fun b s ρ h hno => ?_, hB.size, hB.os, hB.tape, hB.output, fun b hb => ?_, ?_, ?_⟩
  · have := hB.pers b (by simp [lentOwn, h])
    exact ⟨by simp [afterOwn, hlt b (by simp [h]), h], this.2⟩
  · have := hB.outer b hb (by simp [lentOwn, h])
    exact ⟨by simp [afterOwn, hb, h], this.2⟩
  · have hb := hlt b (by simp [h])
    rcases hno with hno | hno
    · have := hB.outer b hb (by simp [lentOwn, h, hno])
      exact ⟨by simp [afterOwn, hb, h, hno], this.2⟩
    · have := hB.pers b (by simp [lentOwn, h, hno])
      exact ⟨by simp [afterOwn, hb, h, hno], this.2⟩
  · have : ¬ b < w.heap.size := by have := hB.size; omega
    simp [afterOwn, this, hfr b hb, backOwn]
  · obtain ⟨us, hv, hul, hall⟩ := hres
    refine ⟨us, hv, hul, fun k p u hp hu => ?_⟩
    obtain ⟨us', hpk, hl', hall'⟩ := hall k p u hp hu
    refine ⟨us', hpk, hl', fun j y u' hy hu' => hmove (hall' j y u' hy hu') ?_ (fun ρ => by simp [backOwn])⟩
    rcases hdeep with h | ⟨h, -⟩
    · exact .inl h
    · exact .inr (deepl_mem (h p (List.mem_of_getElem? hp)) y (List.mem_of_getElem? hy))
  · intro i ar v hf hv
    have h1 := hfin i ar v hf hv
    have hi := hMR i ar hf
    cases ar with
    | sh => trivial
    | mu cs =>
      intro r hr hM
      obtain ⟨b, arr, ty, hv', hG, hb, hl', hall⟩ := h1
      have hbk : ∀ ρ, backOwn d M (.at_ i ρ) = .at_ r ρ := fun ρ => by simp [backOwn, hi, hM ρ]
      refine ⟨b, arr, ty, hv', by rw [hback b _ _ hG, hbk], hb, hl', fun j t u hj hu => hmove (hall j t u hj hu) ?_ (fun ρ => hbk _)⟩
      rcases hdeep with h | ⟨-, h⟩
      · exact .inl h
      · exact .inr (deepl_mem (show deepl cs = true from h i _ hf) t (List.mem_of_getElem? hj))
    | mv ag ts =>
      obtain ⟨us, hpk, hul, hall⟩ := h1
      refine ⟨us, hpk, hul, fun j y u hy hu r π hM => hmove (hall j y u hy hu) ?_ (fun ρ => by simp [backOwn, hi, hM ρ])⟩
      rcases hdeep with h | ⟨-, h⟩
      · exact .inl h
      · exact .inr (deepl_mem (show deepl ts = true from h i _ hf) y (List.mem_of_getElem? hy))
    | bl T e x =>
      intro r hM
      exact BldRep.move h1 fun b ρ hb => ⟨by rw [hback b _ _ hb]; simp [backOwn, hi, hM ρ], rfl⟩

theorem resSV_rep {v : Value} {us : List Value} {st' : St} {vals' : Nat → Value} (hv : v = tupled us) (hl : us.length = res.length) (hall : ∀ (k : Nat) p u, res[k]? = some p → us[k]? = some u → TsRep G w d k p.1 u p.2) : SlotRep G w st' vals' d v (resSV res) := by
  have key : ∀ {k : Nat} {p : Bool × List T} {u : Value}, TsRep G w d k p.1 u p.2 → CellsRep G w st' vals' d k p.1 u (p.2.map .t) := by
    rintro k p u ⟨us', hpk, hl', hall'⟩
    refine ⟨us', hpk, by simpa using hl', fun j c u' hc hu' => ?_⟩
    rw [List.getElem?_map] at hc
    obtain ⟨y, hy, rfl⟩ := Option.map_eq_some_iff.1 hc
    exact hall' j y u' hy hu'
  have gen : ∀ res' : List (Bool × List T), res' = res → v = .tuple us.toArray → SlotRep G w st' vals' d v (.tup (res'.map fun p => (p.1, p.2.map .t))) := by
    rintro _ rfl hv'
    refine ⟨us.toArray, hv', by simpa using hl, fun k p u hp hu => ?_⟩
    rw [List.getElem?_map] at hp
    obtain ⟨q, hq, rfl⟩ := Option.map_eq_some_iff.1 hp
    exact key (hall k q u hq (by simpa using hu))
  match res, us, hl, hall, hv, gen with
  | [p], [u0], _, hall, hv, _ => exact key (by have := hall 0 p u0 rfl rfl; rw [hv]; exact this)
  | [], [], _, _, hv, gen => exact gen _ rfl hv
  | p :: p' :: res, u :: u' :: us, _, _, hv, gen => exact gen _ rfl hv
end
end Go.V
namespace Go.V
open Go Go.RowKit

/-- What is lent with the right to write, as the parameter i: a variable in memory (r); cells of an element c of the row at a place, or of a value (J: which of the argument's cells). -/
inductive ME where
  | box (r i : Nat)
  | row (r : Nat) (π : Path) (c off i : Nat) (J : List Nat)
def ME.root : ME → Nat
  | .box r _ => r
  | .row r .. => r
def ME.par : ME → Nat
  | .box _ i => i
  | .row _ _ _ _ i _ => i
def dropPre : Path → Path → Option Path
  | [], ρ => some ρ
  | q :: π, q' :: ρ => if q = q' then dropPre π ρ else none
  | _ :: _, [] => none
theorem dropPre_app : ∀ (π ρ : Path), dropPre π (π ++ ρ) = some ρ
  | [], _ => rfl
  | q :: π, ρ => by simp [dropPre, dropPre_app π ρ]
def ME.to : ME → Path → Option (Nat × Path)
  | .box _ i, ρ => some (i, ρ)
  | .row _ π c off i J, ρ => match dropPre π ρ with
    | some ((c', j) :: ρ') => if c' = c ∧ off ≤ j ∧ j - off ∈ J then some (i, (0, j - off) :: ρ') else none
    | _ => none
def ME.back : ME → Path → Option (Nat × Path)
  | .box r _, ρ => some (r, ρ)
  | .row r π c off _ J, ρ => match ρ with
    | (0, j) :: ρ' => if j ∈ J then some (r, π ++ (c, off + j) :: ρ') else none
    | _ => none
/-- What is lent: places for reading; places with the right to write. -/
def lentL (l : List (Nat × Path)) (m : List ME) : Lent := fun s ρ =>
  if l.any (fun p => p.1 == s && p.2.isPrefixOf ρ) then some none
  else match m.find? (fun e => e.root == s) with
    | some e => (e.to ρ).map some
    | none => none
def backL (m : List ME) : Back := fun i ρ => (m.find? fun e => e.par == i).bind fun e => e.back ρ
/-- No root twice, no parameter twice, no root that is lent for reading too. -/
def mOK (l : List (Nat × Path)) (m : List ME) : Prop := (m.map ME.root).Nodup ∧ (m.map ME.par).Nodup ∧ ∀ p ∈ l, p.1 ∉ m.map ME.root

theorem find_key {f : ME → Nat} : ∀ {m : List ME} {e : ME}, (m.map f).Nodup → e ∈ m → m.find? (fun x => f x == f e) = some e
  | x :: m, e, hn, he => by
    simp only [List.map_cons, List.nodup_cons] at hn
    rw [List.find?_cons]
    rcases List.mem_cons.1 he with rfl | he
    · simp
    · have : (f x == f e) = false := by
        simp only [beq_eq_false_iff_ne]
        intro h
        exact hn.1 (h ▸ List.mem_map_of_mem he)
      rw [this]
      exact find_key hn.2 he

theorem lentL_sh {l : List (Nat × Path)} {m : List ME} {r : Nat} {π : Path} (h : (r, π) ∈ l) (ρ : Path) : lentL l m r (π ++ ρ) = some none := by
  unfold lentL
  rw [if_pos (List.any_eq_true.2 ⟨(r, π), h, by simp⟩)]
theorem lentL_to {l : List (Nat × Path)} {m : List ME} {e : ME} (hm : mOK l m) (he : e ∈ m) (ρ : Path) : lentL l m e.root ρ = (e.to ρ).map some := by
  unfold lentL
  rw [if_neg (fun hh => by
    obtain ⟨p, hp, h1⟩ := List.any_eq_true.1 hh
    simp only [Bool.and_eq_true, beq_iff_eq] at h1
    exact hm.2.2 p hp (h1.1 ▸ List.mem_map_of_mem he)), find_key hm.1 he]
theorem lentL_not {l : List (Nat × Path)} {m : List ME} {s : Nat} (h : s ∉ m.map ME.root) (ρ : Path) : lentL l m s ρ = none ∨ lentL l m s ρ = some none := by
  unfold lentL
  split
  · exact .inr rfl
  · have : m.find? (fun e => e.root == s) = none := by
      rw [List.find?_eq_none]
      intro e he h2
      simp only [beq_iff_eq] at h2
      exact h (h2 ▸ List.mem_map_of_mem he)
    rw [this]
    exact .inl rfl
theorem backL_of {l : List (Nat × Path)} {m : List ME} {e : ME} (hm : mOK l m) (he : e ∈ m) (ρ : Path) : backL m e.par ρ = e.back ρ := by
  unfold backL
  rw [find_key hm.2.1 he]
  rfl

inductive CellArg (st : St) (l : List (Nat × Path)) (s j : Nat) : Cell → T → Prop
  | free {y} (h : y.free = true) : CellArg st l s j (.t y) y
  | own {y} (hw : y.whole = true) (hL : (s, [(0, j)]) ∈ l) : CellArg st l s j (.t y) y.shr
  | ref {r k π y} (hk : (st r).ver = k) (hy : st.at_ r π = some y) (hw : y.whole = true) (hL : (r, π) ∈ l) : CellArg st l s j (.ref r k π) y.shr

/-- A cell of an argument that the callee may write through. -/
inductive CellMv (st : St) (r : Nat) (π : Path) (c off : Nat) (J : List Nat) (s j : Nat) : Cell → T → Prop
  | free {y} (h : y.free = true) (hJ : j ∉ J) : CellMv st r π c off J s j (.t y) y
  | own {y} (h : s = r ∧ π = [] ∧ c = 0 ∧ off = 0) (hJ : j ∈ J) : CellMv st r π c off J s j (.t y) y
  | ref {k π' y} (hk : (st r).ver = k) (hπ : π' = π ++ [(c, off + j)]) (hy : st.at_ r π' = some y) (hJ : j ∈ J) : CellMv st r π c off J s j (.ref r k π') y

inductive ArgOf (X : Cx) (st : St) (l : List (Nat × Path)) (m : List ME) (i : Nat) : Operand → Arg → Prop
  | free {x ag ts} (h : Opd X.N st x (.val ag (ts.map .t))) (hf : ∀ t ∈ ts, t.free = true) : ArgOf X st l m i x (.sh ag ts)
  | cells {s ag cs ts} (hN : s < X.N) (h : (st s).sv = .val ag cs) (hl : cs.length = ts.length) (hc : ∀ (j : Nat) c y, cs[j]? = some c → ts[j]? = some y → CellArg st l s j c y) : ArgOf X st l m i (.tmp s) (.sh ag ts)
  | ptr {s r π i' j cs n} (hN : s < X.N) (h : (st s).sv = .addr r (st r).ver π i' j) (hc : st.cells r π i' j = some cs) (hw : ∀ y ∈ cs.take n, y.whole = true) (hL : (r, π) ∈ l) : ArgOf X st l m i (.tmp s) (.sh false [.ptr ((cs.take n).map T.shr)])
  | bx {s cs n} (hN : s < X.N) (h : (st s).sv = .box cs) (hw : ∀ y ∈ cs.take n, y.whole = true) (hL : (s, []) ∈ l) : ArgOf X st l m i (.tmp s) (.sh false [.ptr ((cs.take n).map T.shr)])
  | mub {s cs} (hN : s < X.N) (hr : (st s).sv = .box cs) (hm : ME.box s i ∈ m) : ArgOf X st l m i (.tmp s) (.mu cs)
  | mu {s r cs} (hN : s < X.N) (h : (st s).sv = .addr r (st r).ver [] 0 0) (hr : (st r).sv = .box cs) (hm : ME.box r i ∈ m) : ArgOf X st l m i (.tmp s) (.mu cs)
  | blb {s T e x} (hN : s < X.N) (hr : (st s).sv = .bld T e x) (hm : ME.box s i ∈ m) : ArgOf X st l m i (.tmp s) (.bl T e x)
  | bl {s r T e x} (hN : s < X.N) (h : (st s).sv = .addr r (st r).ver [] 0 0) (hr : (st r).sv = .bld T e x) (hm : ME.box r i ∈ m) : ArgOf X st l m i (.tmp s) (.bl T e x)
  | mv {s ag cs ts r π c off J} (hN : s < X.N) (h : (st s).sv = .val ag cs) (hl : cs.length = ts.length) (hm : ME.row r π c off i J ∈ m) (hc : ∀ (j : Nat) c' y, cs[j]? = some c' → ts[j]? = some y → CellMv st r π c off J s j c' y) : ArgOf X st l m i (.tmp s) (.mv ag ts)

section
variable {X : Cx} {st : St} {d : Nat} {a : Act} {w w' : World} {G G' : Nat → Own} {vals : Nat → Value} {g : FuncId} {args : List Arg} {res : List (Bool × List T)} {fin : List (Option Arg)} {l : List (Nat × Path)} {m : List ME} {f : Operand} {ops caps : List Operand} {tys : Array TypeId} {ty : TypeId} {pos : String} {af : Array Edge} {gd : Option (Nat × Bool)}

theorem addr_cells_bx (hA : Alls X st a w G vals) {s r i j : Nat} {π : Path} {cs : List T} (hsr : s = r) (hπ : π = []) (hi : i = 0) (hj : j = 0) (hsv : (st r).sv = .box cs) :
    ∃ b o, vals s = .pointer (some ⟨b, o, none⟩) ∧ G b = .at_ r π ∧ ∀ (m : Nat) y, cs[m]? = some y → ∃ u, w.cell? ⟨b, o + m, none⟩ = some u ∧ Rep G w r (π ++ [(i, j + m)]) u y ∧
      place vals st w r (π ++ [(i, j + m)]) = some (u, y) := by
  subst hsr; subst hπ; subst hi; subst hj
  have hr := hA.inv.slots s
  rw [hsv] at hr
  obtain ⟨b, arr, ty', h5, h6, h7, h8, h9⟩ := hr
  refine ⟨b, 0, h5, h6, fun m y hy => ?_⟩
  have hlt : 0 + m < arr.size := by rw [h8, Nat.zero_add]; exact (List.getElem?_eq_some_iff.1 hy).1
  have hu : arr[0 + m]? = some arr[0 + m] := Array.getElem?_eq_getElem hlt
  have hy' : cs[0 + m]? = some y := by rw [Nat.zero_add]; exact hy
  refine ⟨arr[0 + m], by simp only [World.cell?, h7]; simp, h9 _ _ _ hy' hu, ?_⟩
  refine place_one (by rw [hsv]; simpa [SV.cell] using hy') ?_
  rw [hsv, h5]
  simp only [cellVal, World.cell?, h7]
  simp

theorem argOf_rep (hA : Alls X st a w G vals) (hM : mOK l m) {i : Nat} {x : Operand} {ar : Arg} (h : ArgOf X st l m i x ar) : ArgRep (lentOwn G (lentL l m)) w i (a.eval x) ar := by
  have hp : ∀ b, G b = .pers → lentOwn G (lentL l m) b = .pers ∧ w.heap[b]? = w.heap[b]? := fun b h => ⟨by simp [lentOwn, h], rfl⟩
  have hsh : ∀ {r : Nat} {π : Path}, (r, π) ∈ l → ∀ b ρ, G b = .at_ r (π ++ ρ) → lentOwn G (lentL l m) b = .pers ∧ w.heap[b]? = w.heap[b]? := fun hl b ρ h => ⟨by simp [lentOwn, h, lentL_sh hl ρ], rfl⟩
  cases h with
  | free h hf =>
    obtain ⟨s, hs, -⟩ := opd_eval hA h
    obtain ⟨us, hpk, hl, hall⟩ := hs
    refine ⟨hf, us, hpk, by simpa using hl, fun j y u hy hu => ?_⟩
    have h1 : CellRep G w st vals s 0 j u (.t y) := hall j (.t y) u (by simp [hy]) hu
    exact Rep.free h1 (hf y (List.mem_of_getElem? hy)) hp
  | cells hN h hl hc =>
    rename_i s ag cs ts
    have hs := hA.inv.slots s
    rw [h] at hs
    obtain ⟨us, hpk, hul, hall⟩ := hs
    have each : ∀ (j : Nat) y, ts[j]? = some y → ∃ c, cs[j]? = some c ∧ CellArg st l s j c y := fun j y hy => by
      have hlt : j < cs.length := by rw [hl]; exact (List.getElem?_eq_some_iff.1 hy).1
      exact ⟨cs[j], List.getElem?_eq_getElem hlt, hc j _ y (List.getElem?_eq_getElem hlt) hy⟩
    refine ⟨fun y hy => ?_, us, by rw [show a.eval (.tmp s) = vals s from hA.link s hN]; exact hpk, by omega, fun j y u hy hu => ?_⟩
    · obtain ⟨j, hj⟩ := List.getElem?_of_mem hy
      obtain ⟨c, -, h1⟩ := each j y hj
      cases h1 with
      | free h => exact h
      | own => exact T.shr_free _
      | ref => exact T.shr_free _
    · obtain ⟨c, hcj, h1⟩ := each j y hy
      have h2 := hall j c u hcj hu
      cases h1 with
      | free h => exact Rep.free h2 h hp
      | own hw hL => exact Rep.shr h2 hw hp (hsh hL)
      | ref hk hy' hw hL =>
        obtain ⟨sz, els, hpl⟩ := h2.2 hk
        have h3 := place_at hpl
        rw [hy'] at h3
        cases h3
        exact Rep.shr (place_rep hA.inv hpl) hw hp (hsh hL)
  | ptr hN h hc hw hL =>
    rename_i s r π i' j cs n
    obtain ⟨b, o, hv, hG, hall⟩ := addr_cells hA h hc
    refine ⟨fun y hy => by simp only [List.mem_singleton] at hy; subst hy; rfl, [a.eval (.tmp s)], rfl, rfl, fun k y u hy hu => ?_⟩
    cases k with
    | succ k => simp at hy
    | zero =>
      simp only [List.getElem?_cons_zero, Option.some.injEq] at hy hu
      subst hy; subst hu
      rw [show a.eval (.tmp s) = vals s from hA.link s hN, hv]
      refine .ptr (fun q => (w.cell? ⟨b, o + q, none⟩).getD default) (hsh hL b [] (by simpa using hG)).1 (fun t ht => ?_) (fun q t ht => ?_) (fun q t ht => ?_)
      · obtain ⟨t0, -, rfl⟩ := List.mem_map.1 ht; exact T.shr_free _
      · rw [List.getElem?_map] at ht
        obtain ⟨t0, ht0, rfl⟩ := Option.map_eq_some_iff.1 ht
        rw [List.getElem?_take] at ht0
        split at ht0
        · obtain ⟨u, hu, -⟩ := hall q t0 ht0
          rw [hu]; rfl
        · cases ht0
      · rw [List.getElem?_map] at ht
        obtain ⟨t0, ht0, rfl⟩ := Option.map_eq_some_iff.1 ht
        have hmem := List.mem_of_getElem? ht0
        rw [List.getElem?_take] at ht0
        split at ht0
        · obtain ⟨u, hu, hrep, -⟩ := hall q t0 ht0
          rw [hu, Option.getD_some]
          exact hrep.shr (hw t0 hmem) hp fun b ρ hb => hsh hL b ((i', j + q) :: ρ) (by rw [hb]; simp)
        · cases ht0
  | bx hN h hw hL =>
    rename_i s cs n
    obtain ⟨b, o, hv, hG, hall⟩ := addr_cells_bx (s := s) (r := s) (π := []) (i := 0) (j := 0) hA rfl rfl rfl rfl h
    refine ⟨fun y hy => by simp only [List.mem_singleton] at hy; subst hy; rfl, [a.eval (.tmp s)], rfl, rfl, fun k y u hy hu => ?_⟩
    cases k with
    | succ k => simp at hy
    | zero =>
      simp only [List.getElem?_cons_zero, Option.some.injEq] at hy hu
      subst hy; subst hu
      rw [show a.eval (.tmp s) = vals s from hA.link s hN, hv]
      refine .ptr (fun q => (w.cell? ⟨b, o + q, none⟩).getD default) (hsh hL b [] (by simpa using hG)).1 (fun t ht => ?_) (fun q t ht => ?_) (fun q t ht => ?_)
      · obtain ⟨t0, -, rfl⟩ := List.mem_map.1 ht; exact T.shr_free _
      · rw [List.getElem?_map] at ht
        obtain ⟨t0, ht0, rfl⟩ := Option.map_eq_some_iff.1 ht
        rw [List.getElem?_take] at ht0
        split at ht0
        · obtain ⟨u, hu, -⟩ := hall q t0 ht0
          rw [hu]; rfl
        · cases ht0
      · rw [List.getElem?_map] at ht
        obtain ⟨t0, ht0, rfl⟩ := Option.map_eq_some_iff.1 ht
        have hmem := List.mem_of_getElem? ht0
        rw [List.getElem?_take] at ht0
        split at ht0
        · obtain ⟨u, hu, hrep, -⟩ := hall q t0 ht0
          rw [hu, Option.getD_some]
          exact hrep.shr (hw t0 hmem) hp fun b ρ hb => hsh hL b ((0, 0 + q) :: ρ) (by rw [hb]; simp)
        · cases ht0
  | mub hN hr hm =>
    rename_i s cs
    have hrr := hA.inv.slots s
    rw [hr] at hrr
    obtain ⟨b, arr, ty', h5, h6, h7, h8, h9⟩ := hrr
    have hmv : ∀ b ρ, G b = .at_ s ρ → lentOwn G (lentL l m) b = .at_ i ρ ∧ w.heap[b]? = w.heap[b]? := fun b ρ hb => ⟨by
      have := lentL_to hM hm ρ
      simp only [ME.root, ME.to, Option.map_some] at this
      simp [lentOwn, hb, this], rfl⟩
    rw [show a.eval (.tmp s) = vals s from hA.link s hN]
    exact ⟨b, arr, ty', h5, (hmv b _ h6).1, h7, h8, fun j t u hj hu => (h9 j t u hj hu).move hp fun b ρ hb => hmv b _ hb⟩
  | mu hN h hr hm =>
    rename_i s r cs
    have h0 := hA.inv.slots s
    rw [h] at h0
    obtain ⟨-, b, -, h3, h4⟩ := h0.2 rfl
    have hrr := hA.inv.slots r
    rw [hr] at hrr
    obtain ⟨b', arr, ty', h5, h6, h7, h8, h9⟩ := hrr
    rw [h3] at h5
    cases h5
    have hmv : ∀ b ρ, G b = .at_ r ρ → lentOwn G (lentL l m) b = .at_ i ρ ∧ w.heap[b]? = w.heap[b]? := fun b ρ hb => ⟨by
      have := lentL_to hM hm ρ
      simp only [ME.root, ME.to, Option.map_some] at this
      simp [lentOwn, hb, this], rfl⟩
    rw [show a.eval (.tmp s) = vals s from hA.link s hN]
    exact ⟨b, arr, ty', h4, (hmv b _ h6).1, h7, h8, fun j t u hj hu => (h9 j t u hj hu).move hp fun b ρ hb => hmv b _ hb⟩
  | blb hN hr hm =>
    rename_i s T e x
    have hrr := hA.inv.slots s
    rw [hr] at hrr
    rw [show a.eval (.tmp s) = vals s from hA.link s hN]
    exact BldRep.move hrr fun b ρ hb => ⟨by
      have := lentL_to hM hm ρ
      simp only [ME.root, ME.to, Option.map_some] at this
      simp [lentOwn, hb, this], rfl⟩
  | bl hN h hr hm =>
    rename_i s r T e x
    have h0 := hA.inv.slots s
    rw [h] at h0
    obtain ⟨-, b, -, h3, h4⟩ := h0.2 rfl
    have hrr := hA.inv.slots r
    rw [hr] at hrr
    rw [show a.eval (.tmp s) = vals s from hA.link s hN, h4, ← h3]
    exact BldRep.move hrr fun b ρ hb => ⟨by
      have := lentL_to hM hm ρ
      simp only [ME.root, ME.to, Option.map_some] at this
      simp [lentOwn, hb, this], rfl⟩
  | mv hN h hl hm hc =>
    rename_i s ag cs ts r π c off J
    have hs := hA.inv.slots s
    rw [h] at hs
    obtain ⟨us, hpk, hul, hall⟩ := hs
    have hmv : ∀ j, j ∈ J → ∀ b ρ, G b = .at_ r (π ++ [(c, off + j)] ++ ρ) → lentOwn G (lentL l m) b = .at_ i ([(0, j)] ++ ρ) ∧ w.heap[b]? = w.heap[b]? := fun j hj b ρ hb => ⟨by
      have := lentL_to hM hm (π ++ [(c, off + j)] ++ ρ)
      simp only [ME.root, ME.to] at this
      rw [List.append_assoc, dropPre_app] at this
      simp only [List.singleton_append, Nat.le_add_right, Nat.add_sub_cancel_left, hj, and_self, if_true, Option.map_some] at this
      rw [List.append_assoc] at hb
      simp only [List.singleton_append] at hb
      simp [lentOwn, hb, this], rfl⟩
    refine ⟨us, by rw [show a.eval (.tmp s) = vals s from hA.link s hN]; exact hpk, by omega, fun j y u hy hu => ?_⟩
    have hlt : j < cs.length := by rw [hl]; exact (List.getElem?_eq_some_iff.1 hy).1
    have hcj : cs[j]? = some cs[j] := List.getElem?_eq_getElem hlt
    have h1 := hc j _ y hcj hy
    have h2 := hall j _ u hcj hu
    generalize hce : cs[j] = cc at h1 h2
    cases h1 with
    | free h hJ => exact Rep.free h2 h hp
    | own h hJ =>
      obtain ⟨rfl, rfl, rfl, rfl⟩ := h
      exact Rep.move h2 hp fun b ρ hb => hmv j hJ b ρ (by simpa using hb)
    | ref hk hπ hy' hJ =>
      obtain ⟨sz, els, hpl⟩ := h2.2 hk
      have h3 := place_at hpl
      rw [hy'] at h3
      cases h3
      subst hπ
      exact (place_rep hA.inv hpl).move hp fun b ρ hb => hmv j hJ b ρ hb

/-- The arguments of a call: the operands, then what the function value captured. -/
structure CallArgs (X : Cx) (st : St) (l : List (Nat × Path)) (m : List ME) (ops : List Operand) (caps : List T) (args : List Arg) : Prop where
  len : args.length = ops.length + caps.length
  each : ∀ (i : Nat) x ar, ops[i]? = some x → args[i]? = some ar → ArgOf X st l m i x ar
  caught : ∀ (j : Nat) y ar, caps[j]? = some y → args[ops.length + j]? = some ar → ar = .sh false [y]

theorem callFunc_run {P : Program} {fn : Func} {w : World} {g : FuncId} (hfn : P.funcs[g]? = some fn) (hname : (fn.name == "runtime.NumGoroutine") = false) (hbody : fn.body.isNone = false) (as : Array Value) : (callFunc g as).run P w = .ok (.enter g as) w := by
  simp only [callFunc, Sem.run_bind, run_program, Result.andThen_ok, hfn, hname, hbody, Bool.false_eq_true, if_false]
  rfl

theorem call_run (hA : Alls X st a w G vals) (hM : mOK l m) {cp : List T} {fn : Func} (hfn : X.P.funcs[g]? = some fn) (hname : (fn.name == "runtime.NumGoroutine") = false) (hbody : fn.body.isNone = false) (hf : Opd X.N st f (one (.fn g cp))) (hargs : CallArgs X st l m ops cp args) :
    ∃ vs : List Value, (execOp a.eval ⟨some d, .call { callee := .value f, args := ops.toArray, argTypes := tys }, ty, pos, af, gd⟩).run X.P w = .ok (.enter g vs.toArray) w ∧ vs.length = args.length ∧ (∀ (i : Nat) x, ops[i]? = some x → vs[i]? = some (a.eval x)) ∧
      ∀ (i : Nat) ar v, args[i]? = some ar → vs[i]? = some v → ArgRep (lentOwn G (lentL l m)) w i v ar := by
  obtain ⟨s, hs, -⟩ := opd_eval hA hf
  have h1 := slotRep_one.1 hs
  generalize he : a.eval f = u at h1
  cases h1 with
  | fn cvs hcl hcf hct =>
    refine ⟨ops.map a.eval ++ cvs, ?_, by simp [hargs.len, hcl], fun i x hx => ?_, fun i ar v har hv => ?_⟩
    · have h9 : ∀ (as : Array Value), (callFunc g as).run X.P w = .ok (.enter g as) w := callFunc_run hfn hname hbody
      simp only [execOp, resolve, he, Deferred.ofValue, Sem.run_bind, Sem.run_pure, Result.andThen_ok, invoke]
      rw [h9]
      congr 2
      simp
    · rw [List.getElem?_append_left (by simpa using (List.getElem?_eq_some_iff.1 hx).1), List.getElem?_map, hx]; rfl
    · by_cases hi : i < ops.length
      · rw [List.getElem?_append_left (by simpa using hi), List.getElem?_map] at hv
        obtain ⟨x, hx, rfl⟩ := Option.map_eq_some_iff.1 hv
        exact argOf_rep hA hM (hargs.each i x ar hx har)
      · rw [List.getElem?_append_right (by simpa using hi)] at hv
        simp only [List.length_map] at hv
        have hlt := (List.getElem?_eq_some_iff.1 hv).1
        have hy : cp[i - ops.length]? = some (cp[i - ops.length]'(by omega)) := List.getElem?_eq_getElem _
        have har' := hargs.caught (i - ops.length) _ ar hy (by rw [show ops.length + (i - ops.length) = i by omega]; exact har)
        subst har'
        have hfree := hcf _ (List.getElem_mem (l := cp) (show i - ops.length < cp.length by omega))
        refine ⟨fun y hy => by simp only [List.mem_singleton] at hy; subst hy; exact hfree, [v], rfl, rfl, fun k y u hy hu => ?_⟩
        cases k with
        | succ k => simp at hy
        | zero =>
          simp only [List.getElem?_cons_zero, Option.some.injEq] at hy hu
          subst hy; subst hu
          exact (hct _ _ _ (List.getElem?_eq_getElem _) hv).free hfree (fun b h => ⟨by simp [lentOwn, h], rfl⟩)

end
end Go.V
namespace Go.V
open Go Go.RowKit

section
variable {X : Cx} {st st' : St} {d : Nat} {a : Act} {w w' : World} {G G' : Nat → Own} {vals vals' : Nat → Value} {g : FuncId} {args : List Arg} {res : List (Bool × List T)} {fin : List (Option Arg)} {l : List (Nat × Path)} {m : List ME} {f : Operand} {ops caps : List Operand} {tys : Array TypeId} {ty : TypeId} {pos : String} {af : Array Edge} {gd : Option (Nat × Bool)}

/-- What is at a place: something. -/
theorem descend_some : ∀ {π π0 : Path} {s : Nat} {u : Value} {x y : T}, Rep G w s π0 u x → x.at_ π = some y → ∃ u', descend w u x π = some (u', y)
  | [], _, _, u, x, y, _, h => by simp only [T.at_, Option.some.injEq] at h; subst h; exact ⟨u, by simp [descend]⟩
  | (i, j) :: π, π0, s, u, x, y, hr, h => by
    cases hr with
    | own fn hG hn hc hrr hb ha hv ht =>
      simp only [T.at_] at h
      obtain ⟨z, hz, h⟩ := Option.bind_eq_some_iff.1 h
      obtain ⟨u', h'⟩ := descend_some (ht _ _ _ hz) h
      exact ⟨u', by simp only [descend, hz, Option.bind_some, hv _ _ _ hz]; exact h'⟩
    | nil => rename_i A m sz; cases m <;> simp [T.at_, elAt] at h
    | _ => simp [T.at_] at h

theorem cellVal_some (hA : Alls X st a w G vals) {r k j : Nat} {x : T} (hc : (st r).sv.cell k j = some (.t x)) : ∃ u, cellVal w (vals r) (st r).sv k j = some u := by
  have hs := hA.inv.slots r
  cases hsv : (st r).sv with
  | dead => simp [hsv, SV.cell] at hc
  | addr => simp [hsv, SV.cell] at hc
  | bld => simp [hsv, SV.cell] at hc
  | val ag cs =>
    rw [hsv] at hs hc
    simp only [SV.cell] at hc
    split at hc
    · rename_i hk
      subst hk
      obtain ⟨us, hpk, hl, -⟩ := hs
      have hlt : j < us.length := by rw [hl]; exact (List.getElem?_eq_some_iff.1 hc).1
      exact ⟨us[j], cellVal_val hpk j (List.getElem?_eq_getElem hlt)⟩
    · cases hc
  | tup vs =>
    rw [hsv] at hs hc
    obtain ⟨arr, hv, hl, hall⟩ := hs
    simp only [SV.cell] at hc
    obtain ⟨p, hp, hc⟩ := Option.bind_eq_some_iff.1 hc
    have hlt : k < arr.size := by rw [hl]; exact (List.getElem?_eq_some_iff.1 hp).1
    have hu : arr[k]? = some arr[k] := Array.getElem?_eq_getElem hlt
    obtain ⟨us, hpk, hul, -⟩ := hall k p _ hp hu
    have hlt2 : j < us.length := by rw [hul]; exact (List.getElem?_eq_some_iff.1 hc).1
    exact ⟨us[j], by simp only [cellVal, hv, hp, hu, Option.bind_some]; rw [packed_of hpk]; exact List.getElem?_eq_getElem hlt2⟩
  | box cs =>
    rw [hsv] at hs hc
    obtain ⟨b, arr, ty, hv, hG, hb, hl, -⟩ := hs
    simp only [SV.cell] at hc
    split at hc
    · obtain ⟨y, hy, -⟩ := Option.map_eq_some_iff.1 hc
      have hlt : j < arr.size := by rw [hl]; exact (List.getElem?_eq_some_iff.1 hy).1
      rename_i hk
      subst hk
      exact ⟨arr[j], by simp only [cellVal, hv, World.cell?, hb, Nat.zero_add]; simp [hlt]⟩
    · cases hc

theorem place_some (hA : Alls X st a w G vals) {r : Nat} {π : Path} {y : T} (h : st.at_ r π = some y) : ∃ u, place vals st w r π = some (u, y) := by
  cases π with
  | nil => simp [St.at_] at h
  | cons q π =>
    obtain ⟨k, j⟩ := q
    simp only [St.at_] at h
    split at h
    · rename_i x hx
      obtain ⟨u0, hu0⟩ := cellVal_some hA hx
      obtain ⟨u', h'⟩ := descend_some (cellRep_root hA.inv hx hu0) h
      exact ⟨u', by simp only [place, hu0, Option.bind_some, hx]; exact h'⟩
    · cases h

/-- Cells of a row or a value, some of them as the callee left them. -/
def RowRel {α : Type} (inj : T → α) (off : Nat) (J : List Nat) (ts : List T) (old new : List α) : Prop :=
  new.length = old.length ∧ ∀ (j : Nat) z, new[j]? = some z → (∃ j0 ∈ J, off + j0 = j ∧ ∃ y, ts[j0]? = some y ∧ z = inj y) ∨ ((∀ j0 ∈ J, off + j0 ≠ j) ∧ old[j]? = some z)

/-- What a root is behind the call. -/
inductive NewSV (st : St) (args : List Arg) (fin : List (Option Arg)) : ME → SV → Prop
  | box {r i cs cs'} (ha : args[i]? = some (.mu cs)) (hf : fin[i]? = some (some (.mu cs'))) : NewSV st args fin (.box r i) (.box cs')
  | bld {r i T e x T' e' x'} (ha : args[i]? = some (.bl T e x)) (hf : fin[i]? = some (some (.bl T' e' x'))) : NewSV st args fin (.box r i) (.bld T' e' x')
  | val {r off i J ag ts ts' agr cs cs'} (ha : args[i]? = some (.mv ag ts)) (hf : fin[i]? = some (some (.mv ag ts'))) (hr : (st r).sv = .val agr cs) (hrel : RowRel .t off J ts' cs cs') : NewSV st args fin (.row r [] 0 off i J) (.val agr cs')
  | bx {r off i J ag ts ts' cs cs'} (ha : args[i]? = some (.mv ag ts)) (hf : fin[i]? = some (some (.mv ag ts'))) (hr : (st r).sv = .box cs) (hrel : RowRel id off J ts' cs cs') : NewSV st args fin (.row r [] 0 off i J) (.box cs')
  | deep {r k j π c off i J ag ts ts' sz els row row'} (ha : args[i]? = some (.mv ag ts)) (hf : fin[i]? = some (some (.mv ag ts'))) (hr : st.at_ r ((k, j) :: π) = some (.sl true sz els)) (hrow : els[c]? = some row) (hrel : RowRel id off J ts' row row') :
      NewSV st args fin (.row r ((k, j) :: π) c off i J) ((st r).sv.mod k j fun x => x.setAt π (.sl true sz (els.set c row')))

/-- The cell of the caller's that an argument's cell is. -/
theorem mv_place (hA : Alls X st a w G vals) (hM : mOK l m) {i r c off : Nat} {π : Path} {J : List Nat} {x : Operand} {ag : Bool} {ts : List T} (h : ArgOf X st l m i x (.mv ag ts)) (he : ME.row r π c off i J ∈ m) :
    ∃ us, Pack ag us (a.eval x) ∧ us.length = ts.length ∧ ∀ j ∈ J, ∀ u, us[j]? = some u → ∃ y, place vals st w r (π ++ [(c, off + j)]) = some (u, y) := by
  cases h with
  | mv hN h hl hm hc =>
    rename_i s cs r' π' c' off' J'
    have h1 := find_key hM.2.1 he
    have h2 := find_key hM.2.1 hm
    simp only [ME.par] at h1 h2
    rw [h1] at h2
    cases h2
    have hs := hA.inv.slots s
    rw [h] at hs
    obtain ⟨us, hpk, hul, hall⟩ := hs
    refine ⟨us, by rw [show a.eval (.tmp s) = vals s from hA.link s hN]; exact hpk, by omega, fun j hj u hu => ?_⟩
    have hlt : j < cs.length := by rw [← hul]; exact (List.getElem?_eq_some_iff.1 hu).1
    have hcj : cs[j]? = some cs[j] := List.getElem?_eq_getElem hlt
    have hyj : ts[j]? = some (ts[j]'(by omega)) := List.getElem?_eq_getElem _
    have h3 := hc j _ _ hcj hyj
    have h4 := hall j _ u hcj hu
    generalize hce : cs[j] = cc at h3 h4
    cases h3 with
    | free _ hJ => exact absurd hj hJ
    | own h5 _ =>
      obtain ⟨rfl, rfl, rfl, rfl⟩ := h5
      refine ⟨_, place_one (x := ts[j]'(by omega)) (by rw [h, ← hce] at *; simp [SV.cell, List.getElem?_eq_getElem hlt]) ?_⟩
      rw [h]
      exact cellVal_val hpk _ (by simpa using hu)
    | ref hk hπ hy _ =>
      obtain ⟨sz, els, hpl⟩ := h4.2 hk
      subst hπ
      exact ⟨_, hpl⟩

theorem to_row {r c off i : Nat} {π : Path} {J : List Nat} (k' j' : Nat) (ρ : Path) (h : k' = c → ∀ j0 ∈ J, off + j0 ≠ j') : (ME.row r π c off i J).to (π ++ (k', j') :: ρ) = none := by
  simp only [ME.to, dropPre_app]
  rw [if_neg]
  rintro ⟨h1, h2, h3⟩
  exact h h1 _ h3 (by omega)
theorem dropPre_some : ∀ {π ρ ρ' : Path}, dropPre π ρ = some ρ' → ρ = π ++ ρ'
  | [], ρ, ρ', h => by simp only [dropPre, Option.some.injEq] at h; simp [h]
  | q :: π, [], _, h => by simp [dropPre] at h
  | q :: π, q' :: ρ, ρ', h => by
    simp only [dropPre] at h
    split at h
    · rename_i e; subst e; rw [dropPre_some h]; rfl
    · cases h

/-- A call that is handed places to write. -/
theorem OS_callM {cp : List T} {fn : Func} (us : List (Nat × SV)) (hV : VC X.P g args res fin) (hfn : X.P.funcs[g]? = some fn) (hname : (fn.name == "runtime.NumGoroutine") = false) (hbody : fn.body.isNone = false) (hf : Opd X.N st f (one (.fn g cp))) (hM : mOK l m) (hargs : CallArgs X st l m ops cp args)
    (hus : us.map Prod.fst = m.map ME.root) (hnew : ∀ (n : Nat) e p, m[n]? = some e → us[n]? = some p → NewSV st args fin e p.2) (hpar : ∀ e ∈ m, e.par < ops.length) (hd : d ∉ m.map ME.root) (hfin : ∀ (i : Nat) ar, fin[i]? = some (some ar) → i ≠ RES)
    (hdeep : l = [] ∨ (∀ p ∈ res, deepl p.2 = true) ∧ (∀ (j : Nat) ar, fin[j]? = some (some ar) → argDeep ar = true)) (hfr : X.free d = true) :
    OStep X ⟨some d, .call { callee := .value f, args := ops.toArray, argTypes := tys }, ty, pos, af, gd⟩ st ((us.foldl (fun s p => s.put p.1 p.2) st).put d (resSV res)) := by
  rintro a w next Qx ⟨G, vals, hA⟩ hn
  obtain ⟨vs, hrun, hl, hev, hrep⟩ := call_run (d := d) (tys := tys) (ty := ty) (pos := pos) (af := af) (gd := gd) hA hM hfn hname hbody hf hargs
  unfold Oper.wp
  rw [hrun, Oper.upon_enter]
  -- the states in between
  have puts_not : ∀ (us : List (Nat × SV)) (st : St) (q : Nat), q ∉ us.map Prod.fst → (us.foldl (fun s p => s.put p.1 p.2) st) q = st q := by
    intro us
    induction us with
    | nil => intro st q _; rfl
    | cons p us ih =>
      intro st q hq
      simp only [List.map_cons, List.mem_cons, not_or] at hq
      simp only [List.foldl_cons]
      rw [ih _ _ hq.2, put_ne _ _ hq.1]
  have puts_at : ∀ (us : List (Nat × SV)) (st : St) (n : Nat) p, (us.map Prod.fst).Nodup → us[n]? = some p → (us.foldl (fun s p => s.put p.1 p.2) st) p.1 = ⟨(st p.1).ver + 1, p.2⟩ := by
    intro us
    induction us with
    | nil => intro st n p _ h; simp at h
    | cons p0 us ih =>
      intro st n p hnd h
      simp only [List.map_cons, List.nodup_cons] at hnd
      simp only [List.foldl_cons]
      cases n with
      | zero =>
        simp only [List.getElem?_cons_zero, Option.some.injEq] at h
        subst h
        rw [puts_not _ _ _ hnd.1, put_same]
      | succ n =>
        have h' : us[n]? = some p := by simpa using h
        rw [ih _ n p hnd.2 h', put_ne _ _ (by rintro e; exact hnd.1 (e ▸ List.mem_map_of_mem (List.mem_of_getElem? h')))]
  have hnd : (us.map Prod.fst).Nodup := hus ▸ hM.1
  generalize hst2 : (us.foldl (fun s p => s.put p.1 p.2) st).put d (resSV res) = st2 at hn ⊢
  have st2_d : st2 d = ⟨(st d).ver + 1, resSV res⟩ := by rw [← hst2, put_same, puts_not _ _ _ (hus ▸ hd)]
  have st2_not : ∀ q, ¬ (q = d ∨ q ∈ m.map ME.root) → st2 q = st q := fun q h => by
    simp only [not_or] at h
    rw [← hst2, put_ne _ _ h.1, puts_not _ _ _ (hus ▸ h.2)]
  have st2_at : ∀ (n : Nat) e, m[n]? = some e → ∃ sv, NewSV st args fin e sv ∧ st2 e.root = ⟨(st e.root).ver + 1, sv⟩ := by
    intro n e he
    have hlt : n < us.length := by
      have := congrArg List.length hus
      simp only [List.length_map] at this
      rw [this]; exact (List.getElem?_eq_some_iff.1 he).1
    have hp : us[n]? = some us[n] := List.getElem?_eq_getElem hlt
    have hr : us[n].1 = e.root := by
      have := congrArg (fun l => l[n]?) hus
      simp only [List.getElem?_map, hp, he, Option.map_some, Option.some.injEq] at this
      exact this
    refine ⟨us[n].2, hnew n e _ he hp, ?_⟩
    have hed : e.root ≠ d := fun h => hd (h ▸ List.mem_map_of_mem (List.mem_of_getElem? he))
    rw [← hst2, put_ne _ _ hed, ← hr]
    exact puts_at us st n _ hnd hp
  refine (call_core (d := d) (L := lentL l m) (M := backL m) hA hV hl hrep hfin ?_).mono ?_
  · rcases hdeep with rfl | h
    · refine .inl fun s ρ => ?_
      simp only [lentL, List.any_nil, Bool.false_eq_true, if_false]
      split
      · intro h; obtain ⟨q, -, h2⟩ := Option.map_eq_some_iff.1 h; cases h2
      · simp
    · exact .inr h
  · rintro e w' ⟨v, G2, rfl, hpers, hout, hlab, hsz, hos, htp, houtp, hal, ⟨us', hv, hul, hall⟩, hfins⟩
    have hver : ∀ s, (s = d ∨ s ∈ m.map ME.root) → (st s).ver < (st2 s).ver := by
      intro s h
      by_cases hsd : s = d
      · subst hsd; rw [st2_d]; simp
      · obtain ⟨e, he, rfl⟩ := List.mem_map.1 (h.resolve_left hsd)
        obtain ⟨n, hn'⟩ := List.getElem?_of_mem he
        obtain ⟨sv, -, h3⟩ := st2_at n e hn'
        rw [h3]; simp
    have hvne : ∀ s, ¬ (s = d ∨ s ∈ m.map ME.root) → upd vals d v s = vals s := fun s h => by simp only [not_or] at h; exact upd_ne _ _ h.1
    have hoK : ∀ b s ρ, G b = .at_ s ρ → ¬ (s = d ∨ s ∈ m.map ME.root) → G2 b = .at_ s ρ ∧ w'.heap[b]? = w.heap[b]? := fun b s ρ h hs => by
      simp only [not_or] at hs
      exact hlab b s ρ h (lentL_not hs.2 ρ)
    refine hn _ _ ⟨G2, upd vals d v, hA.step (K := fun s => s = d ∨ s ∈ m.map ME.root) st2_not hvne hver ?_ hoK ?_ hal (free_pin hfr v hA.inv.pin) hsz hos htp houtp hA.defers (by simp [Act.put, hA.size]) (Act.put_link hA)⟩
    · rintro b (h | ⟨h, hb⟩)
      · have := hpers b h; exact ⟨by rw [this.1, h], this.2⟩
      · have := hout b hb h; exact ⟨by rw [this.1, h], this.2⟩
    · intro hp s h
      by_cases hsd : s = d
      · subst hsd
        rw [st2_d]
        simp only [upd, if_true]
        exact resSV_rep hv hul hall
      · obtain ⟨e, he, rfl⟩ := List.mem_map.1 (h.resolve_left hsd)
        obtain ⟨n, hn'⟩ := List.getElem?_of_mem he
        obtain ⟨sv, hsv, h3⟩ := st2_at n e hn'
        rw [h3, upd_ne _ _ hsd]
        have hback : ∀ ρ, backL m e.par ρ = e.back ρ := fun ρ => backL_of hM he ρ
        have hlent : ∀ ρ, lentL l m e.root ρ = (e.to ρ).map some := fun ρ => lentL_to hM he ρ
        have hkeep : ∀ b ρ, G b = .at_ e.root ρ → e.to ρ = none → G2 b = .at_ e.root ρ ∧ w'.heap[b]? = w.heap[b]? := fun b ρ hb h => hlab b _ ρ hb (.inl (by rw [hlent, h]; rfl))
        have hx := hpar e he
        obtain ⟨x, hx⟩ : ∃ x, ops[e.par]? = some x := ⟨_, List.getElem?_eq_getElem hx⟩
        have hvx := hev _ _ hx
        have hrefs : ∀ {s k j s' k' j' r' ver : Nat} {π' : Path} {u : Value}, CellRep G w st vals s k j u (.ref r' ver π') → CellRep G2 w' st2 (upd vals d v) s' k' j' u (.ref r' ver π') := fun hc => ref_keep hA.inv st2_not hvne hver hoK hc
        cases hsv with
        | @box r i cs cs' ha hf =>
          have hao := hargs.each i x _ hx ha
          have hfr2 := hfins i _ _ hf hvx r (hback []) (fun ρ => hback ρ)
          have hval : a.eval x = vals r := by
            cases hao with
            | mub hN hr hm =>
              have h1 := find_key hM.2.1 he
              have h2 := find_key hM.2.1 hm
              simp only [ME.par] at h1 h2
              rw [h1] at h2
              cases h2
              exact hA.link _ hN
            | mu hN h hr hm =>
              have h1 := find_key hM.2.1 he
              have h2 := find_key hM.2.1 hm
              simp only [ME.par] at h1 h2
              rw [h1] at h2
              cases h2
              rename_i s
              have h0 := hA.inv.slots s
              rw [h] at h0
              obtain ⟨-, b, -, h3, h4⟩ := h0.2 rfl
              rw [show a.eval (.tmp s) = vals s from hA.link s hN, h4, h3]
          rw [hval] at hfr2
          exact hfr2
        | @bld r i T e x0 T' e' x' ha hf =>
          have hao := hargs.each i _ _ hx ha
          have hfr2 := hfins i _ _ hf hvx r (fun ρ => hback ρ)
          have hval : a.eval x = vals r := by
            cases hao with
            | blb hN hr hm =>
              have h1 := find_key hM.2.1 he
              have h2 := find_key hM.2.1 hm
              simp only [ME.par] at h1 h2
              rw [h1] at h2
              cases h2
              exact hA.link _ hN
            | bl hN h hr hm =>
              have h1 := find_key hM.2.1 he
              have h2 := find_key hM.2.1 hm
              simp only [ME.par] at h1 h2
              rw [h1] at h2
              cases h2
              rename_i s
              have h0 := hA.inv.slots s
              rw [h] at h0
              obtain ⟨-, b, -, h3, h4⟩ := h0.2 rfl
              rw [show a.eval (.tmp s) = vals s from hA.link s hN, h4, h3]
          rw [hval] at hfr2
          exact hfr2
        | @val r off i J ag ts ts' agr cs cs' ha hf hr hrel =>
          obtain ⟨us1, hpk1, hul1, hpl⟩ := mv_place hA hM (hargs.each i x _ hx ha) he
          obtain ⟨us2, hpk2, hul2, hfr2⟩ := hfins i _ _ hf hvx
          have e12 := pack_inj hpk1 hpk2
          subst e12
          have hs := hA.inv.slots r
          rw [hr] at hs
          obtain ⟨ur, hpkr, hulr, hallr⟩ := hs
          refine ⟨ur, hpkr, by rw [hrel.1]; exact hulr, fun j c u hc hu => ?_⟩
          rcases hrel.2 j c hc with ⟨j0, hj0, rfl, y, hy, rfl⟩ | ⟨hno, hold⟩
          · have hlt : j0 < us1.length := by rw [hul2]; exact (List.getElem?_eq_some_iff.1 hy).1
            obtain ⟨y0, hp0⟩ := hpl j0 hj0 _ (List.getElem?_eq_getElem hlt)
            have hu0 : us1[j0] = u := by
              simp only [List.nil_append, place] at hp0
              obtain ⟨u1, h1, hp0⟩ := Option.bind_eq_some_iff.1 hp0
              rw [hr, cellVal_val hpkr _ hu] at h1
              cases h1
              split at hp0
              · simp only [descend, Option.some.injEq, Prod.mk.injEq] at hp0; exact hp0.1.symm
              · cases hp0
            exact hfr2 j0 y u hy (by rw [List.getElem?_eq_getElem hlt, hu0]) r [(0, off + j0)] (fun ρ => by have := hback ((0, j0) :: ρ); simp only [ME.par, ME.back, hj0, if_true, List.nil_append] at this; simpa using this)
          · have h9 := hallr j c u hold hu
            cases c with
            | t x => exact Rep.move h9 hp fun b ρ hb => hkeep b _ hb (by
                have := to_row (r := r) (c := 0) (off := off) (i := i) (π := []) (J := J) 0 j ρ (fun _ => hno)
                simpa using this)
            | ref => exact hrefs h9
        | @bx r off i J ag ts ts' cs cs' ha hf hr hrel =>
          obtain ⟨us1, hpk1, hul1, hpl⟩ := mv_place hA hM (hargs.each i x _ hx ha) he
          obtain ⟨us2, hpk2, hul2, hfr2⟩ := hfins i _ _ hf hvx
          have e12 := pack_inj hpk1 hpk2
          subst e12
          have hs := hA.inv.slots r
          rw [hr] at hs
          obtain ⟨b, arr, ty', hvr, hG, hb, hlr, hallr⟩ := hs
          have hbb := hkeep b [] hG (by simp [ME.to, dropPre])
          refine ⟨b, arr, ty', hvr, hbb.1, hbb.2.trans hb, by rw [hrel.1]; exact hlr, fun j c u hc hu => ?_⟩
          rcases hrel.2 j c hc with ⟨j0, hj0, rfl, y, hy, (rfl : c = y)⟩ | ⟨hno, hold⟩
          · have hlt : j0 < us1.length := by rw [hul2]; exact (List.getElem?_eq_some_iff.1 hy).1
            obtain ⟨y0, hp0⟩ := hpl j0 hj0 _ (List.getElem?_eq_getElem hlt)
            have hu0 : us1[j0] = u := by
              simp only [List.nil_append, place] at hp0
              obtain ⟨u1, h1, hp0⟩ := Option.bind_eq_some_iff.1 hp0
              rw [hr] at h1
              simp only [cellVal, hvr, World.cell?, hb, Nat.zero_add] at h1
              have h1' : arr[off + j0]? = some u1 := by simpa using h1
              rw [hu] at h1'
              cases h1'
              split at hp0
              · simp only [descend, Option.some.injEq, Prod.mk.injEq] at hp0; exact hp0.1.symm
              · cases hp0
            exact hfr2 j0 _ u hy (by rw [List.getElem?_eq_getElem hlt, hu0]) r [(0, off + j0)] (fun ρ => by have := hback ((0, j0) :: ρ); simp only [ME.par, ME.back, hj0, if_true, List.nil_append] at this; simpa using this)
          · exact Rep.move (hallr j c u hold hu) hp fun b ρ hb => hkeep b _ hb (by
                have := to_row (r := r) (c := 0) (off := off) (i := i) (π := []) (J := J) 0 j ρ (fun _ => hno)
                simpa using this)
        | @deep r k jk π c off i J ag ts ts' sz els row row' ha hf hr hrow hrel =>
          obtain ⟨us1, hpk1, hul1, hpl⟩ := mv_place hA hM (hargs.each i x _ hx ha) he
          obtain ⟨us2, hpk2, hul2, hfr2⟩ := hfins i _ _ hf hvx
          have e12 := pack_inj hpk1 hpk2
          subst e12
          obtain ⟨u0, hu0⟩ := place_some hA hr
          have hrep0 := place_rep hA.inv hu0
          have hvr : vals r = upd vals d v r := (upd_ne _ _ hsd).symm
          have hnew1 : Rep G2 w' r ((k, jk) :: π) u0 (.sl true sz (els.set c row')) := by
            cases hrep0 with
            | nil => simp at hrow
            | own f hG hlen hc hrr hb ha' hv' ht =>
              rename_i b o n cc arr ty'
              have hbb := hkeep b _ hG (by
                have := dropPre_app ((k, jk) :: π) []
                rw [List.append_nil] at this
                simp [ME.to, this])
              have hrowl : row.length = sz := hrr row (List.mem_of_getElem? hrow)
              have hcell : ∀ (i' j' : Nat) t, elAt (els.set c row') i' j' = some t → (i' = c ∧ ∃ j0 ∈ J, off + j0 = j' ∧ ts'[j0]? = some t ∧ ∃ t0, elAt els i' j' = some t0) ∨ ((i' = c → ∀ j0 ∈ J, off + j0 ≠ j') ∧ elAt els i' j' = some t) := by
                intro i' j' t h
                simp only [elAt, List.getElem?_set] at h
                by_cases hi : c = i'
                · subst hi
                  have hlt : c < els.length := (List.getElem?_eq_some_iff.1 hrow).1
                  simp only [if_true, hlt, Option.bind_some] at h
                  rcases hrel.2 j' t h with ⟨j0, hj0, h1, y, hy, rfl⟩ | ⟨hno, hold⟩
                  · refine .inl ⟨rfl, j0, hj0, h1, hy, ?_⟩
                    have hlt' : j' < row.length := by rw [← hrel.1]; exact (List.getElem?_eq_some_iff.1 h).1
                    exact ⟨row[j'], by simp [elAt, hrow, List.getElem?_eq_getElem hlt']⟩
                  · exact .inr ⟨fun _ => hno, by simp [elAt, hrow, hold]⟩
                · rw [if_neg hi] at h
                  exact .inr ⟨fun e => absurd e.symm hi, h⟩
              refine .own f hbb.1 (by simpa using hlen) hc ?_ (hbb.2.trans hb) ha' (fun i' j' t h => ?_) (fun i' j' t h => ?_)
              · intro r' hr'
                rcases List.mem_or_eq_of_mem_set hr' with h | rfl
                · exact hrr _ h
                · rw [hrel.1, hrowl]
              · refine (cell_eq hbb.2).trans ?_
                rcases hcell _ _ _ h with ⟨-, j0, -, -, -, t0, h0⟩ | ⟨-, h0⟩
                · exact hv' _ _ _ h0
                · exact hv' _ _ _ h0
              · rcases hcell _ _ _ h with ⟨rfl, j0, hj0, rfl, hy, t0, h0⟩ | ⟨hno, h0⟩
                · have hlt : j0 < us1.length := by rw [hul2]; exact (List.getElem?_eq_some_iff.1 hy).1
                  obtain ⟨y0, hp0⟩ := hpl j0 hj0 _ (List.getElem?_eq_getElem hlt)
                  have hp1 := place_snoc hu0 h0 (hv' _ _ _ h0)
                  rw [hp0] at hp1
                  simp only [Option.some.injEq, Prod.mk.injEq] at hp1
                  exact hfr2 j0 t _ hy (by rw [List.getElem?_eq_getElem hlt, hp1.1]) r _ (fun ρ => by have := hback ((0, j0) :: ρ); simp only [ME.par, ME.back, hj0, if_true] at this; rw [this]; simp)
                · exact (ht _ _ _ h0).move hp fun b' ρ hb' => by
                    have := hkeep b' _ hb' (by
                      have := to_row (r := r) (c := c) (off := off) (i := i) (π := (k, jk) :: π) (J := J) i' j' ρ hno
                      simpa using this)
                    exact this
          have := slot_replace (r := r) (k := k) (j := jk) (π := π) hA.inv st2_not hvne hver hp hoK hu0 hnew1 (fun b ρ hb hnp => hkeep b ρ hb (by
            simp only [ME.to]
            cases hdp : dropPre ((k, jk) :: π) ρ with
            | none => rfl
            | some ρ' => exact absurd ⟨ρ', (dropPre_some hdp).symm⟩ hnp))
          exact this

/-- A call that is handed nothing to write. -/
theorem OS_call {cp : List T} {fn : Func} (hV : VC X.P g args res fin) (hfn : X.P.funcs[g]? = some fn) (hname : (fn.name == "runtime.NumGoroutine") = false) (hbody : fn.body.isNone = false) (hf : Opd X.N st f (one (.fn g cp))) (hargs : CallArgs X st l [] ops cp args)
    (hdeep : l = [] ∨ (∀ p ∈ res, deepl p.2 = true) ∧ fin = []) (hfin : fin = [] ∨ ∀ (i : Nat) ar, fin[i]? ≠ some (some ar)) (hfr : X.free d = true) :
    OStep X ⟨some d, .call { callee := .value f, args := ops.toArray, argTypes := tys }, ty, pos, af, gd⟩ st (st.put d (resSV res)) := by
  have hnofin : ∀ (i : Nat) ar, fin[i]? ≠ some (some ar) := by
    rcases hfin with rfl | h
    · intro i ar h; simp at h
    · exact h
  refine OS_callM [] hV hfn hname hbody hf ⟨by simp, by simp, by simp⟩ hargs rfl (fun n e p h => by simp at h) (fun e h => by simp at h) (by simp) (fun i ar h => absurd h (hnofin i ar)) ?_ hfr
  rcases hdeep with h | ⟨h, -⟩
  · exact .inl h
  · exact .inr ⟨h, fun j ar h => absurd h (hnofin j ar)⟩
end
end Go.V
namespace Go.V
open Go Go.RowKit

section
variable {X : Cx} {st st' : St} {d : Nat} {t t' ty : TypeId} {x y z : Operand} {k : IntKind} {v : Value} {pos : String} {af : Array Edge} {g : Option (Nat × Bool)} {a : Act} {w w' : World} {G G' : Nat → Own} {vals vals' : Nat → Value} {Q : Exit → St → Prop} {c : Code}

/-- A component without rows of its own out of a call's results. -/
theorem OS_extract {s i : Nat} {ag : Bool} {ts : List T} {vs : List (Bool × List Cell)} (hN : s < X.N) (hsv : (st s).sv = .tup vs) (hi : vs[i]? = some (ag, ts.map .t)) (hfr : ∀ y ∈ ts, y.free = true) (hf : X.free d = true) :
    OStep X ⟨some d, .extract (.tmp s) i, ty, pos, af, g⟩ st (st.put d (.val ag (ts.map .t))) := by
  refine OStep.value rfl hf fun a w G vals hA => ?_
  have he : a.eval (.tmp s) = vals s := hA.link s hN
  have h0 := hA.inv.slots s
  rw [hsv] at h0
  obtain ⟨arr, hv, hl, hall⟩ := h0
  have hlt : i < arr.size := by rw [hl]; exact (List.getElem?_eq_some_iff.1 hi).1
  have hu : arr[i]? = some arr[i] := Array.getElem?_eq_getElem hlt
  obtain ⟨us, hpk, hul, hall'⟩ := hall i _ _ hi hu
  refine ⟨arr[i], ?_, us, hpk, hul, fun j c u hc huj => ?_⟩
  · simp only [execOp, he, hv]
    refine run_value ?_
    simp [Instr.extract, hu]
  · have h1 := hall' j c u hc huj
    rw [List.getElem?_map] at hc
    obtain ⟨y, hy, rfl⟩ := Option.map_eq_some_iff.1 hc
    exact Rep.free h1 (hfr y (List.mem_of_getElem? hy)) (fun b h => ⟨h, rfl⟩)

/-- The owner of a component changed. -/
def renameK (G : Nat → Own) (s i d : Nat) : Nat → Own := fun b => match G b with
  | .at_ q ((k, j) :: ρ) => if q = s ∧ k = i then .at_ d ((0, j) :: ρ) else .at_ q ((k, j) :: ρ)
  | o => o
def goneComp (vs : List (Bool × List Cell)) (i : Nat) : List (Bool × List Cell) := vs.modify i fun p => (p.1, p.2.map fun _ => .t .gone)

/-- A component with all that it owns. -/
theorem OS_extract_own {s i : Nat} {ag : Bool} {ts : List T} {vs : List (Bool × List Cell)} (hN : s < X.N) (hs : s ≠ d) (hsv : (st s).sv = .tup vs) (hi : vs[i]? = some (ag, ts.map .t)) (hf : X.free d = true) (hfs : X.free s = true) :
    OStep X ⟨some d, .extract (.tmp s) i, ty, pos, af, g⟩ st ((st.put s (.tup (goneComp vs i))).put d (.val ag (ts.map .t))) := by
  rintro a w next Qx ⟨G, vals, hA⟩ hn
  have he : a.eval (.tmp s) = vals s := hA.link s hN
  have h0 := hA.inv.slots s
  rw [hsv] at h0
  obtain ⟨arr, hv, hl, hall⟩ := h0
  have hlt : i < arr.size := by rw [hl]; exact (List.getElem?_eq_some_iff.1 hi).1
  have hu : arr[i]? = some arr[i] := Array.getElem?_eq_getElem hlt
  have hr : (execOp a.eval ⟨some d, .extract (.tmp s) i, ty, pos, af, g⟩).run X.P w = .ok (.value arr[i]) w := by
    simp only [execOp, he, hv]
    refine run_value ?_
    simp [Instr.extract, hu]
  unfold Oper.wp
  rw [hr, Oper.upon_value]
  have hp : ∀ b, G b = .pers → renameK G s i d b = .pers ∧ w.heap[b]? = w.heap[b]? := fun b h => ⟨by simp [renameK, h], rfl⟩
  have helse : ∀ b q ρ, G b = .at_ q ρ → (∀ j ρ', ¬ (q = s ∧ ρ = (i, j) :: ρ')) → renameK G s i d b = .at_ q ρ := by
    intro b q ρ h hno
    rcases ρ with _ | ⟨⟨k, j⟩, ρ⟩
    · simp [renameK, h]
    · simp only [renameK, h]
      rw [if_neg]
      rintro ⟨rfl, rfl⟩
      exact hno j ρ ⟨rfl, rfl⟩
  refine hn _ _ ⟨renameK G s i d, upd vals d arr[i], hA.step (K := fun q => q = d ∨ q = s) (fun q h => by simp only [not_or] at h; rw [put_ne _ _ h.1, put_ne _ _ h.2]) (fun q h => by simp only [not_or] at h; exact upd_ne _ _ h.1) ?_ ?_ ?_ ?_ (fun b hb => by simp [renameK, hA.inv.alloc b hb]) (free_pin hf _ hA.inv.pin) (Nat.le_refl _) rfl rfl rfl hA.defers (by simp [Act.put, hA.size]) (Act.put_link hA)⟩
  · intro q h
    by_cases hd : q = d
    · subst hd; rw [put_same, put_ne _ _ (Ne.symm hs)]; simp
    · have := h.resolve_left hd; subst this; rw [put_ne _ _ hd, put_same]; simp
  · rintro b (h | ⟨h, -⟩)
    · exact ⟨by rw [(hp b h).1, h], rfl⟩
    · exact ⟨by simp [renameK, h], rfl⟩
  · intro b q ρ h hq
    simp only [not_or] at hq
    exact ⟨helse b q ρ h fun j ρ' hh => hq.2 hh.1, rfl⟩
  · intro _ q h
    by_cases hd : q = d
    · subst hd
      rw [put_same]
      simp only [upd, if_true]
      obtain ⟨us, hpk, hul, hall'⟩ := hall i _ _ hi hu
      refine ⟨us, hpk, hul, fun j c u hc huj => ?_⟩
      have h1 := hall' j c u hc huj
      rw [List.getElem?_map] at hc
      obtain ⟨y, hy, rfl⟩ := Option.map_eq_some_iff.1 hc
      exact Rep.move h1 hp fun b ρ hb => ⟨by simp only [List.singleton_append] at hb; simp [renameK, hb], rfl⟩
    · have := h.resolve_left hd
      subst this
      rw [put_ne _ _ hd, put_same, upd_ne _ _ hd]
      refine ⟨arr, hv, by simpa [goneComp] using hl, fun k p u hpk hu' => ?_⟩
      simp only [goneComp, List.getElem?_modify] at hpk
      by_cases hk : i = k
      · subst hk
        rw [hi] at hpk
        simp only [Option.map_eq_map, Option.map_some, if_true, Option.some.injEq] at hpk
        subst hpk
        obtain ⟨us, h1, h2, -⟩ := hall i _ u hi hu'
        refine ⟨us, h1, by simpa using h2, fun j c u hc _ => ?_⟩
        simp only [List.map_map, List.getElem?_map] at hc
        obtain ⟨_, -, rfl⟩ := Option.map_eq_some_iff.1 hc
        exact Rep.gone
      · simp only [hk, if_false] at hpk
        have hpk : vs[k]? = some p := by simpa using hpk
        obtain ⟨us, h1, h2, h3⟩ := hall k p u hpk hu'
        refine ⟨us, h1, h2, fun j c u hc huj => ?_⟩
        have h4 := h3 j c u hc huj
        cases c with
        | t y => exact Rep.move h4 hp fun b ρ hb => ⟨helse b _ _ hb fun j' ρ' hh => by simp at hh; exact hk hh.1.1.symm, rfl⟩
        | ref r ver π =>
          refine ref_keep hA.inv (K := fun q' => q' = d ∨ q' = q) (fun q' h => by simp only [not_or] at h; rw [put_ne _ _ h.1, put_ne _ _ h.2]) (fun q' h => by simp only [not_or] at h; exact upd_ne _ _ h.1) ?_ ?_ h4
          · intro q' h
            by_cases hd' : q' = d
            · subst hd'; rw [put_same, put_ne _ _ (Ne.symm hs)]; simp
            · have := h.resolve_left hd'; subst this; rw [put_ne _ _ hd', put_same]; simp
          · intro b q' ρ h hq
            simp only [not_or] at hq
            exact ⟨helse b q' ρ h fun j ρ' hh => hq.2 hh.1, rfl⟩

/-- A function's value; what it catches lies where nobody writes. -/
theorem OS_makeFunc {f : FuncId} {caps : List Operand} {ys : List T} (hl : caps.length = ys.length) (hc : ∀ (j : Nat) x y, caps[j]? = some x → ys[j]? = some y → Opd X.N st x (one y) ∧ y.free = true) (hf : X.free d = true) :
    OStep X ⟨some d, .makeFunc (.func f) #[] caps.toArray, ty, pos, af, g⟩ st (st.put d (one (.fn f ys))) := by
  refine OStep.value rfl hf fun a w G vals hA => ⟨.func (.func f) #[] (caps.map a.eval).toArray, by simp [execOp, Instr.makeFunc], ?_⟩
  have each : ∀ (j : Nat) y, ys[j]? = some y → ∃ x, caps[j]? = some x ∧ Opd X.N st x (one y) ∧ y.free = true := fun j y hy => by
    have hlt : j < caps.length := by rw [hl]; exact (List.getElem?_eq_some_iff.1 hy).1
    exact ⟨caps[j], List.getElem?_eq_getElem hlt, hc j _ y (List.getElem?_eq_getElem hlt) hy⟩
  refine slotRep_one.2 (.fn (caps.map a.eval) (by simpa using hl) (fun y hy => ?_) (fun j y v hy hv => ?_))
  · obtain ⟨j, hj⟩ := List.getElem?_of_mem hy
    exact (each j y hj).choose_spec.2.2
  · obtain ⟨x, hx, ho, hfr⟩ := each j y hy
    rw [List.getElem?_map, hx] at hv
    cases hv
    obtain ⟨s, hs, -⟩ := opd_eval hA ho
    exact (slotRep_one.1 hs).free hfr (fun b h => ⟨h, rfl⟩)

theorem bounds_run {P : Program} {w : World} {isS : Bool} {len cap : Nat} {lo hi : Option Value} {l h : Nat} (hh : (hi = none ∧ h = len) ∨ ∃ k, hi = some (.int k h) ∧ h ≤ cap) (hl : (lo = none ∧ l = 0) ∨ ∃ k, lo = some (.int k l) ∧ l ≤ h) :
    (Instr.sliceBounds isS len cap lo hi none).run P w = .ok (l, h, cap) w := by
  have h1 : (match hi, (none : Option Value) with | some v, some _ => Instr.sliceBound v cap .slice3B | some v, none => Instr.sliceBound v cap (if isS then .sliceAcap else .sliceAlen) | none, none => pure len | none, some _ => stuck "Slice: max without high" : Sem Nat).run P w = .ok h w := by
    rcases hh with ⟨rfl, rfl⟩ | ⟨k, rfl, hle⟩
    · rfl
    · have h3 : ((h : Int) ≤ cap) := by omega
      simp [Instr.sliceBound, asIntOf, h3]
  have h2 : (match lo with | some v => Instr.sliceBound v h .sliceB | none => pure 0 : Sem Nat).run P w = .ok l w := by
    rcases hl with ⟨rfl, rfl⟩ | ⟨k, rfl, hle⟩
    · rfl
    · have h3 : ((l : Int) ≤ h) := by omega
      simp [Instr.sliceBound, asIntOf, h3]
  rcases hh with ⟨rfl, rfl⟩ | ⟨k, rfl, hle⟩ <;> rcases hl with ⟨rfl, rfl⟩ | ⟨k', rfl, hle'⟩ <;> simp_all [Instr.sliceBounds]

/-- A bound of a cut: absent, or a number. -/
def Bound (X : Cx) (st : St) (o : Option Operand) (dflt n : Nat) : Prop := (o = none ∧ n = dflt) ∨ ∃ x k, o = some x ∧ Opd X.N st x (scv (.int k n))
theorem bound_eval (hA : Alls X st a w G vals) {o : Option Operand} {dflt n : Nat} (h : Bound X st o dflt n) : (o.map a.eval = none ∧ n = dflt) ∨ ∃ k, o.map a.eval = some (.int k n) := by
  rcases h with ⟨rfl, rfl⟩ | ⟨x, k, rfl, hx⟩
  · exact .inl ⟨rfl, rfl⟩
  · exact .inr ⟨k, by simp [(opd_sc hA hx).1]⟩

/-- A cut of a string. -/
theorem OS_slice_str {s : ByteArray} {lo hi : Option Operand} {l h : Nat} (hu : X.P.underlying t = some .string) (hx : Opd X.N st x (scv (.string s))) (hlo : Bound X st lo 0 l) (hhi : Bound X st hi s.size h) (h1 : l ≤ h) (h2 : h ≤ s.size) (hf : X.free d = true) :
    OStep X ⟨some d, .slice t x lo hi none, ty, pos, af, g⟩ st (st.put d (scv (.string (s.extract l h)))) := by
  refine OStep.scalar rfl hf rfl fun a w G vals hA => ?_
  simp only [execOp, (opd_sc hA hx).1]
  refine run_value ?_
  have hb := bounds_run (P := X.P) (w := w) (isS := false) (len := s.size) (cap := s.size) (lo := lo.map a.eval) (hi := hi.map a.eval) (l := l) (h := h)
    ((bound_eval hA hhi).imp id fun ⟨k, hk⟩ => ⟨k, hk, h2⟩) ((bound_eval hA hlo).imp id fun ⟨k, hk⟩ => ⟨k, hk, h1⟩)
  simp [Instr.sliceAt, Instr.slice, run_underlying hu, hb]

theorem elAt_cut (els : List (List T)) (l h i j : Nat) : elAt ((els.take h).drop l) i j = if l + i < h then elAt els (l + i) j else none := by
  simp only [elAt, List.getElem?_drop, List.getElem?_take]
  split <;> rfl

/-- A cut of a row that nobody writes. -/
theorem OS_slice_shd {e : TypeId} {sz : Nat} {els : List (List T)} {lo hi : Option Operand} {l h : Nat} (he : elem? X.P t = some (e, sz)) (hx : Opd X.N st x (one (.sl false sz els))) (hlo : Bound X st lo 0 l) (hhi : Bound X st hi els.length h) (h1 : l ≤ h) (h2 : h ≤ els.length) (hf : X.free d = true) :
    OStep X ⟨some d, .slice t x lo hi none, ty, pos, af, g⟩ st (st.put d (one (.sl false sz ((els.take h).drop l)))) := by
  refine OStep.value rfl hf fun a w G vals hA => ?_
  obtain ⟨s0, hs, -⟩ := opd_eval hA hx
  have hrep := slotRep_one.1 hs
  unfold elem? at he
  split at he
  rotate_left
  · cases he
  rename_i e' hu
  obtain ⟨m, hm, hxx⟩ := Option.map_eq_some_iff.1 he
  cases hxx
  have run : ∀ (A : Option Addr) (n cp : Nat), a.eval x = .slice A n cp → n = els.length → h ≤ cp → (execOp a.eval ⟨some d, .slice t x lo hi none, ty, pos, af, g⟩).run X.P w = .ok (.value (.slice (if cp = l then A else A.map (·.add (l * sz))) (h - l) (cp - l))) w := by
    intro A n cp hex hn hcp
    simp only [execOp, hex]
    refine run_value ?_
    have hb := bounds_run (P := X.P) (w := w) (isS := true) (len := n) (cap := cp) (lo := lo.map a.eval) (hi := hi.map a.eval) (l := l) (h := h)
      ((bound_eval hA hhi).imp (fun hh => ⟨hh.1, by rw [hn]; exact hh.2⟩) fun ⟨k, hk⟩ => ⟨k, hk, hcp⟩) ((bound_eval hA hlo).imp id fun ⟨k, hk⟩ => ⟨k, hk, h1⟩)
    simp [Instr.sliceAt, Instr.slice, run_underlying hu, hb, run_sizeOf hm]
  generalize hex : a.eval x = u at hrep
  cases hrep with
  | nil =>
    simp only [List.length_nil] at h2
    have : h = 0 := by omega
    subst this
    have : l = 0 := by omega
    subst this
    refine ⟨_, run _ 0 0 hex rfl (Nat.le_refl _), slotRep_one.2 ?_⟩
    simpa using Rep.nil
  | shd f hG hn hc hr hfr hv ht =>
    rename_i b o n cp
    refine ⟨_, run _ n cp hex hn (by omega), slotRep_one.2 ?_⟩
    have hcut : ∀ (i j : Nat) t, elAt ((els.take h).drop l) i j = some t → elAt els (l + i) j = some t := by
      intro i j t hh
      rw [elAt_cut] at hh
      split at hh
      · exact hh
      · cases hh
    have hrows : ∀ r ∈ (els.take h).drop l, r.length = sz := fun r hr' => hr r (List.mem_of_mem_take (List.mem_of_mem_drop hr'))
    by_cases hcl : cp = l
    · subst hcl
      have : h - cp = 0 := by omega
      rw [if_pos rfl, this]
      have h0 : (els.take h).drop cp = [] := by apply List.drop_eq_nil_of_le; simp; omega
      rw [h0, Nat.sub_self]
      exact .nil
    · rw [if_neg hcl]
      simp only [Option.map_some, addr_add]
      refine .shd (fun i j => f (l + i) j) hG (by simp; omega) (by omega) hrows (fun i j t hh => hfr _ _ _ (hcut i j t hh)) (fun i j t hh => ?_) (fun i j t hh => (ht _ _ _ (hcut i j t hh)).free (hfr _ _ _ (hcut i j t hh)) (fun b h => ⟨h, rfl⟩))
      rw [← hv _ _ _ (hcut i j t hh)]
      congr 2
      rw [Nat.add_mul]; omega

/-- Bytes as a string. -/
def strOf (ns : List Int) : ByteArray := ns.foldl (fun r n => r.push (UInt8.ofNat n.toNat)) ByteArray.empty

/-- The bytes of a row as a string. -/
theorem OS_bytes {e src : TypeId} {m : Bool} {ns : List Int} (hu : X.P.underlying src = some (.slice e)) (hue : X.P.underlying e = some (.int .u8)) (hut : X.P.underlying t = some .string)
    (hx : Opd X.N st x (one (.sl m 1 (ns.map fun n => [.sc (.int .u8 n)]))) ∨ ∃ r π, OwnAt X st x r π ∧ st.at_ r π = some (.sl true 1 (ns.map fun n => [.sc (.int .u8 n)]))) (hf : X.free d = true) :
    OStep X ⟨some d, .convert src t x, ty, pos, af, g⟩ st (st.put d (scv (.string (strOf ns)))) := by
  refine OStep.scalar rfl hf rfl fun a w G vals hA => ?_
  have rep : ∃ s π m, Rep G w s π (a.eval x) (.sl m 1 (ns.map fun n => [.sc (.int .u8 n)])) := by
    rcases hx with hx | ⟨r, π, hx, hat⟩
    · obtain ⟨s0, hs, -⟩ := opd_eval hA hx
      exact ⟨_, _, _, slotRep_one.1 hs⟩
    · obtain ⟨sz', els', hp⟩ := own_place hA hx
      have h2 := place_at hp
      rw [hat] at h2
      cases h2
      exact ⟨_, _, _, place_rep hA.inv hp⟩
  obtain ⟨s, π, m', hrep⟩ := rep
  have fin : ∀ (A : Option Addr) (n cp : Nat), a.eval x = .slice A n cp → (Conv.bytesToString (.slice A n cp)).run X.P w = .ok (.string (strOf ns)) w →
      (execOp a.eval ⟨some d, .convert src t x, ty, pos, af, g⟩).run X.P w = .ok (.value (.string (strOf ns))) w := by
    intro A n cp hex h
    simp only [execOp, hex]
    refine run_value ?_
    rw [run_convert_bytes_string w src t e A n cp hu hue hut, h]
  have cells : ∀ (b o n cp : Nat), n = ns.length → (∀ (i : Nat) q, ns[i]? = some q → w.cell? ⟨b, o + i, none⟩ = some (.int .u8 q)) → (Conv.bytesToString (.slice (some ⟨b, o, none⟩) n cp)).run X.P w = .ok (.string (strOf ns)) w := by
    intro b o n cp hn hcell
    refine run_bytesToString w ⟨b, o, none⟩ n cp ns ?_
    have := run_loadCellsFrom_list (P := X.P) (w := w) (b := b) (o := o) (ns.map (Value.int .u8)) 0 #[] (fun j u hj => by
      rw [List.getElem?_map] at hj
      obtain ⟨q, hq, rfl⟩ := Option.map_eq_some_iff.1 hj
      simpa using hcell j q hq)
    simp only [List.length_map, ← hn] at this
    simpa [loadCells] using this
  have hels : ∀ (i : Nat) q, ns[i]? = some q → elAt (ns.map fun n => [T.sc (.int .u8 n)]) i 0 = some (.sc (.int .u8 q)) := fun i q hq => by simp [elAt, hq]
  generalize hex : a.eval x = u at hrep
  generalize hels' : (ns.map fun n => [T.sc (.int .u8 n)]) = els at hrep hels
  have hlen : els.length = ns.length := by rw [← hels']; simp
  cases hrep with
  | nil =>
    have : ns = [] := List.eq_nil_of_length_eq_zero (by simpa using hlen.symm)
    subst this
    rename_i A
    refine fin A 0 0 hex ?_
    cases A with
    | none => rfl
    | some b => exact run_bytesToString w b 0 0 [] (by simp [loadCells, loadCellsFrom])
  | shd f hG hn hc hr hfr hv ht =>
    refine fin _ _ _ hex (cells _ _ _ _ (by rw [hn, hlen]) fun i q hq => ?_)
    have h1 := hv _ _ _ (hels i q hq)
    have h2 := ht _ _ _ (hels i q hq)
    simp only [Nat.mul_one, Nat.add_zero] at h1
    rw [h1]
    generalize f i 0 = uu at h2
    cases h2
    rfl
  | own f hG hn hc hr hb' ha hv ht =>
    refine fin _ _ _ hex (cells _ _ _ _ (by rw [hn, hlen]) fun i q hq => ?_)
    have h1 := hv _ _ _ (hels i q hq)
    have h2 := ht _ _ _ (hels i q hq)
    simp only [Nat.mul_one, Nat.add_zero] at h1
    rw [h1]
    generalize f i 0 = uu at h2
    cases h2
    rfl

/-! ### what is forgotten -/
/-- Of a slot: as it stood, but for its number; or nothing any more. Its references: to slots that stay, under their new numbers. -/
def CellKeeps (st : St) (l : List (Nat × SV)) : Cell → Cell → Prop
  | .t x, c => c = .t x
  | .ref r k π, c => k = 0 ∧ (∃ sv, (r, sv) ∈ l ∧ (st r).sv = sv) ∧ c = .ref r (st r).ver π

/-- A state that bears just what the list says. -/
def ofL (l : List (Nat × SV)) : St := fun s => match l.find? (fun p => p.1 == s) with | some p => ⟨0, p.2⟩ | none => ⟨0, .dead⟩

def SV.plain : SV → Bool
  | .val _ cs => cs.all fun c => match c with | .t _ => true | _ => false
  | .tup vs => vs.all fun p => p.2.all fun c => match c with | .t _ => true | _ => false
  | .box _ => true
  | .bld .. => true
  | .dead => true
  | .addr .. => false

theorem All_ofL {l : List (Nat × SV)} (hl : ∀ p ∈ l, (st p.1).sv = p.2 ∧ p.2.plain = true) (hA : All X st a w) : All X (ofL l) a w := by
  obtain ⟨G, vals, hA⟩ := hA
  refine ⟨G, vals, hA.defers, hA.size, hA.link, ⟨fun s => ?_, hA.inv.alloc, hA.inv.pin⟩, hA.base⟩
  unfold ofL
  cases hf : l.find? (fun p => p.1 == s) with
  | none => trivial
  | some p =>
    have hm := List.mem_of_find?_eq_some hf
    have hs : p.1 = s := by have := List.find?_some hf; simpa using this
    obtain ⟨h1, h2⟩ := hl p hm
    have h0 := hA.inv.slots s
    rw [← hs, h1] at h0
    rw [← hs]
    have ckey : ∀ {s k : Nat} {ag : Bool} {v : Value} {cs : List Cell} {st2 : St}, (cs.all fun c => match c with | .t _ => true | _ => false) = true → CellsRep G w st vals s k ag v cs → CellsRep G w st2 vals s k ag v cs := by
      rintro s k ag v cs st2 hc ⟨us, hpk, hul, hall⟩
      refine ⟨us, hpk, hul, fun j c u hcj hu => ?_⟩
      have h3 := hall j c u hcj hu
      have h4 := List.all_eq_true.1 hc c (List.mem_of_getElem? hcj)
      cases c with
      | t x => exact h3
      | ref => simp at h4
    show SlotRep G w _ vals p.1 (vals p.1) p.2
    cases hsv : p.2 with
    | dead => trivial
    | val ag cs => rw [hsv] at h0 h2; exact ckey h2 h0
    | tup vs =>
      rw [hsv] at h0 h2
      obtain ⟨arr, hv, hul, hall⟩ := h0
      refine ⟨arr, hv, hul, fun k q u hq hu => ckey ?_ (hall k q u hq hu)⟩
      exact List.all_eq_true.1 h2 q (List.mem_of_getElem? hq)
    | box cs => rw [hsv] at h0; exact h0
    | bld => rw [hsv] at h0; exact h0
    | addr => rw [hsv] at h2; simp [SV.plain] at h2

/-- At a loop's head, or anywhere: on from what the list says. -/
theorem W_forget {l : List (Nat × SV)} (hl : ∀ p ∈ l, (st p.1).sv = p.2 ∧ p.2.plain = true) (h : W X c (ofL l) Q) : W X c st Q := fun a w hA => h a w (All_ofL hl hA)
theorem WL_forget {ops : Array Oper} {os : List Oper} {l : List (Nat × SV)} (hl : ∀ p ∈ l, (st p.1).sv = p.2 ∧ p.2.plain = true) (h : WL X ops os (ofL l) Q) : WL X ops os st Q := fun a w hA => h a w (All_ofL hl hA)
end
end Go.V
namespace Go.V
open Go Go.RowKit

/-- Slots written, one after the other. -/
def applyP (st : St) (ps : List (Nat × SV)) : St := ps.foldl (fun st p => st.put p.1 p.2) st
theorem applyP_nil (st : St) : applyP st [] = st := rfl
theorem applyP_cons (st : St) (p : Nat × SV) (ps : List (Nat × SV)) : applyP st (p :: ps) = applyP (st.put p.1 p.2) ps := rfl

theorem applyP_not {s : Nat} : ∀ {ps : List (Nat × SV)} {st : St}, (∀ p ∈ ps, p.1 ≠ s) → applyP st ps s = st s
  | [], _, _ => rfl
  | p :: ps, st, h => by
    rw [applyP_cons, applyP_not fun q hq => h q (List.mem_cons_of_mem _ hq)]
    exact put_ne _ _ (Ne.symm (h p (by simp)))
theorem applyP_at {s : Nat} : ∀ {ps : List (Nat × SV)} {st st' : St}, st s = st' s → applyP st ps s = applyP st' ps s
  | [], _, _, h => h
  | p :: ps, st, st', h => by
    rw [applyP_cons, applyP_cons]
    refine applyP_at ?_
    simp only [St.put]
    split
    · rename_i he; subst he; rw [h]
    · exact h

/-- The steps in X, in the text's order. -/
def foldX (X : Nat → Bool) : Nat → List (List (Nat × SV)) → St → St
  | _, [], st => st
  | i, ps :: rest, st => foldX X (i + 1) rest (if X i then applyP st ps else st)

theorem foldX_at {s : Nat} {X X' : Nat → Bool} : ∀ (i : Nat) (l : List (List (Nat × SV))) {st st' : St}, st s = st' s → (∀ (j : Nat) ps, l[j]? = some ps → (∃ p ∈ ps, p.1 = s) → X (i + j) = X' (i + j)) → foldX X i l st s = foldX X' i l st' s
  | _, [], _, _, h, _ => h
  | i, ps :: rest, st, st', h, hX => by
    refine foldX_at (i + 1) rest ?_ fun j qs hj hs => by have := hX (j + 1) qs (by simpa using hj) hs; rwa [show i + (j + 1) = i + 1 + j by omega] at this
    by_cases hs : ∃ p ∈ ps, p.1 = s
    · have := hX 0 ps rfl hs
      simp only [Nat.add_zero] at this
      rw [this]
      split
      · exact applyP_at h
      · exact h
    · have hs' : ∀ p ∈ ps, p.1 ≠ s := fun p hp he => hs ⟨p, hp, he⟩
      have e : ∀ (b : Bool) (q : St), (if b then applyP q ps else q) s = q s := by
        intro b q
        cases b
        · rfl
        · exact applyP_not hs'
      rw [e, e]; exact h

theorem foldX_none : ∀ (i : Nat) (l : List (List (Nat × SV))) (st : St) {X : Nat → Bool}, (∀ j, i ≤ j → X j = false) → foldX X i l st = st
  | _, [], _, _, _ => rfl
  | i, ps :: rest, st, X, h => by
    simp only [foldX, h i (Nat.le_refl _), Bool.false_eq_true, if_false]
    exact foldX_none (i + 1) rest st fun j hj => h j (by omega)

theorem foldX_last {X : Nat → Bool} : ∀ (l : List (List (Nat × SV))) (i k : Nat) (st : St) {ps : List (Nat × SV)}, l[k]? = some ps → X (i + k) = true → (∀ j, i + k < j → X j = false) →
    foldX X i l st = applyP (foldX (fun j => X j && decide (j < i + k)) i l st) ps
  | [], _, _, _, _, h, _, _ => by simp at h
  | qs :: rest, i, 0, st, ps, h, h1, h2 => by
    simp only [List.getElem?_cons_zero, Option.some.injEq] at h
    subst h
    simp only [Nat.add_zero] at h1 h2
    simp only [foldX, h1, if_true, Nat.add_zero, Nat.lt_irrefl, decide_false, Bool.and_false, Bool.false_eq_true, if_false]
    rw [foldX_none (i + 1) rest _ fun j hj => h2 j (by omega), foldX_none (i + 1) rest _ fun j hj => by simp; omega]
  | qs :: rest, i, k + 1, st, ps, h, h1, h2 => by
    have := foldX_last (X := X) rest (i + 1) k (if X i then applyP st qs else st) (by simpa using h) (by rwa [show i + 1 + k = i + (k + 1) by omega]) (fun j hj => h2 j (by omega))
    simp only [foldX]
    rw [this]
    have e : (fun j => X j && decide (j < i + 1 + k)) = fun j => X j && decide (j < i + (k + 1)) := by funext j; rw [show i + 1 + k = i + (k + 1) by omega]
    rw [e]
    congr 2
    simp

/-- What must come ahead: the edges that bind, and theirs. -/
def ahead : List Oper → List (List Nat)
  | ops => ops.foldl (fun acc o => acc ++ [(o.after.toList.filter (fun e => Region.binds .any e)).foldl (fun s e => e.on :: ((acc[e.on]?).getD [] ++ s)) []]) []

structure Foot where
  reads : List Nat
  ps : List (Nat × SV)

def disj (a b : List Nat) : Bool := a.all fun x => !b.contains x
/-- Do two steps keep off one another? -/
def apartF (a b : List Nat × List Nat) : Bool := disj a.2 b.1 && disj a.2 b.2 && disj b.2 a.1

/-- The table of what must come ahead: closed, each entry of it an edge or one's entry. -/
def TableOK (ops : List Oper) (D : List (List Nat)) : Prop :=
  ops.length = D.length ∧ ∀ (j : Nat) o ds, ops[j]? = some o → D[j]? = some ds → (∀ e ∈ o.after.toList, Region.binds .any e = true → e.on < j) ∧
    ∀ i ∈ ds, (∃ e ∈ o.after.toList, Region.binds .any e = true ∧ (e.on = i ∨ ∃ es, D[e.on]? = some es ∧ i ∈ es))

def GStep (X : Cx) (ops : Array Oper) (o : Oper) (st st' : St) : Prop := ∀ a w K Qx, All X st a w → (∀ a' w', All X st' a' w' → K a' w') →
  if Region.wanted o (yielded ops a.tmps) then o.wp X.P a w K Qx else K (a.put o.dst undef) w

section
variable {X : Cx} {st st' : St} {o : Oper} {ops : Array Oper} {l : List Oper} {Q : Exit → St → Prop}

theorem GStep.run (hg : o.guard = none) (h : OStep X o st st') : GStep X ops o st st' := fun a w K Qx hA hK => by
  rw [if_pos (by simp [Region.wanted, hg])]
  exact h a w K Qx hA hK
theorem GStep.on {j d : Nat} {b : Bool} (hg : o.guard = some (j, b)) (hd : (ops[j]?).bind (·.dst) = some d) (hN : d < X.N) (hb : (st d).sv = scv (.bool b)) (h : OStep X o st st') : GStep X ops o st st' := fun a w K Qx hA hK => by
  obtain ⟨G, vals, hA'⟩ := hA
  rw [if_pos (by simp [Region.wanted, hg, yielded_of hA' hd hN hb])]
  exact h a w K Qx ⟨G, vals, hA'⟩ hK
theorem GStep.off {j d e : Nat} {b b' : Bool} (hg : o.guard = some (j, b)) (hd : (ops[j]?).bind (·.dst) = some d) (hN : d < X.N) (hb : (st d).sv = scv (.bool b')) (hne : b' ≠ b) (he : o.dst = some e) (hf : X.free e = true) :
    GStep X ops o st (st.put e .dead) := fun a w K Qx hA hK => by
  obtain ⟨G, vals, hA'⟩ := hA
  rw [if_neg (by simp [Region.wanted, hg, yielded_of hA' hd hN hb, hne]), he]
  exact hK _ _ ⟨G, _, hA'.put hf trivial⟩
theorem GStep.offN {j d : Nat} {b b' : Bool} (hg : o.guard = some (j, b)) (hd : (ops[j]?).bind (·.dst) = some d) (hN : d < X.N) (hb : (st d).sv = scv (.bool b')) (hne : b' ≠ b) (he : o.dst = none) :
    GStep X ops o st st := fun a w K Qx hA hK => by
  obtain ⟨G, vals, hA'⟩ := hA
  rw [if_neg (by simp [Region.wanted, hg, yielded_of hA' hd hN hb, hne]), he]
  exact hK _ _ ⟨G, _, hA'⟩
theorem WL_g (h : GStep X ops o st st') (hl : WL X ops l st' Q) : WL X ops (o :: l) st Q := fun a w hA => by
  have := h a w (wpList X.P ops (Post X Q) l) (Post X Q) hA hl
  unfold wpList
  split
  · rename_i hw; rw [if_pos hw] at this; exact .inl this
  · rename_i hw; rw [if_neg hw] at this; exact this

/-- The states in the text's order. -/
def statesAt (fs : List Foot) (i : Nat) (st : St) : St := foldX (fun j => decide (j < i)) 0 (fs.map (·.ps)) st

/-- A REGION THAT DRAWS ITS ORDER: each step holds of every state that looks as the text's order left it where the step reads; steps that may change places keep off one another. -/
theorem W_draw {id : Nat} {D : List (List Nat)} {fs : List Foot} (hm : X.P.follows .mixedOrders = true) (hlen : l.length = fs.length) (hD : TableOK l D)
    (hapart : ∀ (i j : Nat) (f g : Foot) ds, i < j → fs[i]? = some f → fs[j]? = some g → D[j]? = some ds → i ∈ ds ∨ apartF (f.reads, f.ps.map (·.1)) (g.reads, g.ps.map (·.1)) = true)
    (hstep : ∀ (i : Nat) o (f : Foot), l[i]? = some o → fs[i]? = some f → ∀ st2 : St, (∀ s ∈ f.reads, st2 s = statesAt fs i st s) → GStep X l.toArray o st2 (applyP st2 f.ps))
    (hQ : Q .normal (statesAt fs fs.length st)) : W X (.region id l.toArray true) st Q := by
  rintro a w hA
  refine wp_region_any hm ?_
  have key : ∀ (fuel : Nat) (listed : Array Bool) (a : Act) (w : World), listed.size = l.length → (∀ (j : Nat) o, l[j]? = some o → listed.getD j true = true → ∀ e ∈ o.after.toList, Region.binds .any e = true → listed.getD e.on true = true) →
      (listed.toList.filter (! ·)).length ≤ fuel →
      All X (foldX (fun j => listed.getD j false) 0 (fs.map (·.ps)) st) a w → wpAny X.P .any l.toArray (Post X Q) fuel listed a w := by
    intro fuel
    -- nothing ready: all is done
    have done : ∀ (listed : Array Bool) (a : Act) (w : World), listed.size = l.length → All X (foldX (fun j => listed.getD j false) 0 (fs.map (·.ps)) st) a w → Region.ready .any l.toArray listed = [] → Post X Q .normal a w := by
      intro listed a w hs hA hr
      have hall : ∀ j, j < l.length → listed.getD j false = true := by
        intro j
        induction j using Nat.strongRecOn with
        | _ j ih =>
          intro hj
          by_cases hh : listed.getD j false = true
          · exact hh
          · exfalso
            have hjs : j < listed.size := by omega
            have hmem : j ∈ Region.ready .any l.toArray listed := by
              simp only [Region.ready, List.mem_filter, List.mem_range, List.size_toArray, Bool.and_eq_true, Bool.not_eq_true']
              refine ⟨hj, ?_, ?_⟩
              · have : listed.getD j true = listed.getD j false := by simp [Array.getD, hjs]
                rw [this]; simpa using hh
              · have ho : l.toArray[j]? = some l[j] := by simp [hj]
                rw [ho]
                simp only [Option.map_some, Option.getD_some]
                rw [Array.all_eq_true_iff_forall_mem]
                intro e he
                by_cases hb : Region.binds .any e = true
                · have hd : j < D.length := by rw [← hD.1]; exact hj
                  have h1 := (hD.2 j l[j] D[j] (List.getElem?_eq_getElem hj) (List.getElem?_eq_getElem hd)).1 e (by simpa using he) hb
                  have := ih e.on h1 (by omega)
                  simp [this]
                · simp [hb]
            rw [hr] at hmem
            cases hmem
      refine ⟨_, hA, ?_⟩
      have : foldX (fun j => listed.getD j false) 0 (fs.map (·.ps)) st = statesAt fs fs.length st := by
        funext s
        unfold statesAt
        refine foldX_at 0 _ rfl fun j ps hj _ => ?_
        have hlt : j < fs.length := by have := (List.getElem?_eq_some_iff.1 hj).1; simpa using this
        simp only [Nat.zero_add, hlt, decide_true]
        exact hall j (by omega)
      rw [this]; exact hQ
    induction fuel with
    | zero =>
      intro listed a w hs _ hfuel hA
      have hnil : Region.ready .any l.toArray listed = [] := by
        rw [List.eq_nil_iff_forall_not_mem]
        intro j hj
        simp only [Region.ready, List.mem_filter, List.mem_range, List.size_toArray, Bool.and_eq_true, Bool.not_eq_true'] at hj
        have hjs : j < listed.size := by omega
        have h1 : listed[j] = false := by have := hj.2.1; simpa [Array.getD, hjs] using this
        have : listed[j] ∈ listed.toList.filter (! ·) := List.mem_filter.2 ⟨by simp, by simp [h1]⟩
        have hnil0 : listed.toList.filter (! ·) = [] := List.eq_nil_of_length_eq_zero (by omega)
        rw [hnil0] at this
        cases this
      exact ⟨hnil, done listed a w hs hA hnil⟩
    | succ fuel ih =>
      intro listed a w hs hcl hfuel hA
      refine ⟨fun hr => done listed a w hs hA hr, fun i hi => ?_⟩
      simp only [Region.ready, List.mem_filter, List.mem_range, List.size_toArray, Bool.and_eq_true, Bool.not_eq_true'] at hi
      obtain ⟨hil, hin, hia⟩ := hi
      have his : i < listed.size := by omega
      have ho : l[i]? = some l[i] := List.getElem?_eq_getElem hil
      have hoa : l.toArray[i]? = some l[i] := by simp [hil]
      rw [hoa] at hia
      simp only [Option.map_some, Option.getD_some, Array.all_eq_true_iff_forall_mem] at hia
      have hnoti : listed.getD i false = false := by simpa [Array.getD, his] using hin
      have hfi : i < fs.length := by omega
      obtain ⟨f, hf⟩ : ∃ f, fs[i]? = some f := ⟨_, List.getElem?_eq_getElem hfi⟩
      have hdi : i < D.length := by rw [← hD.1]; exact hil
      -- all that must come ahead is done
      have hclos : ∀ (j : Nat) ds, D[j]? = some ds → (∀ o, l[j]? = some o → ∀ e ∈ o.after.toList, Region.binds .any e = true → listed.getD e.on false = true) → ∀ q ∈ ds, listed.getD q false = true := by
        intro j
        induction j using Nat.strongRecOn with
        | _ j ihj =>
          intro ds hds hedge q hq
          have hjl : j < l.length := by rw [hD.1]; exact (List.getElem?_eq_some_iff.1 hds).1
          obtain ⟨h1, h2⟩ := hD.2 j l[j] ds (List.getElem?_eq_getElem hjl) hds
          obtain ⟨e, he, hb, h3⟩ := h2 q hq
          have hle := hedge _ (List.getElem?_eq_getElem hjl) e he hb
          rcases h3 with rfl | ⟨es, hes, hqe⟩
          · exact hle
          · refine ihj e.on (h1 e he hb) es hes (fun o hol e' he' hb' => ?_) q hqe
            have hlt : e.on < listed.size := by have := h1 e he hb; omega
            have h4 := hcl e.on o hol (by simpa [Array.getD, hlt] using hle) e' he' hb'
            have hlt' : e'.on < listed.size := by
              have := (hD.2 e.on o (D[e.on]'(by rw [← hD.1]; omega)) hol (List.getElem?_eq_getElem _)).1 e' he' hb'
              omega
            simpa [Array.getD, hlt'] using h4
      have hedgei : ∀ o, l[i]? = some o → ∀ e ∈ o.after.toList, Region.binds .any e = true → listed.getD e.on false = true := by
        intro o hol e he hb
        rw [ho] at hol
        cases hol
        have := hia e (by simpa using he)
        simpa [hb] using this
      have hdone : ∀ q ∈ D[i], listed.getD q false = true := hclos i D[i] (List.getElem?_eq_getElem hdi) hedgei
      -- who touches what this step reads or writes: those ahead of it in the text are done, those behind are not
      have htouch : ∀ (j : Nat) (g : Foot), fs[j]? = some g → j ≠ i → (∃ p ∈ g.ps, p.1 ∈ f.reads ∨ p.1 ∈ f.ps.map (·.1)) → listed.getD j false = decide (j < i) := by
        intro j g hg hne hex
        obtain ⟨p, hp, hpr⟩ := hex
        have hpm : p.1 ∈ g.ps.map (·.1) := List.mem_map.2 ⟨p, hp, rfl⟩
        by_cases hji : j < i
        · rw [decide_eq_true hji]
          rcases hapart j i g f D[i] hji hg hf (List.getElem?_eq_getElem hdi) with h | h
          · exact hdone j h
          · exfalso
            simp only [apartF, disj, Bool.and_eq_true, List.all_eq_true, Bool.not_eq_true', List.contains_eq_mem, decide_eq_false_iff_not] at h
            rcases hpr with h' | h'
            · exact h.1.1 _ hpm h'
            · exact h.1.2 _ hpm h'
        · have hij : i < j := by omega
          rw [decide_eq_false hji]
          have hjl : j < l.length := by rw [hlen]; exact (List.getElem?_eq_some_iff.1 hg).1
          have hjd : j < D.length := by rw [← hD.1]; exact hjl
          rcases hapart i j f g D[j] hij hf hg (List.getElem?_eq_getElem hjd) with h | h
          · by_cases hlj : listed.getD j false = true
            · exfalso
              have hjs : j < listed.size := by omega
              have : ∀ q ∈ D[j], listed.getD q false = true := by
                refine hclos j D[j] (List.getElem?_eq_getElem hjd) fun o hol e he hb => ?_
                have h4 := hcl j o hol (by simpa [Array.getD, hjs] using hlj) e he hb
                have hlt' : e.on < listed.size := by
                  have := (hD.2 j o D[j] hol (List.getElem?_eq_getElem hjd)).1 e he hb
                  omega
                simpa [Array.getD, hlt'] using h4
              have := this i h
              rw [hnoti] at this
              cases this
            · simpa using hlj
          · exfalso
            simp only [apartF, disj, Bool.and_eq_true, List.all_eq_true, Bool.not_eq_true', List.contains_eq_mem, decide_eq_false_iff_not] at h
            rcases hpr with h' | h'
            · exact h.2 _ hpm h'
            · exact h.1.2 _ h' hpm
      let stX := foldX (fun j => listed.getD j false) 0 (fs.map (·.ps)) st
      have hreads : ∀ s ∈ f.reads, stX s = statesAt fs i st s := by
        intro s hs
        refine foldX_at 0 _ rfl fun j ps hj hps => ?_
        simp only [Nat.zero_add]
        rw [List.getElem?_map] at hj
        obtain ⟨g, hg, rfl⟩ := Option.map_eq_some_iff.1 hj
        by_cases hji : j = i
        · subst hji
          simp [hnoti]
        · obtain ⟨p, hp, he⟩ := hps
          exact htouch j g hg hji ⟨p, hp, .inl (he ▸ hs)⟩
      have hgs := hstep i _ f ho hf stX hreads
      have hnext : applyP stX f.ps = foldX (fun j => (listed.setIfInBounds i true).getD j false) 0 (fs.map (·.ps)) st := by
        funext s
        have hset : ∀ j, (listed.setIfInBounds i true).getD j false = if j = i then true else listed.getD j false := by
          intro j
          simp only [Array.getD_eq_getD_getElem?, Array.getElem?_setIfInBounds]
          by_cases hji : i = j
          · subst hji; simp [his]
          · simp [hji, Ne.symm hji]
        by_cases hs : s ∈ f.ps.map (·.1)
        · -- nobody behind it touched s
          have e1 : stX s = foldX (fun j => (if j = i then true else (listed.getD j false && decide (j < i))) && decide (j < 0 + i)) 0 (fs.map (·.ps)) st s := by
            refine foldX_at 0 _ rfl fun j ps hj hps => ?_
            simp only [Nat.zero_add]
            rw [List.getElem?_map] at hj
            obtain ⟨g, hg, rfl⟩ := Option.map_eq_some_iff.1 hj
            by_cases hji : j = i
            · subst hji; simp [hnoti]
            · obtain ⟨p, hp, he⟩ := hps
              have := htouch j g hg hji ⟨p, hp, .inr (he ▸ hs)⟩
              rw [this]
              by_cases hlt : j < i <;> simp [hji, hlt]
          have e2 : foldX (fun j => (listed.setIfInBounds i true).getD j false) 0 (fs.map (·.ps)) st s = foldX (fun j => if j = i then true else (listed.getD j false && decide (j < i))) 0 (fs.map (·.ps)) st s := by
            refine foldX_at 0 _ rfl fun j ps hj hps => ?_
            simp only [Nat.zero_add, hset]
            rw [List.getElem?_map] at hj
            obtain ⟨g, hg, rfl⟩ := Option.map_eq_some_iff.1 hj
            by_cases hji : j = i
            · simp [hji]
            · obtain ⟨p, hp, he⟩ := hps
              have := htouch j g hg hji ⟨p, hp, .inr (he ▸ hs)⟩
              simp only [if_neg hji, this]
              by_cases hlt : j < i <;> simp [hlt]
          have e3 := foldX_last (X := fun j => if j = i then true else (listed.getD j false && decide (j < i))) (fs.map (·.ps)) 0 i st (ps := f.ps) (by simp [hf]) (by simp) (fun j hj => by
            simp only [Nat.zero_add] at hj
            simp [show ¬ j = i by omega, show ¬ j < i by omega])
          rw [e2, e3]
          exact applyP_at e1
        · rw [applyP_not fun p hp he => hs (List.mem_map.2 ⟨p, hp, he⟩)]
          refine foldX_at 0 _ rfl fun j ps hj hps => ?_
          simp only [Nat.zero_add, hset]
          by_cases hji : j = i
          · exfalso
            subst hji
            simp only [List.getElem?_map, hf, Option.map_some, Option.some.injEq] at hj
            subst hj
            obtain ⟨p, hp, he⟩ := hps
            exact hs (List.mem_map.2 ⟨p, hp, he⟩)
          · simp [hji]
      have hcl' : ∀ (j : Nat) o, l[j]? = some o → (listed.setIfInBounds i true).getD j true = true → ∀ e ∈ o.after.toList, Region.binds .any e = true → (listed.setIfInBounds i true).getD e.on true = true := by
        intro j o hol hlj e he hb
        have hset : ∀ q, (listed.setIfInBounds i true).getD q true = if q = i then true else listed.getD q true := by
          intro q
          simp only [Array.getD_eq_getD_getElem?, Array.getElem?_setIfInBounds]
          by_cases hji : i = q
          · subst hji; simp [his]
          · simp [hji, Ne.symm hji]
        rw [hset] at hlj ⊢
        by_cases hee : e.on = i
        · simp [hee]
        · rw [if_neg hee]
          by_cases hji : j = i
          · subst hji
            have h5 := hedgei o hol e he hb
            simp only [Array.getD_eq_getD_getElem?] at h5 ⊢
            cases hq : listed[e.on]? with
            | none => rfl
            | some q => rw [hq] at h5; exact h5
          · rw [if_neg hji] at hlj
            exact hcl j o hol hlj e he hb
      have hcount : ((listed.setIfInBounds i true).toList.filter (! ·)).length ≤ fuel := by
        have h6 : listed[i] = false := by simpa [Array.getD, his] using hin
        rw [Array.toList_setIfInBounds]
        have : ∀ (L : List Bool) (i : Nat) (h : i < L.length), L[i] = false → ((L.set i true).filter (! ·)).length + 1 = (L.filter (! ·)).length := by
          intro L
          induction L with
          | nil => intro i h; simp at h
          | cons b L ihL =>
            intro i h hb
            cases i with
            | zero => simp at hb; subst hb; simp
            | succ i =>
              have := ihL i (by simpa using h) (by simpa using hb)
              cases b <;> simp <;> omega
        have := this listed.toList i (by simpa using his) (by simpa using h6)
        omega
      unfold wpOp
      rw [hoa]
      have := hgs a w (wpAny X.P .any l.toArray (Post X Q) fuel (listed.setIfInBounds i true)) (Post X Q) hA (fun a' w' hA' => ih _ a' w' (by simpa using hs) hcl' hcount (hnext ▸ hA'))
      simp only
      split
      · rename_i hw; rw [if_pos hw] at this; exact .inl this
      · rename_i hw; rw [if_neg hw] at this; exact this
  refine key l.toArray.size _ a _ (by simp) (fun j o hol hlj => ?_) (by simp) ?_
  · exfalso
    have hj : j < l.length := (List.getElem?_eq_some_iff.1 hol).1
    simp [Array.getD, hj] at hlj
  · have e : foldX (fun j => (Array.replicate l.toArray.size false).getD j false) 0 (fs.map (·.ps)) st = st := foldX_none 0 _ _ fun j _ => by
      simp [Array.getD]
    rw [e]
    obtain ⟨G, vals, hA⟩ := hA
    exact ⟨G, vals, hA.step (K := fun _ => False) (fun _ _ => rfl) (fun _ _ => rfl) (fun _ h => h.elim) (fun _ _ => ⟨rfl, rfl⟩) (fun _ _ _ h _ => ⟨h, rfl⟩) (fun _ _ h => h.elim) hA.inv.alloc hA.inv.pin (Nat.le_refl _) rfl rfl rfl hA.defers hA.size hA.link⟩
end
end Go.V

/- The value interpreter, part i: what stretches of a program do to typed values, rule by rule. Conditions: none. -/
import Derived.Test.YtimbcdpnmabgfaaDoorVh
import Derived.Shelf.Strings.BuilderF
import Derived.Lib.FrozenHead2
namespace Go.V
open Go Go.RowKit Go.Proofs Go.Shelf

/-- All blocks but these two stand. -/
structure But (b : Nat) (row : Option Nat) (w w' : World) : Prop where
  block : ∀ k, k < w.heap.size → k ≠ b → some k ≠ row → w'.heap[k]? = w.heap[k]?
  size : w.heap.size ≤ w'.heap.size
  os : w'.os = w.os
  tape : w'.tape = w.tape
  output : w'.output = w.output
theorem But.rfl' {b : Nat} {row : Option Nat} {w : World} : But b row w w := ⟨fun _ _ _ _ => rfl, Nat.le_refl _, rfl, rfl, rfl⟩
theorem But.trans {b : Nat} {row : Option Nat} {w w1 w2 : World} (h : But b row w w1) (k : But b row w1 w2) : But b row w w2 :=
  ⟨fun j h1 h2 h3 => (k.block j (Nat.lt_of_lt_of_le h1 h.size) h2 h3).trans (h.block j h1 h2 h3), Nat.le_trans h.size k.size, k.os.trans h.os, k.tape.trans h.tape, k.output.trans h.output⟩
theorem But.set {b i : Nat} {row : Option Nat} {w w1 : World} (h : But b row w w1) (v : Value) : But b row w (w1.setCell ⟨b, i, none⟩ v) :=
  h.trans ⟨fun k _ h2 _ => Below.heap_setCell _ _ _ _ (fun e => h2 e), by simp [World.setCell], rfl, rfl, rfl⟩
theorem But.alloc {b : Nat} {row : Option Nat} {w w1 : World} (h : But b row w w1) (o : Obj) : But b row w (w1.alloc o) :=
  h.trans ⟨fun k hk _ _ => Lib.alloc_old w1 o k hk, by simp, rfl, rfl, rfl⟩
theorem But.grown {b : Nat} {row : Option Nat} {w w1 w2 : World} (h : But b row w w1) (k : w1.grownBy w2 row) : But b row w w2 :=
  h.trans ⟨fun j hj _ h3 => k.block j hj h3, k.size, k.os, k.tape, k.output⟩
theorem But.drew {b : Nat} {row : Option Nat} {w w1 : World} (h : But b row w w1) : But b row w w1.drew := h.trans ⟨fun _ _ _ _ => rfl, Nat.le_refl _, rfl, rfl, rfl⟩
theorem But.freeze {b g n : Nat} {w w1 : World} (h : But b (some g) w w1) : But b (some g) w (w1.freeze ⟨g, 0, none⟩ n) := by
  refine h.trans ?_
  unfold World.freeze
  split
  · exact .rfl'
  · refine ⟨fun k _ _ h3 => ?_, by simp, rfl, rfl, rfl⟩
    simp only [Array.getElem?_modify]
    rw [if_neg fun e => h3 (by rw [← e])]

/-- A builder in block b: its two cells, what its row holds. -/
def BAt (T e : TypeId) (b : Nat) (p u : Value) (xs : List Value) (w : World) : Prop :=
  w.heap[b]? = some (.cells #[p, u] T (0, 0)) ∧ w.ownsRowF 0 e 1 u xs.length xs ∧ u.ownBlock ≠ some b

variable {P : Program} {ρ : Ren} {T e : TypeId} {b : Nat} {p u : Value} {xs : List Value} {w w' : World}

theorem BAt.lib (h : BAt T e b p u xs w) : Lib.BuilderAtF T e 0 b p xs w := ⟨Nat.zero_le _, u, h⟩
theorem BAt.lt (h : BAt T e b p u xs w) : b < w.heap.size := h.lib.lt
theorem BAt.un (h : Lib.BuilderAtF T e 0 b p xs w') (hb : w'.heap[b]? = some (.cells #[p, u] T (0, 0))) : BAt T e b p u xs w' := by
  obtain ⟨_, v, h1, h2, h3⟩ := h
  rw [hb] at h1
  obtain rfl : u = v := by simpa using h1
  exact ⟨hb, h2, h3⟩
theorem setCell_self {i : Nat} {arr : Array Value} {v : Value} (h : w.heap[b]? = some (.cells arr T (0, 0))) : (w.setCell ⟨b, i, none⟩ v).heap[b]? = some (.cells (arr.setIfInBounds i v) T (0, 0)) := by
  simp [World.setCell, Array.getElem?_modify, h]

/-- copyCheck: behind it the builder knows its own address. -/
def CkOk (P : Program) (f : FuncId) (T e : TypeId) : Prop := ∀ (b : Nat) (p u : Value) (xs : List Value) (w : World), BAt T e b p u xs w → (p = .pointer none ∨ p = .pointer (some ⟨b, 0, none⟩)) →
    Calls P f #[.pointer (some ⟨b, 0, none⟩)] w fun e' w' => e' = .returned (.tuple #[]) ∧ BAt T e b (.pointer (some ⟨b, 0, none⟩)) u xs w' ∧ But b u.ownBlock w w'
theorem ckOk_of {f : FuncId} (hu : ∀ (b : Nat) (w : World), w.cell? ⟨b, 0, none⟩ = some (.pointer (some ⟨b, 0, none⟩)) → Calls P f #[.pointer (some ⟨b, 0, none⟩)] w fun e w' => e = .returned (.tuple #[]) ∧ w' = w)
    (hf : ∀ (b : Nat) (w : World), w.cell? ⟨b, 0, none⟩ = some (.pointer none) → w.shape? b = some (T, 2) → w.frozen? ⟨b, 0, none⟩ = false → Calls P f #[.pointer (some ⟨b, 0, none⟩)] w fun e w' => e = .returned (.tuple #[]) ∧ w' = w.setCell ⟨b, 0, none⟩ (.pointer (some ⟨b, 0, none⟩))) : CkOk P f T e := by
  intro b p u xs w h hp
  rcases hp with rfl | rfl
  · refine (hf b w h.lib.cell0 h.lib.shape h.lib.frozen0).mono ?_
    rintro e w' ⟨rfl, rfl⟩
    refine ⟨rfl, .un (h.lib.used _) ?_, But.rfl'.set _⟩
    rw [setCell_self h.1]
    rfl
  · refine (hu b w h.lib.cell0).mono ?_
    rintro e w' ⟨rfl, rfl⟩
    exact ⟨rfl, h, .rfl'⟩

/-- What the walks of the methods ask of a program. -/
structure BLay (P : Program) (ρ : Ren) : Prop extends Builder.Extra P ρ where
  mixed : P.follows .mixedOrders = true
  e240 : ∀ args w, (callFunc (ρ.f 240) args).run P w = .ok (.enter (ρ.f 240) args) w
  ck : CkOk P (ρ.f 240) (ρ.t 72) (ρ.t 5)
  t72 : P.underlying (ρ.t 72) = some (.struct #[⟨"addr", ρ.t 70, 0, false, "", "strings", 0⟩, ⟨"buf", ρ.t 37, 1, false, "", "strings", 8⟩])
  t70 : P.underlying (ρ.t 70) = some (.pointer (ρ.t 72))
  t37 : P.underlying (ρ.t 37) = some (.slice (ρ.t 5))
  t127 : P.underlying (ρ.t 127) = some (.pointer (ρ.t 5))
  t3 : P.underlying (ρ.t 3) = some (.int .i64)
  t9 : P.underlying (ρ.t 9) = some .string
  a72 : ∀ w, (isAgg (ρ.t 72)).run P w = .ok true w
  z72 : ∀ w, (Go.sizeOf (ρ.t 72)).run P w = .ok 2 w
  v72 : ∀ w, (zeroValue (ρ.t 72)).run P w = .ok (.agg #[.pointer none, .slice none 0 0]) w
  a70 : ∀ w, (isAgg (ρ.t 70)).run P w = .ok false w
  z70 : ∀ w, (Go.sizeOf (ρ.t 70)).run P w = .ok 1 w
  v70 : ∀ w, (zeroValue (ρ.t 70)).run P w = .ok (.pointer none) w
  a37 : ∀ w, (isAgg (ρ.t 37)).run P w = .ok false w
  z37 : ∀ w, (Go.sizeOf (ρ.t 37)).run P w = .ok 1 w
  v37 : ∀ w, (zeroValue (ρ.t 37)).run P w = .ok (.slice none 0 0) w
  a127 : ∀ w, (isAgg (ρ.t 127)).run P w = .ok false w
  z127 : ∀ w, (Go.sizeOf (ρ.t 127)).run P w = .ok 1 w
  v127 : ∀ w, (zeroValue (ρ.t 127)).run P w = .ok (.pointer none) w
  a3 : ∀ w, (isAgg (ρ.t 3)).run P w = .ok false w
  z3 : ∀ w, (Go.sizeOf (ρ.t 3)).run P w = .ok 1 w
  v3 : ∀ w, (zeroValue (ρ.t 3)).run P w = .ok (.int .i64 0) w
  a9 : ∀ w, (isAgg (ρ.t 9)).run P w = .ok false w
  z9 : ∀ w, (Go.sizeOf (ρ.t 9)).run P w = .ok 1 w
  v9 : ∀ w, (zeroValue (ρ.t 9)).run P w = .ok (.string ⟨#[]⟩) w

/-- Where the row behind an append lies. -/
theorem appStr_row (t u0 ty : TypeId) (i : TypeInfo) (ht : P.underlying t = some (.slice e)) (hu : P.underlying u0 = some .string) (hi : P.info? e = some i) (hz : i.zero = some (.int .u8 0)) (hsize : i.size = 1) (hby : i.bytes = 1)
    {v : Value} {n : Nat} (hown : w.ownsRowF 0 e 1 v n xs) (s : ByteArray) (h63 : n + s.size ≤ maxLen) (hbytes : n + s.size ≤ 140737488355328) {v' : Value} (hr : (Builtin.append_ #[t, u0] ty #[v, .string s]).run P w = .ok v' w') :
    ∀ k, v'.ownBlock = some k → v.ownBlock = some k ∨ w.heap.size ≤ k := by
  rcases hown.2 with ⟨rfl, rfl⟩ | ⟨g, cap, cur, fz, rfl, hbg, hg, hfz, hnc, hcm, hcs, htake⟩
  · obtain ⟨v2, w2, h1, h2, -, -⟩ := Lib.run_append_own_string (P := P) w w.heap.size t u0 ty e i ht hu hi hz hsize hby (.slice none 0 0) 0 xs ⟨hown.1, .inl ⟨rfl, rfl⟩⟩ s h63 hbytes (Nat.le_refl _)
    rw [hr] at h1
    cases h1
    exact fun k hk => .inr (h2.lt k hk).1
  · have hxl : xs.length = n := by simpa using hown.1
    have hsm : n + s.size ≤ 9223372036854775807 := by simp only [maxLen] at h63; omega
    by_cases hroom : n + s.size ≤ cap
    · have h1 := Lib.run_append_room_stringF (P := P) w t u0 ty e i ht hu hi hsize g n cap cur fz hg (by simpa using hfz) s hroom (by omega)
      rw [hr] at h1
      cases h1
      exact fun k hk => .inl (by simpa [Value.ownBlock] using hk)
    · have h1 := Lib.run_append_grow_string (P := P) w t u0 ty e i (.int .u8 0) ht hu hi hz ⟨g, 0, none⟩ n cap xs (by rw [hsize]; simpa using hxl) (hown.cells (g := g) rfl) s (by omega) (by omega) (by rw [hby]; exact growslice_fits (by omega) (by omega))
      rw [hr] at h1
      cases h1
      refine fun k hk => .inr ?_
      simp [Value.ownBlock] at hk
      omega
theorem app_row (t ty : TypeId) (i : TypeInfo) (ht : P.underlying t = some (.slice e)) (hi : P.info? e = some i) (hz : i.zero = some (.int .u8 0)) (hsize : i.size = 1) (hby : i.bytes = 1)
    {v : Value} {n : Nat} (hown : w.ownsRowF 0 e 1 v n xs) (a : Addr) (m c : Nat) (news : List Value) (hl : news.length = m * 1) (hnews : ∀ j u, news[j]? = some u → w.cell? (a.add j) = some u) (h1c : ∀ u ∈ news, u.oneCell' = true)
    (h63 : n + m ≤ maxLen) (hbytes : n + m ≤ 140737488355328) {v' : Value} (hr : (Builtin.append_ #[t, t] ty #[v, .slice (some a) m c]).run P w = .ok v' w') :
    ∀ k, v'.ownBlock = some k → v.ownBlock = some k ∨ w.heap.size ≤ k := by
  rcases hown.2 with ⟨rfl, rfl⟩ | ⟨g, cap, cur, fz, rfl, hbg, hg, hfz, hnc, hcm, hcs, htake⟩
  · obtain ⟨v2, w2, h1, h2, -, -⟩ := run_append_own (P := P) w w.heap.size t ty e i (.int .u8 0) 1 1 ht hi hz hsize hby rfl (by decide) (.slice none 0 0) 0 xs ⟨hown.1, .inl ⟨rfl, rfl⟩⟩ a m c news hl hnews h1c h63 (by omega) (Nat.le_refl _)
    rw [hr] at h1
    cases h1
    exact fun k hk => .inr (h2.lt k hk).1
  · have hxl : xs.length = n := by simpa using hown.1
    have hsm : n + m ≤ 9223372036854775807 := by simp only [maxLen] at h63; omega
    by_cases hroom : n + m ≤ cap
    · have h1 := run_append_roomF (P := P) w t ty e i ht hi g n cap cur fz hg (by rw [hsize]; exact hfz) a m c news (by rw [hsize]; exact hl) hnews h1c hroom (by rw [hsize]; omega)
      rw [hr] at h1
      cases h1
      exact fun k hk => .inl (by simpa [Value.ownBlock] using hk)
    · have h1 := run_append_grow (P := P) w t ty e i (.int .u8 0) ht hi hz ⟨g, 0, none⟩ n cap xs (by rw [hsize]; exact hown.1) (hown.cells (g := g) rfl) a m c news (by rw [hsize]; exact hl) hnews (by omega) (by omega) (by rw [hby]; exact growslice_fits (by omega) (by omega))
      rw [hr] at h1
      cases h1
      refine fun k hk => .inr ?_
      simp [Value.ownBlock] at hk
      omega

/-- What a writing method leaves. -/
def Wrote (T e : TypeId) (b : Nat) (u : Value) (ys : List Value) (w w' : World) : Prop :=
  ∃ u', BAt T e b (.pointer (some ⟨b, 0, none⟩)) u' ys w' ∧ But b u.ownBlock w w' ∧ ∀ k, u'.ownBlock = some k → u.ownBlock = some k ∨ w.heap.size ≤ k

theorem wrote_put {v' : Value} {ys : List Value} {w1 : World} (hTe : T ≠ e) (hb : w'.heap[b]? = some (.cells #[.pointer (some ⟨b, 0, none⟩), u] T (0, 0))) (hown : w'.ownsRowF 0 e 1 v' ys.length ys) (hw : But b u.ownBlock w w')
    (hs : w1.heap.size ≥ w.heap.size) (hr : ∀ k, v'.ownBlock = some k → u.ownBlock = some k ∨ w1.heap.size ≤ k) : Wrote T e b u ys w (w'.setCell ⟨b, 1, none⟩ v') :=
  ⟨v', .un (Lib.BuilderAtF.put (Nat.zero_le _) hb hown hTe) (by rw [setCell_self hb]; rfl), hw.set _, fun k hk => (hr k hk).imp id fun h => Nat.le_trans hs h⟩
end Go.V
set_option linter.unusedVariables false
namespace Go.V
open Go Go.RowKit Go.Proofs Go.Shelf
variable {P : Program} {ρ : Ren} {T e : TypeId} {b : Nat} {p u : Value} {xs : List Value} {w w' : World}

theorem wpList_appStr {ops : Array Oper} {rest : List Oper} {o : Oper} {a : Act} {Q : Exit → Act → World → Prop} (hgd : o.guard = none) (sl x : Operand) (t u0 : TypeId)
    (ho : o.op = .call { callee := .builtin .append, args := #[sl, x], argTypes := #[t, u0] })
    (e : TypeId) (i : TypeInfo) (ht : P.underlying t = some (.slice e)) (hu : P.underlying u0 = some .string) (hi : P.info? e = some i) (hz : i.zero = some (.int .u8 0)) (hsize : i.size = 1) (hby : i.bytes = 1)
    (v : Value) (n : Nat) (xs : List Value) (hs : a.eval sl = v) (hown : w.ownsRowF 0 e 1 v n xs) (s : ByteArray) (hx : a.eval x = .string s) (h63 : n + s.size ≤ maxLen) (hbytes : n + s.size ≤ 140737488355328)
    (h : ∀ v' w', w'.ownsRowF 0 e 1 v' (n + s.size) (xs ++ Lib.strCells s) → w.grownBy w' v.ownBlock → (∀ k, v'.ownBlock = some k → v.ownBlock = some k ∨ w.heap.size ≤ k) → wpList P ops Q rest (a.put o.dst v') w') : wpList P ops Q (o :: rest) a w := by
  refine wpList_plain hgd fun K hK => ?_
  obtain ⟨v', w', hr, h2, h3, -⟩ := Lib.run_append_own_stringF (P := P) w 0 t u0 o.type e i ht hu hi hz hsize hby v n xs hown s h63 hbytes (Nat.zero_le _)
  have hrow := appStr_row t u0 o.type i ht hu hi hz hsize hby hown s h63 hbytes hr
  unfold Oper.wp execOp
  simp only [ho, resolve, invoke, builtin, Sem.run_bind, Sem.run_pure, Result.andThen_ok, List.map_toArray, List.map_cons, List.map_nil, hs, hx, hr]
  exact hK _ _ (h v' w' h2 h3 hrow)
theorem wpList_app {ops : Array Oper} {rest : List Oper} {o : Oper} {a : Act} {Q : Exit → Act → World → Prop} (hgd : o.guard = none) (sl x : Operand) (t : TypeId)
    (ho : o.op = .call { callee := .builtin .append, args := #[sl, x], argTypes := #[t, t] })
    (e : TypeId) (i : TypeInfo) (ht : P.underlying t = some (.slice e)) (hi : P.info? e = some i) (hz : i.zero = some (.int .u8 0)) (hsize : i.size = 1) (hby : i.bytes = 1)
    (v : Value) (n : Nat) (xs : List Value) (hs : a.eval sl = v) (hown : w.ownsRowF 0 e 1 v n xs) (ad : Addr) (m c : Nat) (news : List Value) (hx : a.eval x = .slice (some ad) m c) (hl : news.length = m * 1) (hnews : ∀ j u, news[j]? = some u → w.cell? (ad.add j) = some u) (h1c : ∀ u ∈ news, u.oneCell' = true)
    (h63 : n + m ≤ maxLen) (hbytes : n + m ≤ 140737488355328)
    (h : ∀ v' w', w'.ownsRowF 0 e 1 v' (n + m) (xs ++ news) → w.grownBy w' v.ownBlock → (∀ k, v'.ownBlock = some k → v.ownBlock = some k ∨ w.heap.size ≤ k) → wpList P ops Q rest (a.put o.dst v') w') : wpList P ops Q (o :: rest) a w := by
  refine wpList_plain hgd fun K hK => ?_
  obtain ⟨v', w', hr, h2, h3, -⟩ := run_append_ownF (P := P) w 0 t o.type e i (.int .u8 0) 1 1 ht hi hz hsize hby rfl (by decide) v n xs hown ad m c news hl hnews h1c h63 (by omega) (Nat.zero_le _)
  have hrow := app_row t o.type i ht hi hz hsize hby hown ad m c news hl hnews h1c h63 hbytes hr
  unfold Oper.wp execOp
  simp only [ho, resolve, invoke, builtin, Sem.run_bind, Sem.run_pure, Result.andThen_ok, List.map_toArray, List.map_cons, List.map_nil, hs, hx, hr]
  exact hK _ _ (h v' w' h2 h3 hrow)

set_option maxHeartbeats 2000000 in
set_option maxRecDepth 100000 in
theorem bWriteString (L : BLay P ρ) (f166 : P.funcs[ρ.f 166]? = some (Body.n166 ρ)) (s : ByteArray) (h : BAt (ρ.t 72) (ρ.t 5) b p u xs w) (hp : p = .pointer none ∨ p = .pointer (some ⟨b, 0, none⟩)) (hlen : xs.length + s.size ≤ 140737488355328) :
    Calls P (ρ.f 166) #[.pointer (some ⟨b, 0, none⟩), .string s] w fun e w' => e = .returned (.tuple #[.int .i64 s.size, .nilIface]) ∧ Wrote (ρ.t 72) (ρ.t 5) b u (xs ++ Lib.strCells s) w w' := by
  obtain ⟨i0, hi, hz0, hz1, hz2⟩ := info_parts L.infoByte
  have mixed := L.mixed
  have t72 := L.t72; have a72 := L.a72; have z72 := L.z72; have v72 := L.v72; have u72 := run_underlying L.t72
  have t70 := L.t70; have a70 := L.a70; have z70 := L.z70; have v70 := L.v70; have u70 := run_underlying L.t70
  have t37 := L.t37; have a37 := L.a37; have z37 := L.z37; have v37 := L.v37; have u37 := run_underlying L.t37
  have t3 := L.t3; have a3 := L.a3; have z3 := L.z3; have v3 := L.v3; have u3 := run_underlying L.t3
  have t9 := L.t9; have a9 := L.a9; have z9 := L.z9; have v9 := L.v9; have u9 := run_underlying L.t9
  have t5 := L.t5; have a5 := L.a5; have z5 := L.z5; have v5 := L.v5; have u5 := run_underlying L.t5
  have e240 := L.e240
  go_enter f166, Body.n166_ntmps ρ
  go_wp2_with (go_at_fn (ρ.f 240); refine (L.ck _ _ _ _ _ h hp).mono ?_)
  rintro e w1 ⟨rfl, h1, hb1⟩
  have hs1 := hb1.size
  obtain ⟨hbk, hown, hne⟩ := h1
  have c0 : w1.cell? ⟨b, 0, none⟩ = some (.pointer (some ⟨b, 0, none⟩)) := by rw [Lib.cell_of_heap hbk]; rfl
  have c1 : w1.cell? ⟨b, 1, none⟩ = some u := by rw [Lib.cell_of_heap hbk]; rfl
  go_wp2_with (at_builtin; refine wpList_appStr rfl _ _ (ρ.t 37) (ρ.t 9) rfl (ρ.t 5) i0 L.t37 L.t9 hi hz0 hz1 hz2 _ _ _ rfl hown s rfl ?c3 ?c4 ?_)
  case c3 => unfold maxLen; omega
  case c4 => omega
  intro v' w2 hown' hgrow hrow
  have hlt : b < w1.heap.size := BAt.lt ⟨hbk, hown, hne⟩
  have hb2 : w2.heap[b]? = some (.cells #[.pointer (some ⟨b, 0, none⟩), u] (ρ.t 72) (0, 0)) := by
    rw [hgrow.block b hlt (fun e => hne e.symm)]
    exact hbk
  have d0 : w2.cell? ⟨b, 0, none⟩ = some (.pointer (some ⟨b, 0, none⟩)) := by rw [Lib.cell_of_heap hb2]; rfl
  have d1 : w2.cell? ⟨b, 1, none⟩ = some u := by rw [Lib.cell_of_heap hb2]; rfl
  have f1 : w2.frozen? ⟨b, 1, none⟩ = false := Lib.frozen_of_heap hb2 1
  obtain ⟨ao, n', cap, rfl⟩ : ∃ ao n' cap, v' = .slice ao n' cap := by
    rcases hown'.2 with ⟨hv, _⟩ | ⟨g, cap, cur, fz, hv, _⟩
    · exact ⟨_, _, _, hv⟩
    · exact ⟨_, _, _, hv⟩
  go_wp2
  go_ret2
  exact ⟨rfl, wrote_put (w1 := w1) L.neB5 hb2 (by simpa [Lib.strCells_length] using hown') (hb1.grown hgrow) (by omega) (fun k hk => (hrow k hk).imp id fun h => by omega)⟩

set_option maxHeartbeats 2000000 in
set_option maxRecDepth 100000 in
theorem bWriteByte (L : BLay P ρ) (f167 : P.funcs[ρ.f 167]? = some (Body.n167 ρ)) (c : Int) (h : BAt (ρ.t 72) (ρ.t 5) b p u xs w) (hp : p = .pointer none ∨ p = .pointer (some ⟨b, 0, none⟩)) (hlen : xs.length + 1 ≤ 140737488355328) :
    Calls P (ρ.f 167) #[.pointer (some ⟨b, 0, none⟩), .int .u8 c] w fun e w' => e = .returned .nilIface ∧ Wrote (ρ.t 72) (ρ.t 5) b u (xs ++ [.int .u8 c]) w w' := by
  obtain ⟨i0, hi, hz0, hz1, hz2⟩ := info_parts L.infoByte
  have mixed := L.mixed
  have t72 := L.t72; have a72 := L.a72; have z72 := L.z72; have v72 := L.v72; have u72 := run_underlying L.t72
  have t70 := L.t70; have a70 := L.a70; have z70 := L.z70; have v70 := L.v70; have u70 := run_underlying L.t70
  have t5 := L.t5; have a5 := L.a5; have z5 := L.z5; have v5 := L.v5; have u5 := run_underlying L.t5
  have t37 := L.t37; have a37 := L.a37; have z37 := L.z37; have v37 := L.v37; have u37 := run_underlying L.t37
  have t9 := L.t9; have a9 := L.a9; have z9 := L.z9; have v9 := L.v9; have u9 := run_underlying L.t9
  have e240 := L.e240
  go_enter f167, Body.n167_ntmps ρ
  go_wp2_with (go_at_fn (ρ.f 240); refine (L.ck _ _ _ _ _ h hp).mono ?_)
  rintro e w1 ⟨rfl, h1, hb1⟩
  have hs1 := hb1.size
  obtain ⟨hbk, hown, hne⟩ := h1
  have c0 : w1.cell? ⟨b, 0, none⟩ = some (.pointer (some ⟨b, 0, none⟩)) := by rw [Lib.cell_of_heap hbk]; rfl
  have c1 : w1.cell? ⟨b, 1, none⟩ = some u := by rw [Lib.cell_of_heap hbk]; rfl
  go_wp2_with (at_builtin; refine wpList_app rfl _ _ (ρ.t 37) rfl (ρ.t 5) i0 L.t37 hi hz0 hz1 hz2 _ _ _ rfl (hown.alloc _) ⟨w1.heap.size, 0, none⟩ 1 1 [.int .u8 c] rfl rfl ?c1 ?c2 ?c3 ?c4 ?_)
  case c1 =>
    intro j u hj
    match j, hj with
    | 0, hj => simp at hj; subst hj; simp [Addr.add]
  case c2 => intro u hu; simp at hu; subst hu; rfl
  case c3 => unfold maxLen; omega
  case c4 => omega
  intro v' w2 hown' hgrow hrow
  have hlt : b < w1.heap.size := BAt.lt ⟨hbk, hown, hne⟩
  have hb2 : w2.heap[b]? = some (.cells #[.pointer (some ⟨b, 0, none⟩), u] (ρ.t 72) (0, 0)) := by
    rw [hgrow.block b (by simp; omega) (fun e => hne e.symm), Lib.alloc_old w1 _ b hlt]
    exact hbk
  have d0 : w2.cell? ⟨b, 0, none⟩ = some (.pointer (some ⟨b, 0, none⟩)) := by rw [Lib.cell_of_heap hb2]; rfl
  have d1 : w2.cell? ⟨b, 1, none⟩ = some u := by rw [Lib.cell_of_heap hb2]; rfl
  have f1 : w2.frozen? ⟨b, 1, none⟩ = false := Lib.frozen_of_heap hb2 1
  obtain ⟨g, cap, rfl⟩ : ∃ g cap, v' = .slice (some ⟨g, 0, none⟩) (xs.length + 1) cap := by
    rcases hown'.2 with ⟨_, h0⟩ | ⟨g, cap, cur, fz, hv, _⟩
    · omega
    · exact ⟨g, cap, hv⟩
  go_wp2
  go_ret
  exact ⟨rfl, wrote_put (w1 := w1) L.neB5 hb2 (by simpa using hown') ((hb1.alloc _).grown hgrow) (by omega) (fun k hk => (hrow k hk).imp id fun h => by omega)⟩

theorem unsafeString_none (L : BLay P ρ) (W : World) (q : Option Addr) : (Builtin.unsafeString_ #[(ρ.t 127), (ρ.t 3)] (ρ.t 9) #[.pointer q, .int .i64 0]).run P W = .ok (.string .empty) W :=
  Lib.run_unsafeString_none W _ _ _ q
set_option maxHeartbeats 1000000 in
set_option maxRecDepth 100000 in
theorem bLen (L : BLay P ρ) (f170 : P.funcs[ρ.f 170]? = some (Body.n170 ρ)) (h : BAt (ρ.t 72) (ρ.t 5) b p u xs w) :
    Calls P (ρ.f 170) #[.pointer (some ⟨b, 0, none⟩)] w fun e w' => e = .returned (.int .i64 xs.length) ∧ w' = w := by
  obtain ⟨hbk, hown, hne⟩ := h
  obtain ⟨ao, cap, rfl⟩ : ∃ ao cap, u = .slice ao xs.length cap := by
    rcases hown.2 with ⟨hv, h0⟩ | ⟨g, cap, cur, fz, hv, _⟩
    · exact ⟨none, 0, by rw [hv, h0]⟩
    · exact ⟨_, _, hv⟩
  have c1 : w.cell? ⟨b, 1, none⟩ = some (.slice ao xs.length cap) := by rw [Lib.cell_of_heap hbk]; rfl
  have mixed := L.mixed
  have t72 := L.t72; have a72 := L.a72; have z72 := L.z72; have v72 := L.v72; have u72 := run_underlying L.t72
  have t70 := L.t70; have a70 := L.a70; have z70 := L.z70; have v70 := L.v70; have u70 := run_underlying L.t70
  have t37 := L.t37; have a37 := L.a37; have z37 := L.z37; have v37 := L.v37; have u37 := run_underlying L.t37
  have t3 := L.t3; have a3 := L.a3; have z3 := L.z3; have v3 := L.v3; have u3 := run_underlying L.t3
  go_enter f170, Body.n170_ntmps ρ
  go_wp2
  go_ret
  exact ⟨rfl, rfl⟩

set_option maxHeartbeats 2000000 in
set_option maxRecDepth 100000 in
theorem bString_some (L : BLay P ρ) (f169 : P.funcs[ρ.f 169]? = some (Body.n169 ρ)) (l : List UInt8) (h0 : l ≠ []) (h : BAt (ρ.t 72) (ρ.t 5) b p u (Lib.byteCells l) w) :
    Calls P (ρ.f 169) #[.pointer (some ⟨b, 0, none⟩)] w fun e w' => e = .returned (.string ⟨l.toArray⟩) ∧ BAt (ρ.t 72) (ρ.t 5) b p u (Lib.byteCells l) w' ∧ But b u.ownBlock w w' := by
  obtain ⟨hbk, hown, hne⟩ := h
  have hl0 : l.length ≠ 0 := by simpa using h0
  rw [Lib.byteCells_length] at hown
  obtain ⟨g, cap, cur, fz, rfl, hg, hnc, hcm, hcs⟩ : ∃ g cap cur fz, u = .slice (some ⟨g, 0, none⟩) l.length cap ∧ w.heap[g]? = some (.cells cur (ρ.t 5) fz) ∧ l.length ≤ cap ∧ cap ≤ maxLen ∧ cur.size = cap * 1 := by
    rcases hown.2 with ⟨_, hz⟩ | ⟨g, cap, cur, fz, hv, _, h1, _, h2, h3, h4, _⟩
    · exact absurd hz hl0
    · exact ⟨g, cap, cur, fz, hv, h1, h2, h3, h4⟩
  have hgb : b ≠ g := fun e => hne (by simp [Value.ownBlock, e])
  have c1 : w.drew.cell? ⟨b, 1, none⟩ = some (.slice (some ⟨g, 0, none⟩) l.length cap) := by
    have : w.drew.heap[b]? = some (.cells #[p, .slice (some ⟨g, 0, none⟩) l.length cap] (ρ.t 72) (0, 0)) := hbk
    rw [Lib.cell_of_heap this]; rfl
  have hSD : (Builtin.unsafeSliceData_ #[(ρ.t 37)] (ρ.t 127) #[.slice (some ⟨g, 0, none⟩) l.length cap]).run P w.drew = .ok (.pointer (some ⟨g, 0, none⟩)) w.drew :=
    Lib.run_unsafeSliceData_row _ _ _ _ _ _ (by omega)
  have hUS : (Builtin.unsafeString_ #[(ρ.t 127), (ρ.t 3)] (ρ.t 9) #[.pointer (some ⟨g, 0, none⟩), .int .i64 l.length]).run P w.drew = .ok (.string ⟨l.toArray⟩) (w.drew.freeze ⟨g, 0, none⟩ l.length) := by
    refine Lib.run_unsafeString_row w.drew (ρ.t 127) (ρ.t 3) (ρ.t 9) (ρ.t 5) L.t127 L.cellsByte g cur.size (by have hg' : w.drew.heap[g]? = some (.cells cur (ρ.t 5) fz) := hg; simp [World.shape?, hg']) l h0 (by omega) (by unfold maxLen at hcm; omega) ?_
    intro j x hx
    exact hown.cells (g := g) rfl j (.int .u8 x.toNat) (by simp [Lib.byteCells, hx])
  have hkeep : BAt (ρ.t 72) (ρ.t 5) b p (.slice (some ⟨g, 0, none⟩) l.length cap) (Lib.byteCells l) (w.drew.freeze ⟨g, 0, none⟩ l.length) := by
    have hA : BAt (ρ.t 72) (ρ.t 5) b p (.slice (some ⟨g, 0, none⟩) l.length cap) (Lib.byteCells l) w.drew := ⟨hbk, by rw [Lib.byteCells_length]; exact hown, hne⟩
    have hF := hA.lib.froze (g := g) (cap := cap) (by rw [Lib.byteCells_length]; exact c1)
    rw [Lib.byteCells_length] at hF
    refine .un hF ?_
    have hB := (But.rfl' (b := w.heap.size) (row := some g) (w := w.drew)).freeze (n := l.length)
    rw [hB.block b hA.lt (Nat.ne_of_lt hA.lt) (by simpa using hgb)]
    exact hbk
  have mixed := L.mixed
  have t72 := L.t72; have a72 := L.a72; have z72 := L.z72; have v72 := L.v72; have u72 := run_underlying L.t72
  have t70 := L.t70; have a70 := L.a70; have z70 := L.z70; have v70 := L.v70; have u70 := run_underlying L.t70
  have t37 := L.t37; have a37 := L.a37; have z37 := L.z37; have v37 := L.v37; have u37 := run_underlying L.t37
  have t127 := L.t127; have a127 := L.a127; have z127 := L.z127; have v127 := L.v127; have u127 := run_underlying L.t127
  have t3 := L.t3; have a3 := L.a3; have z3 := L.z3; have v3 := L.v3; have u3 := run_underlying L.t3
  have t9 := L.t9; have a9 := L.a9; have z9 := L.z9; have v9 := L.v9; have u9 := run_underlying L.t9
  have t5 := L.t5; have a5 := L.a5; have z5 := L.z5; have v5 := L.v5; have u5 := run_underlying L.t5
  go_enter f169, Body.n169_ntmps ρ
  go_wp2
  go_region_o
  all_goals (go_wp2; go_ret; exact ⟨rfl, hkeep, But.rfl'.drew.freeze⟩)

set_option maxHeartbeats 2000000 in
set_option maxRecDepth 100000 in
theorem bString_nil (L : BLay P ρ) (f169 : P.funcs[ρ.f 169]? = some (Body.n169 ρ)) (h : BAt (ρ.t 72) (ρ.t 5) b p (.slice none 0 0) [] w) :
    Calls P (ρ.f 169) #[.pointer (some ⟨b, 0, none⟩)] w fun e w' => e = .returned (.string ⟨#[]⟩) ∧ BAt (ρ.t 72) (ρ.t 5) b p (.slice none 0 0) [] w' ∧ But b none w w' := by
  have hUS := unsafeString_none L
  have hbk := h.1
  have c1 : w.drew.cell? ⟨b, 1, none⟩ = some (.slice none 0 0) := by
    have : w.drew.heap[b]? = some (.cells #[p, .slice none 0 0] (ρ.t 72) (0, 0)) := hbk
    rw [Lib.cell_of_heap this]; rfl
  have hSD : (Builtin.unsafeSliceData_ #[(ρ.t 37)] (ρ.t 127) #[.slice none 0 0]).run P w.drew = .ok (.pointer none) w.drew := rfl
  have mixed := L.mixed
  have t72 := L.t72; have a72 := L.a72; have z72 := L.z72; have v72 := L.v72; have u72 := run_underlying L.t72
  have t70 := L.t70; have a70 := L.a70; have z70 := L.z70; have v70 := L.v70; have u70 := run_underlying L.t70
  have t37 := L.t37; have a37 := L.a37; have z37 := L.z37; have v37 := L.v37; have u37 := run_underlying L.t37
  have t127 := L.t127; have a127 := L.a127; have z127 := L.z127; have v127 := L.v127; have u127 := run_underlying L.t127
  have t3 := L.t3; have a3 := L.a3; have z3 := L.z3; have v3 := L.v3; have u3 := run_underlying L.t3
  have t9 := L.t9; have a9 := L.a9; have z9 := L.z9; have v9 := L.v9; have u9 := run_underlying L.t9
  have t5 := L.t5; have a5 := L.a5; have z5 := L.z5; have v5 := L.v5; have u5 := run_underlying L.t5
  go_enter f169, Body.n169_ntmps ρ
  go_wp2
  go_region_o
  all_goals (go_wp2; go_ret; exact ⟨rfl, h, But.rfl'.drew⟩)

set_option maxHeartbeats 2000000 in
set_option maxRecDepth 100000 in
theorem bString_tight {g : Nat} {cur : Array Value} {fz : Nat × Nat} (L : BLay P ρ) (f169 : P.funcs[ρ.f 169]? = some (Body.n169 ρ)) (h : BAt (ρ.t 72) (ρ.t 5) b p (.slice (some ⟨g, 0, none⟩) 0 0) [] w) (hg : w.heap[g]? = some (.cells cur (ρ.t 5) fz)) :
    Calls P (ρ.f 169) #[.pointer (some ⟨b, 0, none⟩)] w fun e w' => e = .returned (.string ⟨#[]⟩) ∧ BAt (ρ.t 72) (ρ.t 5) b p (.slice (some ⟨g, 0, none⟩) 0 0) [] w' ∧ But b (some g) w w' := by
  have hUS := unsafeString_none L
  have hbk := h.1
  have hlt := h.lt
  have c1 : w.drew.cell? ⟨b, 1, none⟩ = some (.slice (some ⟨g, 0, none⟩) 0 0) := by
    have : w.drew.heap[b]? = some (.cells #[p, .slice (some ⟨g, 0, none⟩) 0 0] (ρ.t 72) (0, 0)) := hbk
    rw [Lib.cell_of_heap this]; rfl
  have hSD : (Builtin.unsafeSliceData_ #[(ρ.t 37)] (ρ.t 127) #[.slice (some ⟨g, 0, none⟩) 0 0]).run P w.drew = .ok (.pointer (some ⟨w.drew.heap.size, 0, none⟩)) (w.drew.alloc (.view ⟨g, 0, none⟩ (ρ.t 5))) :=
    Lib.run_unsafeSliceData_zero w.drew _ _ (ρ.t 5) L.t127 ⟨g, 0, none⟩ 0 ((ρ.t 5), cur.size) (by have hg' : w.drew.heap[g]? = some (.cells cur (ρ.t 5) fz) := hg; simp [World.shape?, hg'])
  have c2 : (w.drew.alloc (.view ⟨g, 0, none⟩ (ρ.t 5))).cell? ⟨b, 1, none⟩ = some (.slice (some ⟨g, 0, none⟩) 0 0) := by
    have : (w.drew.alloc (.view ⟨g, 0, none⟩ (ρ.t 5))).heap[b]? = _ := (Lib.alloc_old w.drew _ b hlt).trans hbk
    rw [Lib.cell_of_heap this]; rfl
  have c3 : (w.alloc (.view ⟨g, 0, none⟩ (ρ.t 5))).drew.cell? ⟨b, 1, none⟩ = some (.slice (some ⟨g, 0, none⟩) 0 0) := c2
  have c0 : w.cell? ⟨b, 1, none⟩ = some (.slice (some ⟨g, 0, none⟩) 0 0) := c1
  have hk : BAt (ρ.t 72) (ρ.t 5) b p (.slice (some ⟨g, 0, none⟩) 0 0) [] (w.drew.alloc (.view ⟨g, 0, none⟩ (ρ.t 5))) := .un (h.lib.drew.alloc _) ((Lib.alloc_old w.drew _ b hlt).trans hbk)
  have mixed := L.mixed
  have t72 := L.t72; have a72 := L.a72; have z72 := L.z72; have v72 := L.v72; have u72 := run_underlying L.t72
  have t70 := L.t70; have a70 := L.a70; have z70 := L.z70; have v70 := L.v70; have u70 := run_underlying L.t70
  have t37 := L.t37; have a37 := L.a37; have z37 := L.z37; have v37 := L.v37; have u37 := run_underlying L.t37
  have t127 := L.t127; have a127 := L.a127; have z127 := L.z127; have v127 := L.v127; have u127 := run_underlying L.t127
  have t3 := L.t3; have a3 := L.a3; have z3 := L.z3; have v3 := L.v3; have u3 := run_underlying L.t3
  have t9 := L.t9; have a9 := L.a9; have z9 := L.z9; have v9 := L.v9; have u9 := run_underlying L.t9
  have t5 := L.t5; have a5 := L.a5; have z5 := L.z5; have v5 := L.v5; have u5 := run_underlying L.t5
  go_enter f169, Body.n169_ntmps ρ
  go_wp2
  go_region_o
  all_goals (go_wp2; go_ret; exact ⟨rfl, hk, But.rfl'.drew.alloc _⟩)

set_option maxHeartbeats 2000000 in
set_option maxRecDepth 100000 in
theorem bString_room {g cap : Nat} (L : BLay P ρ) (f169 : P.funcs[ρ.f 169]? = some (Body.n169 ρ)) (hc0 : cap ≠ 0) (h : BAt (ρ.t 72) (ρ.t 5) b p (.slice (some ⟨g, 0, none⟩) 0 cap) [] w) :
    Calls P (ρ.f 169) #[.pointer (some ⟨b, 0, none⟩)] w fun e w' => e = .returned (.string ⟨#[]⟩) ∧ BAt (ρ.t 72) (ρ.t 5) b p (.slice (some ⟨g, 0, none⟩) 0 cap) [] w' ∧ But b (some g) w w' := by
  have hUS := unsafeString_none L
  have hbk := h.1
  have c1 : w.drew.cell? ⟨b, 1, none⟩ = some (.slice (some ⟨g, 0, none⟩) 0 cap) := by
    have : w.drew.heap[b]? = some (.cells #[p, .slice (some ⟨g, 0, none⟩) 0 cap] (ρ.t 72) (0, 0)) := hbk
    rw [Lib.cell_of_heap this]; rfl
  have hSD : (Builtin.unsafeSliceData_ #[(ρ.t 37)] (ρ.t 127) #[.slice (some ⟨g, 0, none⟩) 0 cap]).run P w.drew = .ok (.pointer (some ⟨g, 0, none⟩)) w.drew :=
    Lib.run_unsafeSliceData_row _ _ _ _ _ _ hc0
  clear hc0
  have mixed := L.mixed
  have t72 := L.t72; have a72 := L.a72; have z72 := L.z72; have v72 := L.v72; have u72 := run_underlying L.t72
  have t70 := L.t70; have a70 := L.a70; have z70 := L.z70; have v70 := L.v70; have u70 := run_underlying L.t70
  have t37 := L.t37; have a37 := L.a37; have z37 := L.z37; have v37 := L.v37; have u37 := run_underlying L.t37
  have t127 := L.t127; have a127 := L.a127; have z127 := L.z127; have v127 := L.v127; have u127 := run_underlying L.t127
  have t3 := L.t3; have a3 := L.a3; have z3 := L.z3; have v3 := L.v3; have u3 := run_underlying L.t3
  have t9 := L.t9; have a9 := L.a9; have z9 := L.z9; have v9 := L.v9; have u9 := run_underlying L.t9
  have t5 := L.t5; have a5 := L.a5; have z5 := L.z5; have v5 := L.v5; have u5 := run_underlying L.t5
  go_enter f169, Body.n169_ntmps ρ
  go_wp2
  go_region_o
  all_goals (go_wp2; go_ret; exact ⟨rfl, h, But.rfl'.drew⟩)

theorem bString (L : BLay P ρ) (f169 : P.funcs[ρ.f 169]? = some (Body.n169 ρ)) (l : List UInt8) (h : BAt (ρ.t 72) (ρ.t 5) b p u (Lib.byteCells l) w) :
    Calls P (ρ.f 169) #[.pointer (some ⟨b, 0, none⟩)] w fun e w' => e = .returned (.string ⟨l.toArray⟩) ∧ BAt (ρ.t 72) (ρ.t 5) b p u (Lib.byteCells l) w' ∧ But b u.ownBlock w w' := by
  cases l with
  | cons x r => exact bString_some L f169 (x :: r) (by simp) h
  | nil =>
    obtain ⟨hbk, hown, hne⟩ := h
    rcases hown.2 with ⟨rfl, _⟩ | ⟨g, cap, cur, fz, rfl, _, hg, _⟩
    · exact bString_nil L f169 ⟨hbk, hown, hne⟩
    · by_cases hc0 : cap = 0
      · subst hc0
        exact bString_tight L f169 ⟨hbk, hown, hne⟩ hg
      · exact bString_room L f169 hc0 ⟨hbk, hown, hne⟩
end Go.V
namespace Go.V
open Go Go.RowKit Go.Proofs Go.Shelf
variable {P : Program} {ρ : Ren} {T e : TypeId} {b : Nat} {p u : Value} {xs : List Value} {w w' : World} {G : Nat → Own}

theorem bytes_len (x : ByteArray) : (Lib.byteCells x.data.toList).length = x.size := by rw [Lib.byteCells_length]; rfl
theorem strCells_bytes (s : ByteArray) : Lib.strCells s = Lib.byteCells s.data.toList := rfl
theorem bytes_append (x y : ByteArray) : Lib.byteCells (x ++ y).data.toList = Lib.byteCells x.data.toList ++ Lib.byteCells y.data.toList := by
  simp [Lib.byteCells, ByteArray.data_append]
theorem bytes_push (x : ByteArray) (c : UInt8) : Lib.byteCells (x.push c).data.toList = Lib.byteCells x.data.toList ++ [.int .u8 c.toNat] := by
  simp [Lib.byteCells, ByteArray.push]

theorem bld_open {s : Nat} {v : Value} {x : ByteArray} (h : BldRep G w s v T e x) : ∃ b p u, v = .pointer (some ⟨b, 0, none⟩) ∧ G b = .at_ s [] ∧ (p = .pointer none ∨ p = .pointer (some ⟨b, 0, none⟩)) ∧
    BAt T e b p u (Lib.byteCells x.data.toList) w ∧ ∀ g, u.ownBlock = some g → G g = .at_ s [(0, 1)] := by
  obtain ⟨b, p, u, hv, hG, hb, hp, hown, hne, hg⟩ := h
  exact ⟨b, p, u, hv, hG, hp, ⟨hb, by rw [bytes_len]; exact hown, hne⟩, hg⟩
/-- A method has run: the builder is the caller's still, all else stands. -/
theorem bld_back {s : Nat} {v p' u' : Value} {y : ByteArray} (hv : v = .pointer (some ⟨b, 0, none⟩)) (hG : G b = .at_ s []) (hg : ∀ g, u.ownBlock = some g → G g = .at_ s [(0, 1)]) (hlt : b < w.heap.size) (hout : ∀ k, w.heap.size ≤ k → G k = .outer)
    (hA : BAt T e b p' u' (Lib.byteCells y.data.toList) w') (hp : p' = .pointer none ∨ p' = .pointer (some ⟨b, 0, none⟩)) (hB : But b u.ownBlock w w') (hr : ∀ k, u'.ownBlock = some k → u.ownBlock = some k ∨ w.heap.size ≤ k) :
    ∃ G', BldRep G' w' s v T e y ∧ Base G w G' w' ∧ ∀ k, w'.heap.size ≤ k → G' k = .outer := by
  obtain ⟨hb, hown, hne⟩ := hA
  have hlt' : ∀ k, u'.ownBlock = some k → k < w'.heap.size := fun k hk => (hown.lt k hk).2
  have same : ∀ k, G k = .pers ∨ (k < w.heap.size ∧ G k = .outer) → u'.ownBlock ≠ some k ∧ w'.heap[k]? = w.heap[k]? := by
    intro k hk
    have h1 : k < w.heap.size := by
      rcases hk with h | h
      · rcases Nat.lt_or_ge k w.heap.size with h' | h'
        · exact h'
        · rw [hout k h'] at h; cases h
      · exact h.1
    have h2 : u.ownBlock ≠ some k := fun h => by
      have := hg k h
      rcases hk with h' | ⟨_, h'⟩ <;> rw [this] at h' <;> cases h'
    have h3 : k ≠ b := fun h => by
      subst h
      rcases hk with h' | ⟨_, h'⟩ <;> rw [hG] at h' <;> cases h'
    exact ⟨fun h => (hr k h).elim h2 fun h => by omega, hB.block k h1 h3 fun h => h2 h.symm⟩
  refine ⟨fun k => if u'.ownBlock = some k then .at_ s [(0, 1)] else G k, ⟨b, p', u', hv, ?_, hb, hp, ?_, hne, fun g h => if_pos h⟩, ⟨fun k h => ?_, fun k hk h => ?_, hB.size, hB.os, hB.tape, hB.output⟩, fun k hk => ?_⟩
  · exact (if_neg hne).trans hG
  · rw [bytes_len] at hown; exact hown
  · exact ⟨(if_neg (same k (.inl h)).1).trans h, (same k (.inl h)).2⟩
  · exact ⟨(if_neg (same k (.inr ⟨hk, h⟩)).1).trans h, (same k (.inr ⟨hk, h⟩)).2⟩
  · have : u'.ownBlock ≠ some k := fun h => by have := hlt' k h; omega
    exact (if_neg this).trans (hout k (Nat.le_trans hB.size hk))
theorem one_res {v : Value} (h : scal v = true) (k : Nat) : TsRep G w RES k false v [.sc v] :=
  ⟨[v], rfl, rfl, fun j y u hy hu => by
    cases j with
    | succ j => simp at hy
    | zero =>
      simp only [List.getElem?_cons_zero, Option.some.injEq] at hy hu
      subst hy; subst hu
      exact .sc h⟩
theorem arg_sc {i : Nat} {u v : Value} (h : ArgRep G w i u (.sh false [.sc v])) : u = v := by
  obtain ⟨-, us, hpk, hul, hall⟩ := h
  match us, hul with
  | [z], _ =>
    have h1 := hall 0 _ z rfl rfl
    have h2 : [z] = [u] := hpk
    cases h2
    cases h1
    rfl

theorem vcWriteString (L : BLay P ρ) (f166 : P.funcs[ρ.f 166]? = some (Body.n166 ρ)) (x s : ByteArray) (h : x.size + s.size ≤ 140737488355328) :
    VC P (ρ.f 166) [.bl (ρ.t 72) (ρ.t 5) x, .sh false [.sc (.string s)]] [(false, [.sc (.int .i64 s.size)]), (false, [.sc .nilIface])] [some (.bl (ρ.t 72) (ρ.t 5) (x ++ s))] := by
  intro G w vs hl hargs hout
  match vs, hl with
  | [v, z], _ =>
    obtain ⟨b, p, u, hv, hG, hp, hA, hg⟩ := bld_open (hargs 0 _ v rfl rfl)
    obtain rfl := arg_sc (hargs 1 _ z rfl rfl)
    subst hv
    refine (bWriteString L f166 s hA hp (by rw [bytes_len]; exact h)).mono ?_
    rintro e w' ⟨rfl, u', hA', hB, hr⟩
    rw [strCells_bytes, ← bytes_append] at hA'
    obtain ⟨G', h1, h2, h3⟩ := bld_back rfl hG hg hA.lt hout hA' (.inr rfl) hB hr
    refine ⟨_, G', rfl, ⟨[_, _], rfl, rfl, fun k q u hq hu => ?_⟩, fun i a v hi hv => ?_, h2, h3⟩
    · match k with
      | 0 => simp only [List.getElem?_cons_zero, Option.some.injEq] at hq hu; subst hq; subst hu; exact one_res rfl 0
      | 1 => simp only [List.getElem?_cons_succ, List.getElem?_cons_zero, Option.some.injEq] at hq hu; subst hq; subst hu; exact one_res rfl 1
      | k + 2 => simp at hq
    · match i with
      | 0 => simp only [List.getElem?_cons_zero, Option.some.injEq] at hi hv; subst hi; subst hv; exact h1
      | i + 1 => simp at hi
theorem vcWriteByte (L : BLay P ρ) (f167 : P.funcs[ρ.f 167]? = some (Body.n167 ρ)) (x : ByteArray) (c : Int) (h : x.size + 1 ≤ 140737488355328) (hc : c = (UInt8.ofNat c.toNat).toNat) :
    VC P (ρ.f 167) [.bl (ρ.t 72) (ρ.t 5) x, .sh false [.sc (.int .u8 c)]] [(false, [.sc .nilIface])] [some (.bl (ρ.t 72) (ρ.t 5) (x.push (UInt8.ofNat c.toNat)))] := by
  intro G w vs hl hargs hout
  match vs, hl with
  | [v, z], _ =>
    obtain ⟨b, p, u, hv, hG, hp, hA, hg⟩ := bld_open (hargs 0 _ v rfl rfl)
    obtain rfl := arg_sc (hargs 1 _ z rfl rfl)
    subst hv
    refine (bWriteByte L f167 c hA hp (by rw [bytes_len]; exact h)).mono ?_
    rintro e w' ⟨rfl, u', hA', hB, hr⟩
    have hpush : Lib.byteCells x.data.toList ++ [.int .u8 c] = Lib.byteCells (x.push (UInt8.ofNat c.toNat)).data.toList := by rw [bytes_push, ← hc]
    rw [hpush] at hA'
    obtain ⟨G', h1, h2, h3⟩ := bld_back rfl hG hg hA.lt hout hA' (.inr rfl) hB hr
    refine ⟨_, G', rfl, ⟨[_], rfl, rfl, fun k q u hq hu => ?_⟩, fun i a v hi hv => ?_, h2, h3⟩
    · match k with
      | 0 => simp only [List.getElem?_cons_zero, Option.some.injEq] at hq hu; subst hq; subst hu; exact one_res rfl 0
      | k + 1 => simp at hq
    · match i with
      | 0 => simp only [List.getElem?_cons_zero, Option.some.injEq] at hi hv; subst hi; subst hv; exact h1
      | i + 1 => simp at hi
theorem vcString (L : BLay P ρ) (f169 : P.funcs[ρ.f 169]? = some (Body.n169 ρ)) (x : ByteArray) :
    VC P (ρ.f 169) [.bl (ρ.t 72) (ρ.t 5) x] [(false, [.sc (.string x)])] [some (.bl (ρ.t 72) (ρ.t 5) x)] := by
  intro G w vs hl hargs hout
  match vs, hl with
  | [v], _ =>
    obtain ⟨b, p, u, hv, hG, hp, hA, hg⟩ := bld_open (hargs 0 _ v rfl rfl)
    subst hv
    refine (bString L f169 x.data.toList hA).mono ?_
    rintro e w' ⟨rfl, hA', hB⟩
    obtain ⟨G', h1, h2, h3⟩ := bld_back rfl hG hg hA.lt hout hA' hp hB fun k hk => .inl hk
    refine ⟨_, G', rfl, ⟨[.string x], rfl, rfl, fun k q u hq hu => ?_⟩, fun i a v hi hv => ?_, h2, h3⟩
    · match k with
      | 0 => simp only [List.getElem?_cons_zero, Option.some.injEq] at hq hu; subst hq; subst hu; exact one_res rfl 0
      | k + 1 => simp at hq
    · match i with
      | 0 => simp only [List.getElem?_cons_zero, Option.some.injEq] at hi hv; subst hi; subst hv; exact h1
      | i + 1 => simp at hi
theorem vcLen (L : BLay P ρ) (f170 : P.funcs[ρ.f 170]? = some (Body.n170 ρ)) (x : ByteArray) :
    VC P (ρ.f 170) [.bl (ρ.t 72) (ρ.t 5) x] [(false, [.sc (.int .i64 x.size)])] [some (.bl (ρ.t 72) (ρ.t 5) x)] := by
  intro G w vs hl hargs hout
  match vs, hl with
  | [v], _ =>
    obtain ⟨b, p, u, hv, hG, hp, hA, hg⟩ := bld_open (hargs 0 _ v rfl rfl)
    subst hv
    refine (bLen L f170 hA).mono ?_
    rintro e w' ⟨rfl, rfl⟩
    rw [bytes_len]
    obtain ⟨G', h1, h2, h3⟩ := bld_back rfl hG hg hA.lt hout hA hp .rfl' fun k hk => .inl hk
    refine ⟨_, G', rfl, ⟨[.int .i64 x.size], rfl, rfl, fun k q u hq hu => ?_⟩, fun i a v hi hv => ?_, h2, h3⟩
    · match k with
      | 0 => simp only [List.getElem?_cons_zero, Option.some.injEq] at hq hu; subst hq; subst hu; exact one_res rfl 0
      | k + 1 => simp at hq
    · match i with
      | 0 => simp only [List.getElem?_cons_zero, Option.some.injEq] at hi hv; subst hi; subst hv; exact h1
      | i + 1 => simp at hi
end Go.V

import Derived.Test.YtjdppgogdilgkaaKE
import Derived.Laws.CopyRow
import Derived.Conc.EventLaws2
section
namespace Go.Co
open Go.Conc
set_option linter.unusedVariables false
set_option linter.unusedSimpArgs false
section
variable {n : Nat} {P : Program} {V : View} {w : World} {o : Oper} {a : Act} {next : View → Prop}
theorem Sat.none {b : Nat} (hs : Sat V w) (hb : w.heap.size ≤ b) : V b = none := by
  cases hv : V b with
  | none => rfl
  | some r => have := (Array.getElem?_eq_some_iff.1 (hs b r.1 r.2 hv)).1; omega
theorem AfterV.read (hs : Sat V w) (hl : Low n w) (he : ∀ e ∈ (execOp a.eval o).events P w #[], e.loc = .mark .noRoom ∨ ∃ ad m ob, e.loc = .cell ad ∧ e.sync = false ∧ V ad.block = some (m, ob) ∧ (e.write = true → m = true)) (h : next V) : AfterV n P V w o a w next :=
  ⟨V, ⟨Kept.refl w, hl, he, hs, fun _ _ _ => rfl, fun b h h' => absurd h h', fun _ _ h => h, fun _ o h => ⟨o, h⟩⟩, h⟩
theorem low_setCell (hl : Low n w) (ad : Addr) (v : Value) : Low n (w.setCell ad v) := hl.setCell ad v
theorem AfterV.new {ob : Obj} {w' : World} (hs : Sat V w) (hl : Low n w) (hk : Kept w w') (hw : w'.heap = w.heap.push ob) (he : ∀ e ∈ (execOp a.eval o).events P w #[], e.loc = .mark .noRoom) (h : next (V.set w.heap.size true ob)) : AfterV n P V w o a w' next := by
  have hnew : w'.heap[w.heap.size]? = some ob := by rw [hw]; exact Array.getElem?_push_size
  have hold : ∀ b, b < w.heap.size → w'.heap[b]? = w.heap[b]? := fun b hb => by rw [hw, Array.getElem?_push_lt hb, Array.getElem?_eq_getElem hb]
  refine ⟨V.set w.heap.size true ob, ⟨hk, fun g hg => ?_, fun e h' => .inl (he e h'), fun b m o' hb => ?_, fun b hb _ => hold b hb, fun b h1 h2 => ?_, fun b o' hb => ?_, fun b o' hb => ?_⟩, h⟩
  · obtain ⟨c, t, f, e⟩ := hl g hg
    exact ⟨c, t, f, by rw [hold g (Array.getElem?_eq_some_iff.1 e).1]; exact e⟩
  · by_cases e : b = w.heap.size
    · subst e; rw [View.set_same] at hb; injection hb with hb; injection hb with _ hb; subst hb; exact hnew
    · rw [View.set_ne _ _ _ e] at hb
      rw [hold b (Array.getElem?_eq_some_iff.1 (hs b m o' hb)).1]; exact hs b m o' hb
  · by_cases e : b = w.heap.size
    · omega
    · rw [View.set_ne _ _ _ e] at h2; exact absurd h1 h2
  · rw [View.set_ne]
    · exact hb
    · intro e; subst e; rw [hs.none (Nat.le_refl _)] at hb; cases hb
  · rw [View.set_ne]
    · exact ⟨o', hb⟩
    · intro e; subst e; rw [hs.none (Nat.le_refl _)] at hb; cases hb
theorem AfterV.alloc {ob : Obj} (hs : Sat V w) (hl : Low n w) (he : ∀ e ∈ (execOp a.eval o).events P w #[], e.loc = .mark .noRoom) (h : next (V.set w.heap.size true ob)) : AfterV n P V w o a (w.alloc ob) next :=
  AfterV.new hs hl ⟨rfl, rfl, rfl, by show _ ≤ (w.heap.push ob).size; simp⟩ rfl he h
theorem AfterV.write {g : Nat} {c c' : Array Value} {t : TypeId} {f : Nat × Nat} {w' : World} (hs : Sat V w) (hl : Low n w) (hg : V g = some (true, .cells c t f)) (hk : Kept w w') (hw : w'.heap = w.heap.setIfInBounds g (.cells c' t f))
    (he : ∀ e ∈ (execOp a.eval o).events P w #[], e.loc = .mark .noRoom ∨ ∃ ad, e.loc = .cell ad ∧ e.sync = false ∧ ad.block = g) (h : next (V.set g true (.cells c' t f))) : AfterV n P V w o a w' next := by
  have hlt : g < w.heap.size := (Array.getElem?_eq_some_iff.1 (hs _ _ _ hg)).1
  have hnew : w'.heap[g]? = some (.cells c' t f) := by rw [hw]; exact Array.getElem?_setIfInBounds_self_of_lt hlt
  have hold : ∀ b, b ≠ g → w'.heap[b]? = w.heap[b]? := fun b hb => by rw [hw, Array.getElem?_setIfInBounds_ne (fun e => hb e.symm)]
  refine ⟨V.set g true (.cells c' t f), ⟨hk, fun b hb => ?_, fun e h' => ?_, fun b m o' hb => ?_, fun b hb hn => hold b fun e => ?_, fun b h1 h2 => ?_, fun b o' hb => ?_, fun b o' hb => ?_⟩, h⟩
  · by_cases e : b = g
    · subst e; exact ⟨c', t, f, hnew⟩
    · obtain ⟨c, t, f, h1⟩ := hl b hb
      exact ⟨c, t, f, by rw [hold b e]; exact h1⟩
  · rcases he e h' with h1 | ⟨ad, h1, h2, h3⟩
    · exact .inl h1
    · exact .inr ⟨ad, true, _, h1, h2, by rw [h3]; exact View.set_same _ _ _ _, fun _ => rfl⟩
  · by_cases e : b = g
    · subst e; rw [View.set_same] at hb; injection hb with hb; injection hb with _ hb; subst hb; exact hnew
    · rw [View.set_ne _ _ _ e] at hb
      rw [hold b e]; exact hs b m o' hb
  · subst e; exact hn _ hg
  · by_cases e : b = g
    · subst e; rw [hg] at h1; cases h1
    · rw [View.set_ne _ _ _ e] at h2; exact absurd h1 h2
  · rw [View.set_ne]
    · exact hb
    · intro e; subst e; rw [hg] at hb; cases hb
  · by_cases e : b = g
    · subst e; exact ⟨_, View.set_same _ _ _ _⟩
    · rw [View.set_ne _ _ _ e]; exact ⟨o', hb⟩
theorem AfterV.store {g i : Nat} {c : Array Value} {t : TypeId} {f : Nat × Nat} {u : Value} (hs : Sat V w) (hl : Low n w) (hg : V g = some (true, .cells c t f))
    (he : ∀ e ∈ (execOp a.eval o).events P w #[], e.loc = .mark .noRoom ∨ ∃ ad, e.loc = .cell ad ∧ e.sync = false ∧ ad.block = g) (h : next (V.set g true (.cells (c.setIfInBounds i u) t f))) : AfterV n P V w o a (w.setCell ⟨g, i, none⟩ u) next := by
  refine AfterV.write hs hl hg (Kept.setCell w _ _) ?_ he h
  have hg2 := hs _ _ _ hg
  have hlt : g < w.heap.size := (Array.getElem?_eq_some_iff.1 hg2).1
  apply Array.ext_getElem?
  intro b
  simp only [World.setCell, Array.getElem?_modify]
  by_cases e : g = b
  · subst e; rw [if_pos rfl, hg2, Array.getElem?_setIfInBounds_self_of_lt hlt]; rfl
  · rw [if_neg e, Array.getElem?_setIfInBounds_ne e]
theorem ev_of_nil {es : Array Event} (h : es = #[]) {p : Event → Prop} : ∀ e ∈ es, p e := fun e he => by rw [h] at he; simp at he
theorem ev_of_one {es : Array Event} {x : Event} (h : es = #[x]) {p : Event → Prop} (hp : p x) : ∀ e ∈ es, p e := fun e he => by
  rw [h] at he
  have : e = x := by simpa using he
  rw [this]; exact hp
end
def VExt (V V' : View) : Prop := ∀ b r, V b = some r → V' b = some r
theorem VExt.refl (V : View) : VExt V V := fun _ _ h => h
theorem VExt.trans {V V' V'' : View} (h : VExt V V') (k : VExt V' V'') : VExt V V'' := fun b r x => k b r (h b r x)
theorem VExt.new {V : View} {b : Nat} {m : Bool} {o : Obj} (h : V b = none) : VExt V (V.set b m o) := fun c r x => by
  rw [View.set_ne]
  · exact x
  · intro e; subst e; rw [h] at x; cases x
theorem VExt.set {V0 V : View} {b : Nat} {m : Bool} {o : Obj} (h : VExt V0 V) (hb : V0 b = none) : VExt V0 (V.set b m o) := fun c r x => by
  rw [View.set_ne]
  · exact h c r x
  · intro e; subst e; rw [hb] at x; cases x
def VOnly (g : Nat) (V V' : View) : Prop := ∀ b r, b ≠ g → V b = some r → V' b = some r
theorem VOnly.refl (g : Nat) (V : View) : VOnly g V V := fun _ _ _ h => h
theorem VOnly.trans {g : Nat} {V V' V'' : View} (h : VOnly g V V') (k : VOnly g V' V'') : VOnly g V V'' := fun b r hb x => k b r hb (h b r hb x)
theorem VExt.only {g : Nat} {V V' : View} (h : VExt V V') : VOnly g V V' := fun b r _ x => h b r x
theorem VOnly.set {g : Nat} {V0 V : View} {m : Bool} {o : Obj} (h : VOnly g V0 V) : VOnly g V0 (V.set g m o) := fun c r hc x => by
  rw [View.set_ne _ _ _ hc]; exact h c r hc x
end Go.Co
end
section
namespace Go.Co
open Go.Conc
set_option linter.unusedVariables false
set_option linter.unusedSimpArgs false
def InB (g : Nat) (wr : Bool) (es : Array Event) : Prop := ∀ e ∈ es, ∃ ad : Addr, e.loc = .cell ad ∧ e.sync = false ∧ ad.block = g ∧ (e.write = true → wr = true)
theorem InB.nil {g : Nat} {wr : Bool} : InB g wr #[] := fun e h => by simp at h
theorem InB.push {g : Nat} {wr : Bool} {es : Array Event} (h : InB g wr es) {ad : Addr} {x : Bool} (ha : ad.block = g) (hx : x = true → wr = true) : InB g wr (es.push ⟨.cell ad, x, false⟩) := fun e he => by
  rcases Array.mem_push.1 he with he | rfl
  · exact h e he
  · exact ⟨ad, rfl, rfl, ha, hx⟩
theorem add_block (a : Addr) (j : Nat) : (a.add j).block = a.block := by unfold Addr.add; split <;> rfl
section
variable {P : Program}
theorem loadCells_ev {a : Addr} {w : World} {c : Array Value} {t : TypeId} {f : Nat × Nat} (hb : w.heap[a.block]? = some (.cells c t f)) : ∀ (m i : Nat) (acc : Array Value) (es : Array Event), InB a.block false es → InB a.block false ((loadCellsFrom a i m acc).runT P w es).2
  | 0, i, acc, es, h => by simpa [loadCellsFrom, Sem.runT, pure] using h
  | m + 1, i, acc, es, h => by
    have e0 : (loadCellsFrom a i (m + 1) acc).runT P w es = (Sem.load .plain (a.add i) fun v => loadCellsFrom a (i + 1) m (acc.push v)).runT P w es := rfl
    rw [e0]
    simp only [Sem.runT]
    cases hc : w.cell? (a.add i) with
    | some v => exact loadCells_ev hb m (i + 1) (acc.push v) _ (h.push (add_block a i) (fun h => by cases h))
    | none =>
      have : w.farLoad P (a.add i) (Mode.plain == .atomic) = .error (w.noCell (a.add i) "load: no such cell") := by
        unfold World.farLoad
        rw [add_block, hb]
      simp only [this]
      exact h
theorem storeCells_ev {a : Addr} : ∀ (vs : List Value) (j : Nat) (w : World) (es : Array Event), (∃ c t f, w.heap[a.block]? = some (.cells c t f)) → InB a.block true es → InB a.block true ((storeCells a vs j).runT P w es).2
  | [], j, w, es, _, h => by simpa [storeCells, Sem.runT, pure] using h
  | v :: vs, j, w, es, ⟨c, t, f, hb⟩, h => by
    have e0 : (storeCells a (v :: vs) j).runT P w es = (Sem.store .plain (a.add j) v (storeCells a vs (j + 1))).runT P w es := rfl
    rw [e0]
    have key : ∀ v : Value, (∀ cs, v ≠ .agg cs) → (∀ cs, v ≠ .tuple cs) → InB a.block true ((Sem.store .plain (a.add j) v (storeCells a vs (j + 1))).runT P w es).2 := by
      intro v hv1 hv2
      have e1 : (Sem.store .plain (a.add j) v (storeCells a vs (j + 1))).runT P w es = (match w.cell? (a.add j) with
          | some _ =>
            if w.frozen? (a.add j) then (.halt (.unsupported (.unsafePointer "a write to bytes that a string shares")) w, es)
            else (storeCells a vs (j + 1)).runT P (w.setCell (a.add j) v) (es.push ⟨.cell (a.add j), true, Mode.plain == .atomic⟩)
          | none => match w.farStore P (a.add j) v (Mode.plain == .atomic) with
            | .ok (w, touched) => (storeCells a vs (j + 1)).runT P w (es ++ touched.toArray.map (⟨.cell ·, true, Mode.plain == .atomic⟩))
            | .error h => (.halt h w, es)) := by
        cases v <;> first | rfl | exact absurd rfl (hv1 _) | exact absurd rfl (hv2 _)
      rw [e1]
      cases hc : w.cell? (a.add j) with
      | some u =>
        simp only
        split
        · exact h
        · have hb2 : ∃ c t f, (w.setCell (a.add j) v).heap[a.block]? = some (.cells c t f) := by
            unfold World.setCell
            simp only [Array.getElem?_modify, add_block, if_true, hb]
            exact ⟨_, _, _, rfl⟩
          exact storeCells_ev vs (j + 1) (w.setCell (a.add j) v) _ hb2 (h.push (add_block a j) (fun _ => rfl))
      | none =>
        have : w.farStore P (a.add j) v (Mode.plain == .atomic) = .error (w.noCell (a.add j) "store: no such cell") := by
          unfold World.farStore
          rw [add_block, hb]
        simp only [this]
        exact h
    by_cases h1 : ∃ cs, v = .agg cs
    · obtain ⟨cs, rfl⟩ := h1
      exact h
    · by_cases h2 : ∃ cs, v = .tuple cs
      · obtain ⟨cs, rfl⟩ := h2
        exact h
      · exact key v (fun cs e => h1 ⟨cs, e⟩) (fun cs e => h2 ⟨cs, e⟩)
theorem sizeOf_ev (t : TypeId) (w : World) (es : Array Event) : ((sizeOf t).runT P w es).2 = es ∧ Rworld ((sizeOf t).runT P w es).1 = w := by
  have : sizeOf t = Sem.program fun p => Sem.bind (match p.info? t with | some i => (Sem.pure i : Sem TypeInfo) | none => stuck "no such type") fun ti => Sem.pure ti.size := rfl
  rw [this]
  simp only [Sem.runT]
  cases P.info? t <;> exact ⟨rfl, rfl⟩
theorem isAgg_ev (t : TypeId) (w : World) (es : Array Event) : ((isAgg t).runT P w es).2 = es ∧ Rworld ((isAgg t).runT P w es).1 = w := by
  have : isAgg t = Sem.program fun p => Sem.bind (match p.underlying t with | some d => (Sem.pure d : Sem TypeDesc) | none => stuck "no such type") fun d => (match d with | .struct _ | .array _ _ => Sem.pure true | _ => Sem.pure false) := by
    unfold isAgg underlying
    rfl
  rw [this]
  simp only [Sem.runT]
  cases P.underlying t with
  | none => exact ⟨rfl, rfl⟩
  | some d => cases d <;> exact ⟨rfl, rfl⟩
theorem loadVar_ev {t : TypeId} {a : Addr} {w : World} {c : Array Value} {e : TypeId} {f : Nat × Nat} (hb : w.heap[a.block]? = some (.cells c e f)) : InB a.block false ((loadVar t a).runT P w #[]).2 := by
  have e0 : loadVar t a = Sem.bind (isAgg t) fun b => if b = true then Sem.bind (sizeOf t) (fun m => Sem.bind (loadCells a m) fun cs => Sem.pure (.agg cs)) else load a := rfl
  rw [e0, Sem.runT_bind']
  obtain ⟨h1, h2⟩ := isAgg_ev (P := P) t w #[]
  generalize (isAgg t).runT P w #[] = r at h1 h2
  obtain ⟨r1, r2⟩ := r
  simp only at h1 h2
  subst h1
  cases r1 with
  | halt h w' => exact InB.nil
  | ok b w' =>
    simp only [Rworld] at h2
    subst h2
    cases b with
    | false =>
      simp only [Bool.false_eq_true, if_false]
      have := loadCells_ev (P := P) (a := a) hb 1 0 #[] #[] InB.nil
      have e1 : (load a).runT P w' #[] = (Sem.load .plain a Sem.pure).runT P w' #[] := rfl
      rw [e1]
      simp only [Sem.runT]
      cases hc : w'.cell? a with
      | some v => exact InB.nil.push rfl (fun h => by cases h)
      | none =>
        have : w'.farLoad P a (Mode.plain == .atomic) = .error (w'.noCell a "load: no such cell") := by
          unfold World.farLoad
          rw [hb]
        simp only [this]
        exact InB.nil
    | true =>
      simp only [if_true]
      rw [Sem.runT_bind']
      obtain ⟨h3, h4⟩ := sizeOf_ev (P := P) t w' #[]
      generalize (sizeOf t).runT P w' #[] = r at h3 h4
      obtain ⟨r1, r2⟩ := r
      simp only at h3 h4
      subst h3
      cases r1 with
      | halt h w2 => exact InB.nil
      | ok m w2 =>
        simp only [Rworld] at h4
        subst h4
        simp only
        rw [Sem.runT_bind']
        have h5 := loadCells_ev (P := P) (a := a) hb m 0 #[] #[] InB.nil
        have e2 : (loadCells a m).runT P w2 #[] = (loadCellsFrom a 0 m #[]).runT P w2 #[] := rfl
        rw [e2]
        generalize (loadCellsFrom a 0 m #[]).runT P w2 #[] = r at h5
        obtain ⟨r1, r2⟩ := r
        cases r1 <;> exact h5
theorem storeVar_ev {t : TypeId} {a : Addr} {v : Value} {w : World} (hb : ∃ c e f, w.heap[a.block]? = some (.cells c e f)) : InB a.block true ((storeVar t a v).runT P w #[]).2 := by
  have e1 : storeVar t a v = Sem.bind (sizeOf t) (fun n => if v.cells.size ≠ n then Sem.bind (stuck "storeVar: the value has not the size of the variable" : Sem Unit) (fun _ => storeCells a v.cells.toList) else storeCells a v.cells.toList) := rfl
  rw [e1, Sem.runT_bind']
  obtain ⟨h3, h4⟩ := sizeOf_ev (P := P) t w #[]
  generalize (sizeOf t).runT P w #[] = r at h3 h4
  obtain ⟨r1, r2⟩ := r
  simp only at h3 h4
  subst h3
  cases r1 with
  | halt h w2 => exact InB.nil
  | ok m w2 =>
    simp only [Rworld] at h4
    subst h4
    simp only
    split
    · exact InB.nil
    · exact storeCells_ev v.cells.toList 0 w2 #[] hb InB.nil
theorem zeroValue_ev (t : TypeId) (w : World) (es : Array Event) : ((zeroValue t).runT P w es).2 = es := by
  have : zeroValue t = Sem.program fun p => Sem.bind (match p.info? t with | some i => (Sem.pure i : Sem TypeInfo) | none => stuck "no such type") fun ti => match ti.zero with | some v => Sem.pure v | none => unsupported (.resourceLimit "a value of more than 2^22 cells") := by
    unfold zeroValue typeInfo
    rfl
  rw [this]
  simp only [Sem.runT]
  cases P.info? t with
  | none => rfl
  | some i =>
    obtain ⟨⟩ := i
    rename_i z _ _ _ _
    simp only [Sem.bind]
    split <;> rfl
theorem events_bind_pure {α β : Type} (s : Sem α) (f : α → β) (w : World) (es : Array Event) : ((Sem.bind s fun v => Sem.pure (f v)).runT P w es).2 = (s.runT P w es).2 := by
  rw [Sem.runT_bind']
  generalize s.runT P w es = r
  obtain ⟨r1, r2⟩ := r
  cases r1 <;> rfl
end
section
variable {n : Nat} {P : Program} {main : Bool} {Z : View → Frame → List Frame → Prop} {Q : Exit → Act → View → Prop} {a : Act} {V : View} {ops : Array Oper} {j : Nat} {rest : List Nat} {o : Oper}
theorem opsV_load (hZ : OwnV n P main Z) (ho : ops[j]? = some o) (hw : Region.wanted o (yielded ops a.tmps) = true) {t : TypeId} {x : Operand} (hop : o.op = .load t x) {A : Addr} (hx : a.eval x = .pointer (some A))
    {m : Bool} {c : Array Value} {e : TypeId} {f : Nat × Nat} (hV : V A.block = some (m, .cells c e f)) {v : Value} (hr : ∀ w : World, w.heap[A.block]? = some (.cells c e f) → (loadVar t A).run P w = .ok v w)
    (h : opsV Z ops rest Q (a.put o.dst v) V) : opsV Z ops (j :: rest) Q a V :=
  opsV_k hZ ho hw fun w hs hl K hK => by
    have hb := hs _ _ _ hV
    have e0 : execOp a.eval o = Sem.bind (loadVar t A) fun v => Sem.pure (Next.value v) := by
      obtain ⟨dst, op, ty, ps, af, gd⟩ := o
      simp only at hop
      subst hop
      show Sem.bind (Instr.loadAt t (a.eval x)) _ = _
      rw [hx]
      rfl
    have e1 : (execOp a.eval o).run P w = .ok (.value v) w := by rw [e0, show (Sem.bind (loadVar t A) fun v => Sem.pure (Next.value v)) = (do let v ← loadVar t A; pure (.value v) : Sem Next) from rfl, Sem.run_bind, hr w hb]; rfl
    rw [e1]
    refine hK _ _ (AfterV.read hs hl (fun ev hev => ?_) h)
    unfold Sem.events at hev
    rw [e0, events_bind_pure] at hev
    obtain ⟨ad, h1, h2, h3, h4⟩ := loadVar_ev (P := P) (t := t) hb ev hev
    exact .inr ⟨ad, m, _, h1, h2, by rw [h3]; exact hV, fun hwr => by have := h4 hwr; cases this⟩
theorem opsV_store (hZ : OwnV n P main Z) (ho : ops[j]? = some o) (hw : Region.wanted o (yielded ops a.tmps) = true) {t : TypeId} {x y : Operand} (hop : o.op = .store t x y) {A : Addr} (hx : a.eval x = .pointer (some A)) {u : Value} (hy : a.eval y = u)
    {c c' : Array Value} {e : TypeId} {f : Nat × Nat} (hV : V A.block = some (true, .cells c e f)) (hr : ∀ w : World, w.heap[A.block]? = some (.cells c e f) → ∃ w' : World, (storeVar t A u).run P w = .ok () w' ∧ Kept w w' ∧ w'.heap = w.heap.setIfInBounds A.block (.cells c' e f))
    (h : opsV Z ops rest Q (a.put o.dst undef) (V.set A.block true (.cells c' e f))) : opsV Z ops (j :: rest) Q a V :=
  opsV_k hZ ho hw fun w hs hl K hK => by
    have hb := hs _ _ _ hV
    obtain ⟨w', r1, r2, r3⟩ := hr w hb
    have e0 : execOp a.eval o = Sem.bind (storeVar t A u) fun _ => Sem.pure Next.skip := by
      obtain ⟨dst, op, ty, ps, af, gd⟩ := o
      simp only at hop
      subst hop
      show Sem.bind (Instr.storeAt t (a.eval x) (a.eval y)) _ = _
      rw [hx, hy]
      rfl
    have e1 : (execOp a.eval o).run P w = .ok .skip w' := by rw [e0, show (Sem.bind (storeVar t A u) fun _ => Sem.pure Next.skip) = (do storeVar t A u; pure .skip : Sem Next) from rfl, Sem.run_bind, r1]; rfl
    rw [e1]
    refine hK _ _ (AfterV.write hs hl hV r2 r3 (fun ev hev => ?_) h)
    unfold Sem.events at hev
    rw [e0, events_bind_pure] at hev
    obtain ⟨ad, h1, h2, h3, h4⟩ := storeVar_ev (P := P) (t := t) (v := u) ⟨_, _, _, hb⟩ ev hev
    exact .inr ⟨ad, h1, h2, h3⟩
theorem opsV_alloc (hZ : OwnV n P main Z) (ho : ops[j]? = some o) (hw : Region.wanted o (yielded ops a.tmps) = true) {t : TypeId} (hop : o.op = .alloc t) {z : Value} (hz : ∀ w, (zeroValue t).run P w = .ok z w)
    (h : ∀ g, V g = none → opsV Z ops rest Q (a.put o.dst (.pointer (some ⟨g, 0, none⟩))) (V.set g true (.cells z.cells t (0, 0)))) : opsV Z ops (j :: rest) Q a V :=
  opsV_k hZ ho hw fun w hs hl K hK => by
    have e0 : execOp a.eval o = (do pure (.value (← Instr.alloc t true (.tuple #[]))) : Sem Next) := by
      obtain ⟨dst, op, ty, ps, af, gd⟩ := o
      simp only at hop
      subst hop
      rfl
    have e1 : (execOp a.eval o).run P w = .ok (.value (.pointer (some ⟨w.heap.size, 0, none⟩))) (w.alloc (.cells z.cells t)) := by
      rw [e0]
      simp only [Instr.alloc, newVar, newRow, newObj, Sem.run_bind, Sem.run_pure, hz, Result.andThen_ok]
      rfl
    rw [e1]
    refine hK _ _ (AfterV.alloc hs hl (fun ev hev => ?_) (h w.heap.size (hs.none (Nat.le_refl _))))
    unfold Sem.events at hev
    rw [e0] at hev
    have e2 : ((do pure (.value (← Instr.alloc t true (.tuple #[]))) : Sem Next).runT P w #[]).2 = #[] := by
      show ((Sem.bind (Instr.alloc t true (.tuple #[])) fun v => Sem.pure (Next.value v)).runT P w #[]).2 = _
      rw [events_bind_pure]
      show ((Sem.bind (zeroValue t) fun zero => Sem.bind (newVar t zero) fun ad => Sem.pure (Value.pointer (some ad))).runT P w #[]).2 = _
      rw [Sem.runT_bind']
      have h1 := zeroValue_ev (P := P) t w #[]
      generalize (zeroValue t).runT P w #[] = r at h1
      obtain ⟨r1, r2⟩ := r
      simp only at h1
      subst h1
      cases r1 <;> rfl
    rw [e2] at hev; simp at hev
theorem opsV_box (hZ : OwnV n P main Z) (ho : ops[j]? = some o) (hw : Region.wanted o (yielded ops a.tmps) = true) {t : TypeId} {x : Operand} (hop : o.op = .box t x)
    (h : ∀ g, V g = none → opsV Z ops rest Q (a.put o.dst (.pointer (some ⟨g, 0, none⟩))) (V.set g true (.cells (a.eval x).cells t (0, 0)))) : opsV Z ops (j :: rest) Q a V :=
  opsV_k hZ ho hw fun w hs hl K hK => by
    have e0 : execOp a.eval o = (do pure (.value (← Instr.box t (a.eval x))) : Sem Next) := by
      obtain ⟨dst, op, ty, ps, af, gd⟩ := o
      simp only at hop
      subst hop
      rfl
    have e1 : (execOp a.eval o).run P w = .ok (.value (.pointer (some ⟨w.heap.size, 0, none⟩))) (w.alloc (.cells (a.eval x).cells t)) := by
      rw [e0]
      simp only [Instr.box, newVar, newRow, newObj, Sem.run_bind, Sem.run_pure, Result.andThen_ok]
      rfl
    rw [e1]
    refine hK _ _ (AfterV.alloc hs hl (fun ev hev => ?_) (h w.heap.size (hs.none (Nat.le_refl _))))
    unfold Sem.events at hev
    rw [e0] at hev
    have e2 : ((do pure (.value (← Instr.box t (a.eval x))) : Sem Next).runT P w #[]).2 = #[] := rfl
    rw [e2] at hev; simp at hev
end
end Go.Co
end
section
namespace Go.Co
open Go.Conc
set_option linter.unusedVariables false
set_option linter.unusedSimpArgs false
section
variable {P : Program}
theorem run_loadVar_one {t : TypeId} (ha : ∀ w, (isAgg t).run P w = .ok false w) {A : Addr} {v : Value} {w : World} (hc : w.cell? A = some v) : (loadVar t A).run P w = .ok v w := by
  unfold loadVar
  rw [Sem.run_bind, ha]
  simp only [Result.andThen_ok, Bool.false_eq_true, if_false]
  show (Sem.load .plain A Sem.pure).run P w = _
  simp only [Sem.run, hc]
theorem run_loadVar_row {t : TypeId} (ha : ∀ w, (isAgg t).run P w = .ok true w) {g : Nat} {c : Array Value} {e : TypeId} {f : Nat × Nat} (hs : ∀ w, (sizeOf t).run P w = .ok c.size w) {w : World} (hb : w.heap[g]? = some (.cells c e f)) : (loadVar t ⟨g, 0, none⟩).run P w = .ok (.agg c) w := by
  unfold loadVar
  rw [Sem.run_bind, ha]
  simp only [Result.andThen_ok, if_true]
  rw [Sem.run_bind, hs]
  simp only [Result.andThen_ok]
  have := run_loadCells_list (P := P) w ⟨g, 0, none⟩ c.toList (fun j v hj => by
    have e1 : (⟨g, 0, none⟩ : Addr).add j = ⟨g, j, none⟩ := by unfold Addr.add; split <;> simp_all
    rw [e1]
    simp only [World.cell?, hb]
    simpa using hj)
  rw [Array.length_toList] at this
  rw [Sem.run_bind, this]
  rfl
theorem oneCell_cells {v : Value} (h : v.oneCell' = true) : v.cells = #[v] := by cases v <;> first | rfl | cases h
theorem run_storeVar_one {t : TypeId} (hs : ∀ w, (sizeOf t).run P w = .ok 1 w) {g i : Nat} {v : Value} (hv : v.oneCell' = true) {c : Array Value} {e : TypeId} {w : World} (hb : w.heap[g]? = some (.cells c e (0, 0))) (hi : i < c.size) :
    ∃ w' : World, (storeVar t ⟨g, i, none⟩ v).run P w = .ok () w' ∧ Kept w w' ∧ w'.heap = w.heap.setIfInBounds g (.cells (c.setIfInBounds i v) e (0, 0)) := by
  have hcv := oneCell_cells hv
  have hlt : g < w.heap.size := (Array.getElem?_eq_some_iff.1 hb).1
  refine ⟨w.setCell ⟨g, i, none⟩ v, ?_, Kept.setCell w _ _, ?_⟩
  · unfold storeVar
    rw [Sem.run_bind, hs]
    simp only [Result.andThen_ok, hcv]
    have e1 : (⟨g, i, none⟩ : Addr).add 0 = ⟨g, i, none⟩ := by unfold Addr.add; rfl
    have hc : w.cell? ⟨g, i, none⟩ = some c[i] := by simp [World.cell?, hb, hi]
    have hf : w.frozen? ⟨g, i, none⟩ = false := by simp [World.frozen?, hb]
    simp only [List.size_toArray, List.length_cons, List.length_nil, ne_eq, not_true_eq_false, if_false]
    show (Sem.store .plain ((⟨g, i, none⟩ : Addr).add 0) v (Sem.pure ())).run P w = _
    rw [e1]
    cases v <;> first | (cases hv; done) | (simp only [Sem.run, hc, hf, Bool.false_eq_true, if_false])
  · apply Array.ext_getElem?
    intro b
    simp only [World.setCell, Array.getElem?_modify]
    by_cases e : g = b
    · subst e; rw [if_pos rfl, hb, Array.getElem?_setIfInBounds_self_of_lt hlt]; rfl
    · rw [if_neg e, Array.getElem?_setIfInBounds_ne e]
theorem run_storeVar_row {t : TypeId} {g : Nat} {c c' : Array Value} {e : TypeId} (hs : ∀ w, (sizeOf t).run P w = .ok c'.size w) (hsz : c.size = c'.size) (h1 : ∀ v ∈ c'.toList, v.oneCell' = true) {w : World} (hb : w.heap[g]? = some (.cells c e (0, 0))) :
    ∃ w' : World, (storeVar t ⟨g, 0, none⟩ (.agg c')).run P w = .ok () w' ∧ Kept w w' ∧ w'.heap = w.heap.setIfInBounds g (.cells c' e (0, 0)) := by
  have hlt : g < w.heap.size := (Array.getElem?_eq_some_iff.1 hb).1
  have hst := run_storeCells_at (P := P) g 0 e c'.toList 0 c w hb (by simp [hsz]) h1
  have e2 : (c.toList.take (0 + 0) ++ c'.toList ++ c.toList.drop (0 + 0 + c'.toList.length)).toArray = c' := by
    have : c.toList.drop (0 + 0 + c'.toList.length) = [] := List.drop_eq_nil_of_le (by simp [hsz])
    rw [this]; simp
  rw [e2] at hst
  refine ⟨w.setRow g c', ?_, ⟨rfl, rfl, rfl, by simp [World.setRow]⟩, ?_⟩
  · unfold storeVar
    rw [Sem.run_bind, hs]
    simp only [Result.andThen_ok, Value.cells, ne_eq, not_true_eq_false, if_false]
    exact hst
  · apply Array.ext_getElem?
    intro b
    simp only [World.setRow, Array.getElem?_modify]
    by_cases e : g = b
    · subst e; rw [if_pos rfl, hb, Array.getElem?_setIfInBounds_self_of_lt hlt]; rfl
    · rw [if_neg e, Array.getElem?_setIfInBounds_ne e]
end
section
variable {n : Nat} {P : Program} {main : Bool} {Z : View → Frame → List Frame → Prop} {Q : Exit → Act → View → Prop} {a : Act} {V : View} {ops : Array Oper} {j : Nat} {rest : List Nat} {o : Oper}
theorem opsV_load1 (hZ : OwnV n P main Z) (ho : ops[j]? = some o) (hw : Region.wanted o (yielded ops a.tmps) = true) {t : TypeId} {x : Operand} (hop : o.op = .load t x) {g i : Nat} (hx : a.eval x = .pointer (some ⟨g, i, none⟩)) (ha : ∀ w, (isAgg t).run P w = .ok false w)
    {m : Bool} {c : Array Value} {e : TypeId} {f : Nat × Nat} (hV : V g = some (m, .cells c e f)) {v : Value} (hc : c[i]? = some v)
    (h : opsV Z ops rest Q (a.put o.dst v) V) : opsV Z ops (j :: rest) Q a V :=
  opsV_load hZ ho hw hop hx hV (fun w hb => run_loadVar_one ha (by simp only [World.cell?]; rw [show w.heap[(⟨g, i, none⟩ : Addr).block]? = _ from hb]; exact hc)) h
theorem opsV_store1 (hZ : OwnV n P main Z) (ho : ops[j]? = some o) (hw : Region.wanted o (yielded ops a.tmps) = true) {t : TypeId} {x y : Operand} (hop : o.op = .store t x y) {g i : Nat} (hx : a.eval x = .pointer (some ⟨g, i, none⟩)) {u : Value} (hy : a.eval y = u) (hs : ∀ w, (sizeOf t).run P w = .ok 1 w) (hu : u.oneCell' = true)
    {c : Array Value} {e : TypeId} (hV : V g = some (true, .cells c e (0, 0))) (hi : i < c.size)
    (h : opsV Z ops rest Q (a.put o.dst undef) (V.set g true (.cells (c.setIfInBounds i u) e (0, 0)))) : opsV Z ops (j :: rest) Q a V :=
  opsV_store hZ ho hw hop hx hy hV (fun w hb => run_storeVar_one hs hu hb hi) h
theorem opsV_pure (hZ : OwnV n P main Z) (ho : ops[j]? = some o) (hw : Region.wanted o (yielded ops a.tmps) = true) {v : Value} (hr : ∀ w, (execOp a.eval o).runT P w #[] = (.ok (.value v) w, #[])) (h : opsV Z ops rest Q (a.put o.dst v) V) : opsV Z ops (j :: rest) Q a V :=
  opsV_k hZ ho hw fun w hs hl K hK => by
    have e1 : (execOp a.eval o).run P w = .ok (.value v) w := by rw [← Sem.runT_fst (es := #[]), hr]
    rw [e1]
    exact hK _ _ (.quiet hs hl (by unfold Sem.events; rw [hr]) h)
variable {S : View → Prop}
theorem YieldsV.still {v : Value} (hw : Region.wanted o (yielded ops a.tmps) = true) (hr : ∀ w, (execOp a.eval o).runT P w #[] = (.ok (.value v) w, #[])) : YieldsV P ops S o v a :=
  .inl ⟨hw, fun V w _ _ => ⟨by rw [← Sem.runT_fst (es := #[]), hr], by unfold Sem.events; rw [hr]; exact EvV.nil⟩⟩
theorem YieldsV.load {t : TypeId} {x : Operand} (hw : Region.wanted o (yielded ops a.tmps) = true) (hop : o.op = .load t x) {A : Addr} (hx : a.eval x = .pointer (some A)) {m : Bool} {c : Array Value} {e : TypeId} {f : Nat × Nat} (hV : ∀ V, S V → V A.block = some (m, .cells c e f)) {v : Value}
    (hr : ∀ w : World, w.heap[A.block]? = some (.cells c e f) → (loadVar t A).run P w = .ok v w) : YieldsV P ops S o v a :=
  .inl ⟨hw, fun V w hS hs => by
    have hb := hs _ _ _ (hV V hS)
    have e0 : execOp a.eval o = Sem.bind (loadVar t A) fun v => Sem.pure (Next.value v) := by
      obtain ⟨dst, op, ty, ps, af, gd⟩ := o
      simp only at hop
      subst hop
      show Sem.bind (Instr.loadAt t (a.eval x)) _ = _
      rw [hx]
      rfl
    refine ⟨by rw [e0, show (Sem.bind (loadVar t A) fun v => Sem.pure (Next.value v)) = (do let v ← loadVar t A; pure (.value v) : Sem Next) from rfl, Sem.run_bind, hr w hb]; rfl, fun ev hev => ?_⟩
    unfold Sem.events at hev
    rw [e0, events_bind_pure] at hev
    obtain ⟨ad, h1, h2, h3, h4⟩ := loadVar_ev (P := P) (t := t) hb ev hev
    exact .inr ⟨ad, m, _, h1, h2, by rw [h3]; exact hV V hS, fun hwr => by have := h4 hwr; cases this⟩⟩
theorem YieldsV.load1 {t : TypeId} {x : Operand} (hw : Region.wanted o (yielded ops a.tmps) = true) (hop : o.op = .load t x) {g i : Nat} (hx : a.eval x = .pointer (some ⟨g, i, none⟩)) (ha : ∀ w, (isAgg t).run P w = .ok false w) {m : Bool} {c : Array Value} {e : TypeId} {f : Nat × Nat} (hV : ∀ V, S V → V g = some (m, .cells c e f)) {v : Value}
    (hc : c[i]? = some v) : YieldsV P ops S o v a :=
  YieldsV.load hw hop hx hV fun w hb => run_loadVar_one ha (by simp only [World.cell?]; rw [show w.heap[(⟨g, i, none⟩ : Addr).block]? = _ from hb]; exact hc)
theorem OpV.store (hj : ops[j]? = some o) (hw : Region.wanted o (yielded ops a.tmps) = true) {t : TypeId} {x y : Operand} (hop : o.op = .store t x y) {A : Addr} (hx : a.eval x = .pointer (some A)) {u : Value} (hy : a.eval y = u)
    {c c' : Array Value} {e : TypeId} {f : Nat × Nat} (hV : V A.block = some (true, .cells c e f)) (hr : ∀ w : World, w.heap[A.block]? = some (.cells c e f) → ∃ w' : World, (storeVar t A u).run P w = .ok () w' ∧ Kept w w' ∧ w'.heap = w.heap.setIfInBounds A.block (.cells c' e f))
    {K : Act → View → Prop} (h : K (a.put o.dst undef) (V.set A.block true (.cells c' e f))) : OpV n P ops j K a V := by
  unfold OpV
  simp only [hj, hw, if_true]
  intro w hs hl
  have hb := hs _ _ _ hV
  obtain ⟨w', r1, r2, r3⟩ := hr w hb
  have e0 : execOp a.eval o = Sem.bind (storeVar t A u) fun _ => Sem.pure Next.skip := by
    obtain ⟨dst, op, ty, ps, af, gd⟩ := o
    simp only at hop
    subst hop
    show Sem.bind (Instr.storeAt t (a.eval x) (a.eval y)) _ = _
    rw [hx, hy]
    rfl
  have e1 : (execOp a.eval o).run P w = .ok .skip w' := by rw [e0, show (Sem.bind (storeVar t A u) fun _ => Sem.pure Next.skip) = (do storeVar t A u; pure .skip : Sem Next) from rfl, Sem.run_bind, r1]; rfl
  rw [e1]
  refine AfterV.write hs hl hV r2 r3 (fun ev hev => ?_) h
  unfold Sem.events at hev
  rw [e0, events_bind_pure] at hev
  obtain ⟨ad, h1, h2, h3, h4⟩ := storeVar_ev (P := P) (t := t) (v := u) ⟨_, _, _, hb⟩ ev hev
  exact .inr ⟨ad, h1, h2, h3⟩
end
theorem View.set_self {V : View} {b : Nat} {m : Bool} {o : Obj} (h : V b = some (m, o)) : V.set b m o = V := by
  funext c
  by_cases e : c = b
  · subst e; rw [View.set_same, h]
  · rw [View.set_ne _ _ _ e]
end Go.Co
end
section
namespace Go.Co
open Go.Conc
set_option linter.unusedVariables false
set_option linter.unusedSimpArgs false
section
variable {P : Program}
theorem runT_app {α : Type} (s : Sem α) : ∀ (w : World) (es us : Array Event), s.runT P w (es ++ us) = ((s.runT P w us).1, es ++ (s.runT P w us).2) := by
  induction s with
  | pure a => intro w es us; rfl
  | load m a k ih =>
    intro w es us
    simp only [Sem.runT]
    cases w.cell? a with
    | some v => simp only [← Array.append_push]; exact ih v w es _
    | none =>
      cases w.farLoad P a (m == .atomic) with
      | error h => rfl
      | ok r => simp only [Array.append_assoc]; exact ih r.1 w es _
  | store m a v k ih =>
    intro w es us
    have key : (∀ cs, v ≠ .agg cs) → (∀ cs, v ≠ .tuple cs) → (Sem.store m a v k).runT P w (es ++ us) = (((Sem.store m a v k).runT P w us).1, es ++ ((Sem.store m a v k).runT P w us).2) := by
      intro h1 h2
      have e1 : ∀ es : Array Event, (Sem.store m a v k).runT P w es = (match w.cell? a with
          | some _ =>
            if w.frozen? a then (.halt (.unsupported (.unsafePointer "a write to bytes that a string shares")) w, es)
            else k.runT P (w.setCell a v) (es.push ⟨.cell a, true, m == .atomic⟩)
          | none => match w.farStore P a v (m == .atomic) with
            | .ok (w, touched) => k.runT P w (es ++ touched.toArray.map (⟨.cell ·, true, m == .atomic⟩))
            | .error h => (.halt h w, es)) := by
        intro es
        cases v <;> first | rfl | exact absurd rfl (h1 _) | exact absurd rfl (h2 _)
      rw [e1, e1]
      cases w.cell? a with
      | some u =>
        simp only
        split
        · rfl
        · simp only [← Array.append_push]; exact ih _ es _
      | none =>
        cases w.farStore P a v (m == .atomic) with
        | error h => rfl
        | ok r => simp only [Array.append_assoc]; exact ih _ es _
    by_cases h1 : ∃ cs, v = .agg cs
    · obtain ⟨cs, rfl⟩ := h1; rfl
    · by_cases h2 : ∃ cs, v = .tuple cs
      · obtain ⟨cs, rfl⟩ := h2; rfl
      · exact key (fun cs e => h1 ⟨cs, e⟩) (fun cs e => h2 ⟨cs, e⟩)
  | new o k ih => intro w es us; exact ih _ _ _ _
  | shape r k ih => intro w es us; exact ih _ _ _ _
  | freeze a n k ih => intro w es us; exact ih _ _ _
  | frozen a k ih => intro w es us; exact ih _ _ _ _
  | getObj r k ih =>
    intro w es us
    simp only [Sem.runT]
    split
    · rfl
    · simp only [← Array.append_push]; exact ih _ w es _
    · rfl
  | setObj r o k ih =>
    intro w es us
    simp only [Sem.runT]
    split
    · rfl
    · simp only [← Array.append_push]; exact ih _ es _
    · rfl
  | choose q k ih =>
    intro w es us
    simp only [Sem.runT]
    split
    · exact ih _ _ _ _
    · exact ih _ _ _ _
  | sys c k ih => intro w es us; simp only [Sem.runT, ← Array.append_push]; exact ih _ _ _ _
  | program k ih => intro w es us; exact ih _ _ _ _
  | mark m k ih => intro w es us; simp only [Sem.runT, ← Array.append_push]; exact ih _ _ _
  | halt h => intro w es us; rfl
theorem runT_acc {α : Type} (s : Sem α) (w : World) (es : Array Event) : s.runT P w es = ((s.runT P w #[]).1, es ++ (s.runT P w #[]).2) := by
  have := runT_app (P := P) s w es #[]
  simpa using this
theorem runT_of {α : Type} {s : Sem α} {w w' : World} {r : α} (h1 : s.run P w = .ok r w') (h2 : s.events P w #[] = #[]) : s.runT P w #[] = (.ok r w', #[]) :=
  Prod.ext (by rw [Sem.runT_fst]; exact h1) h2
theorem runT_value {s : Sem Value} {w : World} {v : Value} (h : s.runT P w #[] = (.ok v w, #[])) : (do pure (.value (← s)) : Sem Next).runT P w #[] = (.ok (.value v) w, #[]) := by
  show (Sem.bind s fun v => Sem.pure (Next.value v)).runT P w #[] = _
  rw [Sem.runT_bind', h]
  rfl
theorem runT_indexA {t e : TypeId} {len : Nat} (hT : P.underlying t = some (.array len e)) (hs : ∀ w, (sizeOf e).run P w = .ok 1 w) {g j : Nat} (hj : j < len) (k : IntKind) (w : World) :
    (Instr.indexAt t (.pointer (some ⟨g, 0, none⟩)) (.int k (j : Int))).runT P w #[] = (.ok (.pointer (some ⟨g, j, none⟩)) w, #[]) := by
  refine runT_of ?_ (events_indexAt_array (P := P) t e len _ k j hT (by omega))
  have hi : (0 : Int) ≤ (j : Int) ∧ (j : Int) < (len : Int) := by omega
  simp only [Instr.indexAt, asIntOf, Instr.sureAddr, Sem.run_bind, Sem.run_pure, Result.andThen_ok, run_underlying hT, hi, and_self, if_true, hs]
  show Result.ok (Value.pointer (some (Addr.add ⟨g, 0, none⟩ _))) w = _
  simp [Addr.add]
  exact fun h => h.symm
theorem runT_indexS {t e : TypeId} (hT : P.underlying t = some (.slice e)) (he : P.elem t = e) (hs : ∀ w, (sizeOf e).run P w = .ok 1 w) {g o j len cap : Nat} (hj : j < len) (k : IntKind) (w : World) :
    (Instr.indexAt t (.slice (some ⟨g, o, none⟩) len cap) (.int k (j : Int))).runT P w #[] = (.ok (.pointer (some ⟨g, o + j, none⟩)) w, #[]) := by
  subst he
  have hi : (0 : Int) ≤ (j : Int) ∧ (j : Int) < (len : Int) := by omega
  refine runT_of ?_ (events_indexAt_slice (P := P) t _ len cap k j hT hi)
  simp only [Instr.indexAt, asIntOf, Sem.run_bind, Sem.run_pure, Result.andThen_ok, run_underlying hT, hi, and_self, if_true, hs]
  show Result.ok (Value.pointer (some (Addr.add ⟨g, o, none⟩ _))) w = _
  simp [Addr.add]
theorem execOp_indexAddr {ρ : Operand → Value} {o : Oper} {t : TypeId} {x i : Operand} (hop : o.op = .indexAddr t x i) : execOp ρ o = (do pure (.value (← Instr.indexAt t (ρ x) (ρ i))) : Sem Next) := by
  obtain ⟨dst, op, ty, ps, af, gd⟩ := o
  simp only at hop
  subst hop
  rfl
theorem runT_index_array {ρ : Operand → Value} {o : Oper} {t e : TypeId} {len : Nat} {x i : Operand} (hop : o.op = .indexAddr t x i) (hT : P.underlying t = some (.array len e)) (hs : ∀ w, (sizeOf e).run P w = .ok 1 w) {g j : Nat} {k : IntKind} {m : Int} (hx : ρ x = .pointer (some ⟨g, 0, none⟩)) (hi : ρ i = .int k m) (hm : m = j) (hj : j < len) (w : World) :
    (execOp ρ o).runT P w #[] = (.ok (.value (.pointer (some ⟨g, j, none⟩))) w, #[]) := by
  rw [execOp_indexAddr hop, hx, hi, hm]
  exact runT_value (runT_indexA hT hs hj k w)
theorem runT_index_slice {ρ : Operand → Value} {o : Oper} {t e : TypeId} {len cap : Nat} {x i : Operand} (hop : o.op = .indexAddr t x i) (hT : P.underlying t = some (.slice e)) (he : P.elem t = e) (hs : ∀ w, (sizeOf e).run P w = .ok 1 w) {g b j : Nat} {k : IntKind} {m : Int} (hx : ρ x = .slice (some ⟨g, b, none⟩) len cap) (hi : ρ i = .int k m) (hm : m = j) (hj : j < len) (w : World) :
    (execOp ρ o).runT P w #[] = (.ok (.value (.pointer (some ⟨g, b + j, none⟩))) w, #[]) := by
  rw [execOp_indexAddr hop, hx, hi, hm]
  exact runT_value (runT_indexS hT he hs hj k w)
theorem loadVar_known {V : View} {w : World} (hs : Sat V w) {t : TypeId} {a : Addr} {m : Bool} {c : Array Value} {e : TypeId} {f : Nat × Nat} (hV : V a.block = some (m, .cells c e f)) {v : Value}
    (hr : (loadVar t a).run P w = .ok v w) : ∃ es, (loadVar t a).runT P w #[] = (.ok v w, es) ∧ EvV V es := by
  refine ⟨((loadVar t a).runT P w #[]).2, Prod.ext (by rw [Sem.runT_fst]; exact hr) rfl, fun ev hev => ?_⟩
  obtain ⟨ad, h1, h2, h3, h4⟩ := loadVar_ev (P := P) (t := t) (hs _ _ _ hV) ev hev
  exact .inr ⟨ad, m, _, h1, h2, by rw [h3]; exact hV, fun hwr => by have := h4 hwr; cases this⟩
theorem EvV.app {V : View} {es us : Array Event} (h : EvV V es) (k : EvV V us) : EvV V (es ++ us) := fun e he => by
  rcases Array.mem_append.1 he with h' | h'
  · exact h e h'
  · exact k e h'
theorem results_cells2 {fn : Func} {p q : Tmp} {s t : TypeId} (h : fn.results = #[.cell p s, .cell q t]) {tmps : Array Value} {A B : Addr} (hp : tmps.getD p undef = .pointer (some A)) (hq : tmps.getD q undef = .pointer (some B))
    {w : World} {V : View} {u v : Value} (h1 : ∃ es, (loadVar s A).runT P w #[] = (.ok u w, es) ∧ EvV V es) (h2 : ∃ es, (loadVar t B).runT P w #[] = (.ok v w, es) ∧ EvV V es) :
    ∃ es, (results fn tmps).runT P w #[] = (.ok (.tuple #[u, v]) w, es) ∧ EvV V es := by
  obtain ⟨e1, a1, a2⟩ := h1
  obtain ⟨e2, b1, b2⟩ := h2
  refine ⟨e1 ++ e2, ?_, a2.app b2⟩
  have e : results fn tmps = Sem.bind (loadVar s A) fun u => Sem.bind (loadVar t B) fun v => Sem.pure (.tuple #[u, v]) := by
    have hp' : tmps[p]?.getD undef = .pointer (some A) := by simpa using hp
    have hq' : tmps[q]?.getD undef = .pointer (some B) := by simpa using hq
    simp only [results, h]
    simp [hp', hq', asAddr]
    rfl
  rw [e, Sem.runT_bind', a1]
  simp only
  rw [Sem.runT_bind', runT_acc, b1]
  rfl
end
end Go.Co
end

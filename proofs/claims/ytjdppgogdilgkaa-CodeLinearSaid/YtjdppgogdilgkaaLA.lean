import Derived.Conc.Beside
import Derived.Conc.CrowdSel
import Derived.Conc.CrowdTrace
import Derived.Conc.LeavingOf
section
namespace Go.Co
open Go.Conc
set_option linter.unusedVariables false
set_option linter.unusedSimpArgs false
def hOk : Halt → Bool
  | .panic _ => true
  | .stuck _ => true
  | .unsupported (.initOrder _) => false
  | .unsupported _ => true
  | _ => false
def mOk : Mark → Bool
  | .noRoom => true
  | .extern _ => true
  | _ => false
def Fine (wr : Bool) {α : Type} : Sem α → Prop
  | .pure _ => True
  | .load _ _ k => ∀ v, Fine wr (k v)
  | .store _ _ _ k => wr = true ∧ Fine wr k
  | .new _ k => ∀ r, Fine wr (k r)
  | .shape _ k => ∀ s, Fine wr (k s)
  | .freeze _ _ k => Fine wr k
  | .frozen _ k => ∀ b, Fine wr (k b)
  | .getObj _ k => ∀ o, Fine wr (k o)
  | .setObj _ _ k => wr = true ∧ Fine wr k
  | .choose _ k => ∀ n, Fine wr (k n)
  | .sys c k => c = .env ∧ wr = true ∧ ∀ r, Fine wr (k r)
  | .program k => ∀ p, Fine wr (k p)
  | .mark m k => mOk m = true ∧ Fine wr k
  | .halt h => hOk h = true
theorem Fine.bind {wr : Bool} {α β : Type} {f : α → Sem β} : ∀ {s : Sem α}, Fine wr s → (∀ a, Fine wr (f a)) → Fine wr (s >>= f)
  | .pure a, _, h => h a
  | .load m a k, h, hf => fun v => Fine.bind (h v) hf
  | .store m a v k, h, hf => ⟨h.1, Fine.bind (s := k) h.2 hf⟩
  | .new o k, h, hf => fun r => Fine.bind (h r) hf
  | .shape r k, h, hf => fun s => Fine.bind (h s) hf
  | .freeze a n k, h, hf => Fine.bind (s := k) h hf
  | .frozen a k, h, hf => fun b => Fine.bind (h b) hf
  | .getObj r k, h, hf => fun o => Fine.bind (h o) hf
  | .setObj r o k, h, hf => ⟨h.1, Fine.bind (s := k) h.2 hf⟩
  | .choose q k, h, hf => fun n => Fine.bind (h n) hf
  | .sys c k, h, hf => ⟨h.1, h.2.1, fun r => Fine.bind (h.2.2 r) hf⟩
  | .program k, h, hf => fun p => Fine.bind (h p) hf
  | .mark m k, h, hf => ⟨h.1, Fine.bind (s := k) h.2 hf⟩
  | .halt h, hh, _ => hh
def EvOk (wr : Bool) (es : Array Event) : Prop := ∀ e ∈ es, (∀ m, e.loc = .mark m → mOk m = true) ∧ (e.write = true → wr = true)
theorem EvOk.nil {wr : Bool} : EvOk wr #[] := fun e h => by simp at h
theorem EvOk.push {wr : Bool} {es : Array Event} {e : Event} (h : EvOk wr es) (he : (∀ m, e.loc = .mark m → mOk m = true) ∧ (e.write = true → wr = true)) : EvOk wr (es.push e) := fun x hx => by
  rcases Array.mem_push.1 hx with hx | rfl
  · exact h x hx
  · exact he
theorem EvOk.append {wr : Bool} {es us : Array Event} (h : EvOk wr es) (h2 : EvOk wr us) : EvOk wr (es ++ us) := fun x hx => by
  rcases Array.mem_append.1 hx with hx | hx
  · exact h x hx
  · exact h2 x hx
def Low (n : Nat) (w : World) : Prop := ∀ g, g < n → ∃ c t f, w.heap[g]? = some (.cells c t f)
theorem Low.setCell {n : Nat} {w : World} (h : Low n w) (a : Addr) (v : Value) : Low n (w.setCell a v) := fun g hg => by
  obtain ⟨c, t, f, e⟩ := h g hg
  unfold World.setCell
  simp only [Array.getElem?_modify]
  split
  · next h2 => rw [e]; exact ⟨_, _, _, rfl⟩
  · exact ⟨c, t, f, e⟩
theorem Low.freeze {n : Nat} {w : World} (h : Low n w) (a : Addr) (k : Nat) : Low n (w.freeze a k) := fun g hg => by
  obtain ⟨c, t, f, e⟩ := h g hg
  unfold World.freeze
  split
  · exact ⟨c, t, f, e⟩
  · simp only [Array.getElem?_modify]
    split
    · next h2 => rw [e]; exact ⟨_, _, _, rfl⟩
    · exact ⟨c, t, f, e⟩
theorem Low.push {n : Nat} {w : World} (h : Low n w) (o : Obj) : Low n { w with heap := w.heap.push o } := fun g hg => by
  obtain ⟨c, t, f, e⟩ := h g hg
  refine ⟨c, t, f, ?_⟩
  have hlt : g < w.heap.size := (Array.getElem?_eq_some_iff.1 e).1
  show (w.heap.push o)[g]? = _
  rw [Array.getElem?_push_lt hlt, ← e, Array.getElem?_eq_getElem hlt]
theorem Low.set {n : Nat} {w : World} (h : Low n w) {r : Nat} (o : Obj) (hr : ∀ c t f, w.heap[r]? ≠ some (.cells c t f)) : Low n { w with heap := w.heap.setIfInBounds r o } := fun g hg => by
  obtain ⟨c, t, f, e⟩ := h g hg
  have hne : r ≠ g := fun he => hr c t f (by rw [he]; exact e)
  exact ⟨c, t, f, by simp [Array.getElem?_setIfInBounds, hne, e]⟩
theorem Low.cells {n : Nat} {w : World} (h : Low n w) (r : Nat) (c : Array Value) (t : TypeId) (f : Nat × Nat) : Low n { w with heap := w.heap.setIfInBounds r (.cells c t f) } := fun g hg => by
  obtain ⟨c', t', f', e⟩ := h g hg
  by_cases hne : r = g
  · subst hne
    have hlt : r < w.heap.size := (Array.getElem?_eq_some_iff.1 e).1
    exact ⟨c, t, f, by simp [Array.getElem?_setIfInBounds, hlt]⟩
  · exact ⟨c', t', f', by simp [Array.getElem?_setIfInBounds, hne, e]⟩
def HOk (n : Nat) (h : Halt) : Prop := hOk h = true ∨ ∃ g, h = .unsupported (.initOrder g) ∧ n ≤ g
theorem noCell_ok {n : Nat} {w : World} (h : Low n w) (a : Addr) (what : String) : HOk n (w.noCell a what) := by
  unfold World.noCell
  split
  · next c t e =>
    refine .inr ⟨a.block, rfl, Nat.le_of_not_lt fun hlt => ?_⟩
    obtain ⟨c', t', f', e'⟩ := h _ hlt
    rw [e'] at e; cases e
  · exact .inl rfl
  · exact .inl rfl
theorem farLoad_ok {P : Program} {n : Nat} {w : World} (h : Low n w) {a : Addr} {b : Bool} {hh : Halt} (e : w.farLoad P a b = .error hh) : HOk n hh := by
  unfold World.farLoad at e
  split at e
  · split at e
    · cases e
    · injection e with e; subst e; exact .inl rfl
  · injection e with e; subst e; exact noCell_ok h _ _
theorem viewStore_low {P : Program} {n : Nat} {w w' : World} (h : Low n w) {at_ : Addr} {u : TypeId} {k : Addr} {v : Value} {b : Bool} {l : List Addr} (e : w.viewStore P at_ u k v b = .ok (w', l)) : Low n w' := by
  unfold World.viewStore at e
  simp only [bind, Except.bind, pure, Except.pure] at e
  repeat' split at e
  all_goals first
    | (cases e; done)
    | (injection e with e; injection e with e1 e2; subst e1; exact h.cells _ _ _ _)
theorem farStore_ok {P : Program} {n : Nat} {w : World} (h : Low n w) {a : Addr} {v : Value} {b : Bool} {hh : Halt} (e : w.farStore P a v b = .error hh) : HOk n hh := by
  unfold World.farStore at e
  split at e
  · split at e
    · cases e
    · injection e with e; subst e; exact .inl rfl
  · injection e with e; subst e; exact noCell_ok h _ _
theorem farStore_low {P : Program} {n : Nat} {w w' : World} (h : Low n w) {a : Addr} {v : Value} {b : Bool} {l : List Addr} (e : w.farStore P a v b = .ok (w', l)) : Low n w' := by
  unfold World.farStore at e
  split at e
  · split at e
    · injection e with e; next r hr => subst e; exact viewStore_low h hr
    · cases e
  · cases e
def After {α : Type} (n : Nat) : Result α → Prop
  | .ok _ w => Low n w
  | .halt h w => HOk n h ∧ Low n w
theorem Fine.runT {wr : Bool} {α : Type} (P : Program) (n : Nat) (s : Sem α) : Fine wr s → ∀ (w : World) (es : Array Event), Low n w → ∃ us, (s.runT P w es).2 = es ++ us ∧ EvOk wr us ∧ After n (s.runT P w es).1 := by
  induction s with
  | pure a => exact fun _ w es hl => ⟨#[], by simp [Sem.runT], EvOk.nil, hl⟩
  | load m a k ih =>
    intro h w es hl
    simp only [Sem.runT]
    cases hc : w.cell? a with
    | some v =>
      obtain ⟨us, e1, e2, e3⟩ := ih v (h v) w (es.push ⟨.cell a, false, m == .atomic⟩) hl
      exact ⟨#[⟨.cell a, false, m == .atomic⟩] ++ us, by simp only [e1]; simp, (EvOk.nil.push ⟨fun m e => by simp at e, fun e => by first | exact hwr | simp at e⟩).append e2, e3⟩
    | none =>
      simp only
      cases hf : w.farLoad P a (m == .atomic) with
      | ok r =>
        obtain ⟨v, l⟩ := r
        obtain ⟨us, e1, e2, e3⟩ := ih v (h v) w (es ++ l.toArray.map (⟨.cell ·, false, m == .atomic⟩)) hl
        refine ⟨l.toArray.map (⟨.cell ·, false, m == .atomic⟩) ++ us, by simp only [e1]; simp, EvOk.append (fun x hx => ?_) e2, e3⟩
        obtain ⟨y, _, rfl⟩ := Array.mem_map.1 hx
        exact ⟨fun m e => by simp at e, fun e => by first | exact hwr | simp at e⟩
      | error hh => exact ⟨#[], by simp, EvOk.nil, farLoad_ok hl hf, hl⟩
  | store m a v k ih =>
    intro h w es hl
    have hwr : wr = true := h.1
    have key : ∀ v : Value, (∀ cs, v ≠ .agg cs) → (∀ cs, v ≠ .tuple cs) → ∃ us, ((Sem.store m a v k).runT P w es).2 = es ++ us ∧ EvOk wr us ∧ After n ((Sem.store m a v k).runT P w es).1 := by
      intro v hv1 hv2
      have e0 : (Sem.store m a v k).runT P w es = (match w.cell? a with
          | some _ =>
            if w.frozen? a then (.halt (.unsupported (.unsafePointer "a write to bytes that a string shares")) w, es)
            else k.runT P (w.setCell a v) (es.push ⟨.cell a, true, m == .atomic⟩)
          | none => match w.farStore P a v (m == .atomic) with
            | .ok (w, touched) => k.runT P w (es ++ touched.toArray.map (⟨.cell ·, true, m == .atomic⟩))
            | .error h => (.halt h w, es)) := by
        cases v <;> first | rfl | exact absurd rfl (hv1 _) | exact absurd rfl (hv2 _)
      rw [e0]
      cases hc : w.cell? a with
      | some u =>
        simp only
        split
        · exact ⟨#[], by simp, EvOk.nil, .inl rfl, hl⟩
        · obtain ⟨us, e1, e2, e3⟩ := ih h.2 (w.setCell a v) (es.push ⟨.cell a, true, m == .atomic⟩) (hl.setCell a v)
          exact ⟨#[⟨.cell a, true, m == .atomic⟩] ++ us, by simp only [e1]; simp, (EvOk.nil.push ⟨fun m e => by simp at e, fun e => by first | exact hwr | simp at e⟩).append e2, e3⟩
      | none =>
        simp only
        cases hf : w.farStore P a v (m == .atomic) with
        | ok r =>
          obtain ⟨w1, l⟩ := r
          obtain ⟨us, e1, e2, e3⟩ := ih h.2 w1 (es ++ l.toArray.map (⟨.cell ·, true, m == .atomic⟩)) (farStore_low hl hf)
          refine ⟨l.toArray.map (⟨.cell ·, true, m == .atomic⟩) ++ us, by simp only [e1]; simp, EvOk.append (fun x hx => ?_) e2, e3⟩
          obtain ⟨y, _, rfl⟩ := Array.mem_map.1 hx
          exact ⟨fun m e => by simp at e, fun e => by first | exact hwr | simp at e⟩
        | error hh => exact ⟨#[], by simp, EvOk.nil, farStore_ok hl hf, hl⟩
    by_cases h1 : ∃ cs, v = .agg cs
    · obtain ⟨cs, rfl⟩ := h1
      exact ⟨#[], by simp [Sem.runT], EvOk.nil, .inl rfl, hl⟩
    · by_cases h2 : ∃ cs, v = .tuple cs
      · obtain ⟨cs, rfl⟩ := h2
        exact ⟨#[], by simp [Sem.runT], EvOk.nil, .inl rfl, hl⟩
      · exact key v (fun cs e => h1 ⟨cs, e⟩) (fun cs e => h2 ⟨cs, e⟩)
  | new o k ih =>
    intro h w es hl
    simp only [Sem.runT]
    exact ih _ (h _) _ es (hl.push o)
  | shape r k ih =>
    intro h w es hl
    simp only [Sem.runT]
    exact ih _ (h _) _ es hl
  | freeze a m k ih =>
    intro h w es hl
    simp only [Sem.runT]
    exact ih h _ es (hl.freeze a m)
  | frozen a k ih =>
    intro h w es hl
    simp only [Sem.runT]
    exact ih _ (h _) _ es hl
  | getObj r k ih =>
    intro h w es hl
    simp only [Sem.runT]
    split
    · exact ⟨#[], by simp, EvOk.nil, .inl rfl, hl⟩
    · next o _ _ =>
      obtain ⟨us, e1, e2, e3⟩ := ih o (h o) w (es.push ⟨.obj r, false, o.isChan⟩) hl
      exact ⟨#[⟨.obj r, false, o.isChan⟩] ++ us, by simp only [e1]; simp, (EvOk.nil.push ⟨fun m e => by simp at e, fun e => by first | exact hwr | simp at e⟩).append e2, e3⟩
    · exact ⟨#[], by simp, EvOk.nil, .inl rfl, hl⟩
  | setObj r o k ih =>
    intro h w es hl
    have hwr : wr = true := h.1
    simp only [Sem.runT]
    split
    · exact ⟨#[], by simp, EvOk.nil, .inl rfl, hl⟩
    · next o' hn he =>
      obtain ⟨us, e1, e2, e3⟩ := ih h.2 { w with heap := w.heap.setIfInBounds r o } (es.push ⟨.obj r, true, o.isChan⟩) (hl.set o (fun c t f e => by rw [he] at e; injection e with e; exact hn c t f e))
      exact ⟨#[⟨.obj r, true, o.isChan⟩] ++ us, by simp only [e1]; simp, (EvOk.nil.push ⟨fun m e => by simp at e, fun e => by first | exact hwr | simp at e⟩).append e2, e3⟩
    · exact ⟨#[], by simp, EvOk.nil, .inl rfl, hl⟩
  | choose q k ih =>
    intro h w es hl
    simp only [Sem.runT]
    split
    · exact ih _ (h _) _ es hl
    · exact ih _ (h _) { w with drawn := w.drawn + 1 } es hl
  | sys c k ih =>
    intro h w es hl
    obtain ⟨rfl, hwr, hk⟩ := h
    obtain ⟨us, e1, e2, e3⟩ := ih (.strings w.os.env) (hk _) w (es.push ⟨.output, true, false⟩) hl
    have e0 : (Sem.sys .env k).runT P w es = (k (.strings w.os.env)).runT P w (es.push ⟨.output, true, false⟩) := rfl
    exact ⟨#[⟨.output, true, false⟩] ++ us, by rw [e0, e1]; simp, (EvOk.nil.push ⟨fun m e => by simp at e, fun _ => hwr⟩).append e2, by rw [e0]; exact e3⟩
  | program k ih =>
    intro h w es hl
    simp only [Sem.runT]
    exact ih _ (h _) _ es hl
  | mark m k ih =>
    intro h w es hl
    simp only [Sem.runT]
    obtain ⟨us, e1, e2, e3⟩ := ih h.2 w (es.push ⟨.mark m, false, true⟩) hl
    exact ⟨#[⟨.mark m, false, true⟩] ++ us, by simp only [e1]; simp, (EvOk.nil.push ⟨fun m' e => by injection e with e; subst e; exact h.1, fun e => by simp at e⟩).append e2, e3⟩
  | halt hh => exact fun h w es hl => ⟨#[], by simp [Sem.runT], EvOk.nil, .inl h, hl⟩
end Go.Co
end
section
namespace Go.Co
open Go.Conc
set_option linter.unusedVariables false
variable {wr : Bool} {α β : Type}
theorem f_pure (a : α) : Fine wr (pure a : Sem α) := trivial
theorem f_load (a : Addr) (m : Mode) : Fine wr (load a m) := fun _ => trivial
theorem f_store (a : Addr) (v : Value) (m : Mode) : Fine true (store a v m) := ⟨rfl, trivial⟩
theorem f_newObj (o : Obj) : Fine wr (newObj o) := fun _ => trivial
theorem f_shape (r : Nat) : Fine wr (shape r) := fun _ => trivial
theorem f_freeze (a : Addr) (n : Nat) : Fine wr (freeze a n) := trivial
theorem f_frozen (a : Addr) : Fine wr (frozen a) := fun _ => trivial
theorem f_getObj (r : Nat) : Fine wr (getObj r) := fun _ => trivial
theorem f_setObj (r : Nat) (o : Obj) : Fine true (setObj r o) := ⟨rfl, trivial⟩
theorem f_choose (q : Question) : Fine wr (choose q) := fun _ => trivial
theorem f_program : Fine wr program := fun _ => trivial
theorem f_stuck (why : String) : Fine wr (stuck why : Sem α) := rfl
theorem f_goPanic (v : Value) : Fine wr (goPanic v : Sem α) := rfl
theorem f_noRoom : Fine wr (mark .noRoom) := ⟨rfl, trivial⟩
theorem f_u1 (s : String) : Fine wr (unsupported (.noEntry s) : Sem α) := rfl
theorem f_u3 (s : String) : Fine wr (unsupported (.unsafePointer s) : Sem α) := rfl
theorem f_u4 : Fine wr (unsupported .evalOrder : Sem α) := rfl
theorem f_u5 : Fine wr (unsupported .addressObserved : Sem α) := rfl
theorem f_u6 (s : String) : Fine wr (unsupported (.resourceLimit s) : Sem α) := rfl
theorem f_map {f : α → β} {s : Sem α} (h : Fine wr s) : Fine wr (Functor.map f s) := Fine.bind h fun _ => trivial
theorem f_listFor {σ γ : Type} {f : γ → σ → Sem (ForInStep σ)} (h : ∀ x s, Fine wr (f x s)) : ∀ (l : List γ) (s : σ), Fine wr (forIn l s f)
  | [], s => trivial
  | x :: l, s => by
    rw [List.forIn_cons]
    refine Fine.bind (h x s) fun r => ?_
    cases r with
    | done b => trivial
    | yield b => exact f_listFor h l b
theorem f_arrFor {σ γ : Type} {f : γ → σ → Sem (ForInStep σ)} (h : ∀ x s, Fine wr (f x s)) (l : Array γ) (s : σ) : Fine wr (forIn l s f) := by
  rw [← Array.forIn_toList]; exact f_listFor h _ _
theorem f_rangeFor {σ : Type} {f : Nat → σ → Sem (ForInStep σ)} (h : ∀ x s, Fine wr (f x s)) (r : Std.Legacy.Range) (s : σ) : Fine wr (forIn r s f) := by
  rw [Std.Legacy.Range.forIn_eq_forIn_range']; exact f_listFor h _ _
theorem f_listMapM {γ δ : Type} {f : γ → Sem δ} (h : ∀ x, Fine wr (f x)) : ∀ l : List γ, Fine wr (l.mapM f)
  | [] => by rw [List.mapM_nil]; trivial
  | x :: l => by
    rw [List.mapM_cons]
    exact Fine.bind (h x) fun _ => Fine.bind (f_listMapM h l) fun _ => trivial
theorem f_arrMapM {γ δ : Type} {f : γ → Sem δ} (h : ∀ x, Fine wr (f x)) (l : Array γ) : Fine wr (l.mapM f) := by
  have : (l.mapM f) = (do let xs ← l.toList.mapM f; pure xs.toArray) := by
    rw [Array.mapM_eq_mapM_toList]; rfl
  rw [this]
  exact Fine.bind (f_listMapM h _) fun _ => trivial
theorem f_ite {c : Prop} [Decidable c] {a b : Sem α} (ha : Fine wr a) (hb : Fine wr b) : Fine wr (if c then a else b) := by
  split
  · exact ha
  · exact hb
theorem f_jp {σ : Type} {jp : σ → Sem α} {body : (σ → Sem α) → Sem β} (h : ∀ x, Fine wr (jp x)) (hb : ∀ f : σ → Sem α, (∀ x, Fine wr (f x)) → Fine wr (body f)) : Fine wr (have f := jp; body f) := hb jp h
theorem f_jp2 {σ τ : Type} {jp : σ → τ → Sem α} {body : (σ → τ → Sem α) → Sem β} (h : ∀ x y, Fine wr (jp x y)) (hb : ∀ f : σ → τ → Sem α, (∀ x y, Fine wr (f x y)) → Fine wr (body f)) : Fine wr (have f := jp; body f) := hb jp h
theorem f_typeInfo {wr : Bool} (t : TypeId) : Fine wr (typeInfo t) := by
  unfold typeInfo
  repeat' (first | with_reducible (first | exact f_pure _ | exact f_program | exact f_stuck _ | assumption | apply Fine.bind) | split | with_reducible intro _ | dsimp only)
theorem f_underlying {wr : Bool} (t : TypeId) : Fine wr (underlying t) := by
  unfold underlying
  repeat' (first | with_reducible (first | exact f_pure _ | exact f_program | exact f_stuck _ | assumption | apply Fine.bind) | split | with_reducible intro _ | dsimp only)
theorem f_zeroValue {wr : Bool} (t : TypeId) : Fine wr (zeroValue t) := by
  unfold zeroValue
  repeat' (first | with_reducible (first | exact f_pure _ | exact f_u6 _ | assumption | apply f_typeInfo | apply Fine.bind) | split | with_reducible intro _ | dsimp only)
theorem f_sizeOf {wr : Bool} (t : TypeId) : Fine wr (sizeOf t) := by
  unfold sizeOf
  repeat' (first | with_reducible (first | exact f_pure _ | assumption | apply f_typeInfo | apply Fine.bind) | split | with_reducible intro _ | dsimp only)
theorem f_isAgg {wr : Bool} (t : TypeId) : Fine wr (isAgg t) := by
  unfold isAgg
  repeat' (first | with_reducible (first | exact f_pure _ | assumption | apply f_underlying | apply Fine.bind) | split | with_reducible intro _ | dsimp only)
theorem f_loadCellsFrom {wr : Bool} (a : Addr) : ∀ (n i : Nat) (acc : Array Value), Fine wr (loadCellsFrom a i n acc)
  | 0, i, acc => trivial
  | n + 1, i, acc => Fine.bind (f_load _ _) fun v => f_loadCellsFrom a n (i + 1) (acc.push v)
theorem f_loadCells {wr : Bool} (a : Addr) (n : Nat) : Fine wr (loadCells a n) := f_loadCellsFrom a n 0 #[]
theorem f_storeCells (a : Addr) : ∀ (vs : List Value) (i : Nat), Fine true (storeCells a vs i)
  | [], i => trivial
  | v :: vs, i => Fine.bind (f_store _ _ _) fun _ => f_storeCells a vs (i + 1)
theorem f_loadVar {wr : Bool} (t : TypeId) (a : Addr) : Fine wr (loadVar t a) := by
  unfold loadVar
  repeat' (first | with_reducible (first | exact f_pure _ | exact f_load _ _ | assumption | apply f_loadCells | apply f_isAgg | apply f_sizeOf | apply Fine.bind | apply f_ite) | split | with_reducible intro _ | dsimp only)
theorem f_storeVar {wr : Bool} (t : TypeId) (a : Addr) (v : Value) : Fine true (storeVar t a v) := by
  unfold storeVar
  repeat' (first | with_reducible (first | exact f_stuck _ | assumption | apply f_storeCells | apply f_sizeOf | apply Fine.bind | apply f_ite) | split | with_reducible intro _ | dsimp only)
theorem f_newRow {wr : Bool} (t : TypeId) (c : Array Value) : Fine wr (newRow t c) := by
  unfold newRow
  repeat' (first | with_reducible (first | exact f_pure _ | exact f_newObj _ | assumption | apply Fine.bind) | split | with_reducible intro _ | dsimp only)
theorem f_newVar {wr : Bool} (t : TypeId) (v : Value) : Fine wr (newVar t v) := by
  unfold newVar
  repeat' (first | with_reducible (first | assumption | apply f_newRow) | split | with_reducible intro _ | dsimp only)
theorem f_elemOf {wr : Bool} (t : TypeId) : Fine wr (elemOf t) := by
  unfold elemOf
  repeat' (first | with_reducible (first | exact f_pure _ | exact f_stuck _ | assumption | apply f_underlying | apply Fine.bind) | split | with_reducible intro _ | dsimp only)
theorem f_part {wr : Bool} (t : TypeId) (cs : Array Value) (off : Nat) : Fine wr (part t cs off) := by
  unfold part
  repeat' (first | with_reducible (first | exact f_pure _ | exact f_stuck _ | assumption | apply f_isAgg | apply f_sizeOf | apply Fine.bind | apply f_ite) | split | with_reducible intro _ | dsimp only)
theorem f_askRoom {wr : Bool} (n : Nat) : Fine wr (askRoom n) := by
  unfold askRoom
  repeat' (first | with_reducible (first | exact f_pure _ | exact f_noRoom | assumption | apply f_ite) | split | with_reducible intro _ | dsimp only)
theorem f_viewAt {wr : Bool} (n : Nat) : Fine wr (viewAt n) := by
  unfold viewAt
  repeat' (first | with_reducible (first | exact f_pure _ | exact f_shape _ | exact f_getObj _ | assumption | apply Fine.bind | apply f_ite) | split | with_reducible intro _ | dsimp only)
theorem f_numberAt {wr : Bool} (n : Nat) : Fine wr (numberAt n) := by
  unfold numberAt
  repeat' (first | with_reducible (first | exact f_pure _ | exact f_shape _ | exact f_getObj _ | assumption | apply Fine.bind | apply f_ite) | split | with_reducible intro _ | dsimp only)
theorem f_behindNumber {wr : Bool} (a : Addr) : Fine wr (behindNumber a) := by
  unfold behindNumber
  repeat' (first | with_reducible (first | exact f_pure _ | assumption | apply f_numberAt | apply Fine.bind) | split | with_reducible intro _ | dsimp only)
theorem f_noView {wr : Bool} (a : Addr) : Fine wr (noView a) := by
  unfold noView
  repeat' (first | with_reducible (first | exact f_pure _ | exact f_u3 _ | assumption | apply f_viewAt | apply Fine.bind | apply f_ite) | split | with_reducible intro _ | dsimp only)
theorem f_markStringish {wr : Bool} (a : Addr) : Fine wr (markStringish a) := by
  unfold markStringish
  repeat' (first | with_reducible (first | exact f_pure _ | exact f_shape _ | exact f_freeze _ _ | assumption | apply Fine.bind) | split | with_reducible intro _ | dsimp only)
theorem f_stringish {wr : Bool} (a : Addr) : Fine wr (stringish a) := by
  unfold stringish
  repeat' (first | with_reducible (first | exact f_pure _ | exact f_shape _ | exact f_frozen _ | assumption | apply Fine.bind | apply f_ite) | split | with_reducible intro _ | dsimp only)
theorem f_mayBeOne {wr : Bool} (a b : Addr) : Fine wr (mayBeOne a b) := by
  unfold mayBeOne
  repeat' (first | with_reducible (first | exact f_pure _ | exact f_shape _ | assumption | apply f_stringish | apply Fine.bind) | split | with_reducible intro _ | dsimp only)
theorem f_sameAddr {wr : Bool} (a b : Addr) : Fine wr (sameAddr a b) := by
  unfold sameAddr
  repeat' (first | with_reducible (first | exact f_pure _ | exact f_frozen _ | exact f_choose _ | exact f_u5 | assumption | apply f_mayBeOne | apply f_noView | apply Fine.bind | apply f_ite) | split | with_reducible intro _ | dsimp only)
theorem f_samePointer {wr : Bool} (a b : Option Addr) : Fine wr (samePointer a b) := by
  unfold samePointer
  repeat' (first | with_reducible (first | exact f_pure _ | assumption | apply f_sameAddr) | split | with_reducible intro _ | dsimp only)
theorem f_typeStr {wr : Bool} (t : TypeId) : Fine wr (typeStr t) := by
  unfold typeStr
  repeat' (first | with_reducible (first | exact f_pure _ | exact f_u1 _ | assumption | apply f_typeInfo | apply Fine.bind | apply f_ite) | split | with_reducible intro _ | dsimp only)
theorem f_rtp {wr : Bool} {α : Type} (e : RuntimeError) : Fine wr (runtimePanic e : Sem α) := by
  unfold runtimePanic
  repeat' (first | with_reducible (first | exact f_program | exact f_goPanic _ | assumption | apply f_elemOf | apply f_newVar | apply Fine.bind) | split | with_reducible intro _ | dsimp only)
theorem f_bp {wr : Bool} {α : Type} (k : IntKind) (x y : Int) (c : BoundsCode) : Fine wr (boundsPanic k x y c : Sem α) := by
  unfold boundsPanic
  repeat' (first | with_reducible (first | exact f_pure _ | exact f_choose _ | assumption | apply f_rtp | apply Fine.bind | apply f_map | apply f_ite) | split | with_reducible intro _ | dsimp only)
theorem f_asIntOf {wr : Bool} (v : Value) : Fine wr (asIntOf v) := by
  unfold asIntOf
  repeat' (first | with_reducible (first | exact f_pure _ | exact f_stuck _ | exact f_u5 | assumption) | split | with_reducible intro _ | dsimp only)
theorem f_asInt {wr : Bool} (v : Value) : Fine wr (asInt v) := by
  unfold asInt
  repeat' (first | with_reducible (first | exact f_pure _ | assumption | apply f_asIntOf | apply Fine.bind) | split | with_reducible intro _ | dsimp only)
theorem f_asBool {wr : Bool} (v : Value) : Fine wr (asBool v) := by
  unfold asBool
  repeat' (first | with_reducible (first | exact f_pure _ | exact f_stuck _ | assumption) | split | with_reducible intro _ | dsimp only)
theorem f_asString {wr : Bool} (v : Value) : Fine wr (asString v) := by
  unfold asString
  repeat' (first | with_reducible (first | exact f_pure _ | exact f_stuck _ | assumption) | split | with_reducible intro _ | dsimp only)
theorem f_asAgg {wr : Bool} (v : Value) : Fine wr (asAgg v) := by
  unfold asAgg
  repeat' (first | with_reducible (first | exact f_pure _ | exact f_stuck _ | assumption) | split | with_reducible intro _ | dsimp only)
theorem f_asAddr {wr : Bool} (v : Value) : Fine wr (asAddr v) := by
  unfold asAddr
  repeat' (first | with_reducible (first | exact f_pure _ | exact f_stuck _ | assumption | apply f_rtp) | split | with_reducible intro _ | dsimp only)
theorem f_alloc {wr : Bool} (t : TypeId) : Fine wr (Instr.alloc t true (.tuple #[])) := by
  unfold Instr.alloc
  refine Fine.bind (f_zeroValue t) fun z => ?_
  exact Fine.bind (f_newVar _ _) fun _ => f_pure _
theorem f_box {wr : Bool} (t : TypeId) (v : Value) : Fine wr (Instr.box t v) := by
  unfold Instr.box
  repeat' (first | with_reducible (first | exact f_pure _ | assumption | apply f_newVar | apply Fine.bind) | split | with_reducible intro _ | dsimp only)
theorem f_sureAddr {wr : Bool} (v : Value) : Fine wr (Instr.sureAddr v) := by
  unfold Instr.sureAddr
  repeat' (first | with_reducible (first | exact f_pure _ | exact f_stuck _ | assumption) | split | with_reducible intro _ | dsimp only)
theorem f_loadAt {wr : Bool} (t : TypeId) (v : Value) : Fine wr (Instr.loadAt t v) := by
  unfold Instr.loadAt
  repeat' (first | with_reducible (first | assumption | apply f_sureAddr | apply f_loadVar | apply Fine.bind) | split | with_reducible intro _ | dsimp only)
theorem f_storeAt {wr : Bool} (t : TypeId) (v x : Value) : Fine true (Instr.storeAt t v x) := by
  unfold Instr.storeAt
  repeat' (first | with_reducible (first | assumption | apply f_sureAddr | apply f_storeVar | apply Fine.bind) | split | with_reducible intro _ | dsimp only)
theorem f_byteOf {wr : Bool} (a : Addr) : Fine wr (byteOf a) := by
  unfold byteOf
  repeat' (first | with_reducible (first | exact f_pure _ | exact f_shape _ | exact f_program | exact f_stuck _ | assumption | apply f_noView | apply Fine.bind | apply f_ite) | split | with_reducible intro _ | dsimp only)
theorem f_partAt {wr : Bool} (a : Addr) (c b : Nat) : Fine wr (partAt a c b) := by
  unfold partAt
  repeat' (first | with_reducible (first | exact f_pure _ | assumption | apply f_byteOf | apply Fine.bind) | split | with_reducible intro _ | dsimp only)
theorem f_fieldPlace {wr : Bool} (a : Addr) (f : Field) : Fine wr (fieldPlace a f) := by
  unfold fieldPlace
  repeat' (first | with_reducible (first | exact f_pure _ | assumption | apply f_partAt | apply f_sizeOf | apply Fine.bind | apply f_ite) | split | with_reducible intro _ | dsimp only)
theorem f_fieldAt {wr : Bool} (t : TypeId) (v : Value) (n : Nat) : Fine wr (Instr.fieldAt t v n) := by
  unfold Instr.fieldAt
  repeat' (first | with_reducible (first | exact f_pure _ | exact f_stuck _ | assumption | apply f_fieldPlace | apply f_sureAddr | apply f_underlying | apply Fine.bind) | split | with_reducible intro _ | dsimp only)
theorem f_indexAt {wr : Bool} (t : TypeId) (v x : Value) : Fine wr (Instr.indexAt t v x) := by
  unfold Instr.indexAt
  repeat' (first | with_reducible (first | exact f_pure _ | exact f_stuck _ | exact f_u1 _ | assumption | apply f_sureAddr | apply f_asIntOf | apply f_bp | apply f_sizeOf | apply f_underlying | apply Fine.bind | apply f_ite) | split | with_reducible intro _ | dsimp only)
theorem f_sliceBound {wr : Bool} (v : Value) (y : Nat) (c : BoundsCode) : Fine wr (Instr.sliceBound v y c) := by
  unfold Instr.sliceBound
  repeat' (first | with_reducible (first | exact f_pure _ | assumption | apply f_asIntOf | apply f_bp | apply Fine.bind | apply f_ite) | split | with_reducible intro _ | dsimp only)
theorem f_sliceBounds {wr : Bool} (b : Bool) (l c : Nat) (x y z : Option Value) : Fine wr (Instr.sliceBounds b l c x y z) := by
  unfold Instr.sliceBounds
  repeat' (first | with_reducible (first | exact f_pure _ | exact f_stuck _ | assumption | apply f_sliceBound | apply Fine.bind) | split | with_reducible intro _ | dsimp only)
theorem f_slice {wr : Bool} (t : TypeId) (v : Value) (x y z : Option Value) : Fine wr (Instr.slice t v x y z) := by
  unfold Instr.slice
  repeat' (first | with_reducible (first | exact f_pure _ | exact f_stuck _ | assumption | apply f_sliceBounds | apply f_asAddr | apply f_sizeOf | apply f_underlying | apply Fine.bind) | split | with_reducible intro _ | dsimp only)
theorem f_sliceAt {wr : Bool} (t : TypeId) (v : Value) (x y z : Option Value) : Fine wr (Instr.sliceAt t v x y z) := by
  unfold Instr.sliceAt
  repeat' (first | with_reducible (first | exact f_pure _ | assumption | apply f_slice | apply f_sliceBounds | apply f_sureAddr | apply f_sizeOf | apply f_underlying | apply Fine.bind) | split | with_reducible intro _ | dsimp only)
theorem f_arrayAt {wr : Bool} (t : TypeId) (v : Value) : Fine wr (Instr.arrayAt t v) := by
  unfold Instr.arrayAt
  repeat' (first | with_reducible (first | exact f_pure _ | exact f_stuck _ | assumption | apply f_rtp | apply f_underlying | apply Fine.bind | apply f_ite) | split | with_reducible intro _ | dsimp only)
theorem f_index {wr : Bool} (t : TypeId) (v x : Value) : Fine wr (Instr.index t v x) := by
  unfold Instr.index
  repeat' (first | with_reducible (first | exact f_pure _ | exact f_stuck _ | assumption | apply f_asIntOf | apply f_bp | apply f_part | apply f_sizeOf | apply f_underlying | apply Fine.bind | apply f_ite) | split | with_reducible intro _ | dsimp only)
theorem f_field {wr : Bool} (t : TypeId) (v : Value) (n : Nat) : Fine wr (Instr.field t v n) := by
  unfold Instr.field
  repeat' (first | with_reducible (first | exact f_stuck _ | assumption | apply f_asAgg | apply f_part | apply f_underlying | apply Fine.bind) | split | with_reducible intro _ | dsimp only)
theorem f_extract {wr : Bool} (v : Value) (n : Nat) : Fine wr (Instr.extract v n) := by
  unfold Instr.extract
  repeat' (first | with_reducible (first | exact f_pure _ | exact f_stuck _ | assumption) | split | with_reducible intro _ | dsimp only)
theorem f_build {wr : Bool} (t : TypeId) (ps : Array (Nat × Value)) : Fine wr (Instr.build t ps) := by
  unfold Instr.build
  repeat' (first | with_reducible (first | exact f_pure _ | exact f_stuck _ | assumption | apply f_sizeOf | apply f_zeroValue | apply f_underlying | apply Fine.bind | apply f_arrMapM) | split | with_reducible intro _ | dsimp only)
theorem f_buildSlice {wr : Bool} (t : TypeId) (n : Nat) (ps : Array (Nat × Value)) : Fine wr (Instr.buildSlice t n ps) := by
  unfold Instr.buildSlice
  repeat' (first | with_reducible (first | exact f_pure _ | exact f_stuck _ | exact f_u6 _ | assumption | apply f_newRow | apply f_sizeOf | apply f_zeroValue | apply f_underlying | apply Fine.bind | apply f_ite) | split | with_reducible intro _ | dsimp only)
theorem f_makeFunc {wr : Bool} (f : Fn) (a b : Array Value) : Fine wr (Instr.makeFunc f a b) := by
  unfold Instr.makeFunc
  repeat' (first | with_reducible (first | exact f_pure _ | assumption) | split | with_reducible intro _ | dsimp only)
theorem f_makeSlice {wr : Bool} (t : TypeId) (a b : Value) : Fine wr (Instr.makeSlice t a b) := by
  unfold Instr.makeSlice
  repeat' (first | with_reducible (first | exact f_pure _ | exact f_choose _ | exact f_stuck _ | assumption | apply f_asInt | apply f_rtp | apply f_askRoom | apply f_newRow | apply f_sizeOf | apply f_zeroValue | apply f_underlying | apply f_typeInfo | apply Fine.bind | apply f_ite) | split | with_reducible intro _ | dsimp only)
theorem f_intArith {wr : Bool} (o : BinOp) (k : IntKind) (x y : Int) : Fine wr (Op.intArith o k x y) := by
  unfold Op.intArith
  repeat' (first | with_reducible (first | exact f_pure _ | exact f_stuck _ | assumption) | split | with_reducible intro _ | dsimp only)
theorem f_intDiv {wr : Bool} (o : BinOp) (k : IntKind) (x y : Int) : Fine wr (Op.intDiv o k x y) := by
  unfold Op.intDiv
  repeat' (first | with_reducible (first | exact f_pure _ | exact f_stuck _ | assumption | apply f_rtp | apply f_ite) | split | with_reducible intro _ | dsimp only)
theorem f_intBits {wr : Bool} (o : BinOp) (k : IntKind) (x y : Int) : Fine wr (Op.intBits o k x y) := by
  unfold Op.intBits
  repeat' (first | with_reducible (first | exact f_pure _ | exact f_stuck _ | assumption) | split | with_reducible intro _ | dsimp only)
theorem f_shift {wr : Bool} (o : BinOp) (k : IntKind) (x : Int) (j : IntKind) (y : Int) : Fine wr (Op.shift o k x j y) := by
  unfold Op.shift
  repeat' (first | with_reducible (first | exact f_pure _ | exact f_stuck _ | assumption | apply f_rtp | apply f_ite) | split | with_reducible intro _ | dsimp only)
theorem f_intCmp {wr : Bool} (o : BinOp) (x y : Int) : Fine wr (Op.intCmp o x y) := by
  unfold Op.intCmp
  repeat' (first | with_reducible (first | exact f_pure _ | exact f_stuck _ | assumption) | split | with_reducible intro _ | dsimp only)
theorem f_stringOp {wr : Bool} (o : BinOp) (x y : ByteArray) : Fine wr (Op.stringOp o x y) := by
  unfold Op.stringOp
  repeat' (first | with_reducible (first | exact f_pure _ | exact f_stuck _ | exact f_u6 _ | assumption | apply f_ite) | split | with_reducible intro _ | dsimp only)
theorem f_unary {wr : Bool} (o : UnOp) (x : Value) : Fine wr (Op.unary o x) := by
  unfold Op.unary
  repeat' (first | with_reducible (first | exact f_pure _ | exact f_stuck _ | exact f_u5 | assumption | apply f_intBits | apply f_intArith) | split | with_reducible intro _ | dsimp only)
end Go.Co
end
section
namespace Go.Co
open Go.Conc
set_option linter.unusedVariables false
set_option linter.unusedSimpArgs false
variable {wr : Bool}
theorem f_foldlM {γ δ : Type} {f : δ → γ → Sem δ} (h : ∀ s x, Fine wr (f s x)) : ∀ (l : List γ) (s : δ), Fine wr (l.foldlM f s)
  | [], s => trivial
  | x :: l, s => by
    rw [List.foldlM_cons]
    exact Fine.bind (h s x) fun _ => f_foldlM h l _
theorem f_lenOf {wr : Bool} (v : Value) : Fine wr (Builtin.lenOf v) := by
  unfold Builtin.lenOf
  repeat' (first | with_reducible (first | exact f_pure _ | exact f_stuck _ | assumption) | split | with_reducible intro _ | dsimp only)
theorem f_firstCells {wr : Bool} (s n : Nat) (v : Value) : Fine wr (Builtin.firstCells s n v) := by
  unfold Builtin.firstCells
  repeat' (first | with_reducible (first | exact f_pure _ | exact f_stuck _ | assumption | apply f_loadCells) | split | with_reducible intro _ | dsimp only)
theorem f_holdsCells {wr : Bool} (a : Addr) (n : Nat) : Fine wr (Builtin.holdsCells a n) := by
  unfold Builtin.holdsCells
  repeat' (first | with_reducible (first | exact f_pure _ | exact f_shape _ | assumption | apply Fine.bind) | split | with_reducible intro _ | dsimp only)
theorem f_mayShare {wr : Bool} (s l n : Nat) (b : Option Addr) (v : Value) : Fine wr (Builtin.mayShare s l n b v) := by
  unfold Builtin.mayShare
  repeat' (first | with_reducible (first | exact f_pure _ | exact f_frozen _ | assumption | apply f_holdsCells | apply Fine.bind | apply f_ite) | split | with_reducible intro _ | dsimp only)
set_option maxHeartbeats 1000000 in
theorem f_append (ts : Array TypeId) (t : TypeId) (vs : Array Value) : Fine true (Builtin.append_ ts t vs) := by
  unfold Builtin.append_
  split
  · refine Fine.bind (f_underlying _) fun d => ?_
    split
    · split
      · refine Fine.bind (f_sizeOf _) fun size => ?_
        extract_lets -lift jp0 jp1
        have h0 : ∀ u, Fine true (jp0 u) := fun u => f_u6 _
        clear_value jp0
        have h1 : ∀ zeros, Fine true (jp1 zeros) := by
          intro zeros
          dsimp -zeta only [jp1]
          extract_lets -lift jp2
          have h2 : ∀ n, Fine true (jp2 n) := by
            intro n
            dsimp -zeta only [jp2]
            extract_lets -lift appended need
            have ha : Fine true appended := by
              dsimp only [appended]
              exact f_ite (f_firstCells _ _ _) (f_ite (f_pure _) (Fine.bind (f_zeroValue _) fun _ => f_pure _))
            clear_value appended need
            refine f_ite ?_ ?_
            · refine Fine.bind ha fun new => ?_
              split
              · exact Fine.bind (f_storeCells _ _ _) fun _ => f_pure _
              · exact f_pure _
            · refine Fine.bind (f_typeInfo _) fun ti => ?_
              refine f_ite (Fine.bind (f_rtp _) fun u => ?_) ?_
              all_goals
                refine Fine.bind (f_typeInfo _) fun ti => ?_
                refine f_ite (Fine.bind (f_ite (f_rtp _) ?_) fun u => ?_) ?_
                · exact Fine.bind (f_mayShare _ _ _ _ _) fun _ => f_ite (Fine.bind f_noRoom h0) (h0 _)
                · exact Fine.bind (f_choose _) fun _ => Fine.bind (f_typeInfo _) fun _ => Fine.bind (f_askRoom _) fun _ => Fine.bind (f_firstCells _ _ _) fun _ => Fine.bind ha fun _ => Fine.bind (f_zeroValue _) fun _ => Fine.bind (f_newRow _ _) fun _ => f_pure _
                · exact Fine.bind (f_choose _) fun _ => Fine.bind (f_typeInfo _) fun _ => Fine.bind (f_askRoom _) fun _ => Fine.bind (f_firstCells _ _ _) fun _ => Fine.bind ha fun _ => Fine.bind (f_zeroValue _) fun _ => Fine.bind (f_newRow _ _) fun _ => f_pure _
          clear_value jp2
          refine f_ite ?_ (Fine.bind (f_lenOf _) h2)
          refine Fine.bind (f_asInt _) fun l0 => ?_
          dsimp only
          refine f_ite (Fine.bind (f_rtp _) fun u => ?_) ?_
          all_goals
            refine Fine.bind (f_typeInfo _) fun ti => ?_
            exact f_ite (Fine.bind (f_choose _) fun _ => Fine.bind (f_rtp _) fun _ => Fine.bind (f_pure _) h2) (Fine.bind (f_pure _) h2)
        clear_value jp1
        split
        · exact Fine.bind (f_underlying _) fun _ => Fine.bind (f_pure _) h1
        · exact Fine.bind (f_pure _) h1
      · exact f_stuck _
    · exact f_stuck _
  · exact f_stuck _
theorem f_copy {wr : Bool} (ts : Array TypeId) (t : TypeId) (vs : Array Value) : Fine true (Builtin.copy_ ts t vs) := by
  unfold Builtin.copy_
  repeat' (first | with_reducible (first | exact f_pure _ | exact f_stuck _ | assumption | apply f_firstCells | apply f_lenOf | apply f_storeCells | apply f_sizeOf | apply f_underlying | apply Fine.bind) | split | with_reducible intro _ | dsimp only)
theorem f_len {wr : Bool} (ts : Array TypeId) (t : TypeId) (vs : Array Value) : Fine wr (Builtin.len_ ts t vs) := by
  unfold Builtin.len_
  repeat' (first | with_reducible (first | exact f_pure _ | exact f_getObj _ | exact f_stuck _ | assumption | apply f_underlying | apply Fine.bind) | split | with_reducible intro _ | dsimp only)
theorem f_cap {wr : Bool} (ts : Array TypeId) (t : TypeId) (vs : Array Value) : Fine wr (Builtin.cap_ ts t vs) := by
  unfold Builtin.cap_
  repeat' (first | with_reducible (first | exact f_pure _ | exact f_getObj _ | exact f_stuck _ | assumption | apply f_underlying | apply Fine.bind) | split | with_reducible intro _ | dsimp only)
theorem f_clear {wr : Bool} (ts : Array TypeId) (t : TypeId) (vs : Array Value) : Fine true (Builtin.clear_ ts t vs) := by
  unfold Builtin.clear_
  repeat' (first | with_reducible (first | exact f_pure _ | exact f_getObj _ | exact f_setObj _ _ | exact f_stuck _ | assumption | apply f_storeCells | apply f_zeroValue | apply f_underlying | apply Fine.bind) | split | with_reducible intro _ | dsimp only)
theorem f_min2 {wr : Bool} (v x : Value) : Fine wr (Builtin.min2 v x) := by
  unfold Builtin.min2
  repeat' (first | with_reducible (first | exact f_pure _ | exact f_choose _ | exact f_stuck _ | exact f_u5 | assumption | apply f_stringOp | apply f_asBool | apply Fine.bind) | split | with_reducible intro _ | dsimp only)
theorem f_min {wr : Bool} (ts : Array TypeId) (t : TypeId) (vs : Array Value) : Fine wr (Builtin.min_ ts t vs) := by
  unfold Builtin.min_
  repeat' (first | with_reducible (first | exact f_stuck _ | assumption | apply f_min2 | apply f_foldlM) | split | with_reducible intro _ | dsimp only)
theorem f_max2 {wr : Bool} (v x : Value) : Fine wr (Builtin.max2 v x) := by
  unfold Builtin.max2
  repeat' (first | with_reducible (first | exact f_pure _ | exact f_choose _ | exact f_stuck _ | exact f_u5 | assumption | apply f_stringOp | apply f_asBool | apply Fine.bind) | split | with_reducible intro _ | dsimp only)
theorem f_max {wr : Bool} (ts : Array TypeId) (t : TypeId) (vs : Array Value) : Fine wr (Builtin.max_ ts t vs) := by
  unfold Builtin.max_
  repeat' (first | with_reducible (first | exact f_stuck _ | assumption | apply f_max2 | apply f_foldlM) | split | with_reducible intro _ | dsimp only)
theorem f_intToInt {wr : Bool} (k : IntKind) (n : Int) : Fine wr (Conv.intToInt k n) := by
  unfold Conv.intToInt
  repeat' (first | with_reducible (first | exact f_pure _ | assumption) | split | with_reducible intro _ | dsimp only)
theorem f_intToString {wr : Bool} (n : Int) : Fine wr (Conv.intToString n) := by
  unfold Conv.intToString
  repeat' (first | with_reducible (first | exact f_pure _ | assumption) | split | with_reducible intro _ | dsimp only)
theorem f_stringToBytes {wr : Bool} (t : TypeId) (s : ByteArray) : Fine wr (Conv.stringToBytes t s) := by
  unfold Conv.stringToBytes
  repeat' (first | with_reducible (first | exact f_pure _ | exact f_choose _ | assumption | apply f_markStringish | apply f_newRow | apply Fine.bind) | split | with_reducible intro _ | dsimp only)
theorem f_bytesToString {wr : Bool} (v : Value) : Fine wr (Conv.bytesToString v) := by
  unfold Conv.bytesToString
  repeat' (first | with_reducible (first | exact f_pure _ | exact f_stuck _ | assumption | apply f_loadCells | apply Fine.bind | apply f_arrFor) | split | with_reducible intro _ | dsimp only)
theorem f_makeInterface {wr : Bool} (t : TypeId) (v : Value) : Fine wr (Instr.makeInterface t v) := by
  unfold Instr.makeInterface
  repeat' (first | with_reducible (first | exact f_pure _ | exact f_stuck _ | assumption | apply f_underlying | apply Fine.bind) | split | with_reducible intro _ | dsimp only)
theorem f_eqGuardIn : ∀ (d : Nat) (t : TypeId) (x y : Value), Fine wr (Op.eqGuardIn d t x y)
  | 0, t, x, y => rfl
  | d + 1, t, x, y => by
    have ih := f_eqGuardIn d
    unfold Op.eqGuardIn
    repeat' (first | with_reducible (first | exact f_pure _ | assumption | apply ih | apply f_underlying | apply f_sizeOf | apply f_part | apply Fine.bind | apply f_arrFor | apply f_rangeFor | apply f_ite) | split | with_reducible intro _ | dsimp only)
theorem f_equalIn : ∀ (d : Nat) (t : TypeId) (x y : Value), Fine wr (Op.equalIn d t x y)
  | 0, t, x, y => rfl
  | d + 1, t, x, y => by
    have ih := f_equalIn d
    unfold Op.equalIn
    repeat' (first | with_reducible (first | exact f_pure _ | exact f_choose _ | exact f_program | exact f_stuck _ | exact f_u1 _ | exact f_u5 | assumption | apply ih | apply f_underlying | apply f_sizeOf | apply f_part | apply f_behindNumber | apply f_byteOf | apply f_typeInfo | apply f_sameAddr | apply f_samePointer | apply f_rtp | apply f_typeStr | apply Fine.bind | apply f_arrFor | apply f_rangeFor | apply f_ite) | split | with_reducible intro _ | dsimp only)
end Go.Co
end
section
namespace Go.Co
open Go.Conc
set_option linter.unusedVariables false
set_option linter.unusedSimpArgs false
variable {wr : Bool}
theorem f_floatArith {wr : Bool} (o : BinOp) (k : FloatKind) (x y : Nat) : Fine wr (Op.floatArith o k x y) := by
  unfold Op.floatArith
  repeat' (first | with_reducible (first | exact f_pure _ | exact f_choose _ | exact f_stuck _ | assumption | apply Fine.bind) | split | with_reducible intro _ | dsimp only)
theorem f_floatCmp {wr : Bool} (o : BinOp) (k : FloatKind) (x y : Nat) : Fine wr (Op.floatCmp o k x y) := by
  unfold Op.floatCmp
  repeat' (first | with_reducible (first | exact f_pure _ | exact f_stuck _ | assumption) | split | with_reducible intro _ | dsimp only)
theorem f_intToFloat {wr : Bool} (k : FloatKind) (n : Int) : Fine wr (Conv.intToFloat k n) := by
  unfold Conv.intToFloat
  repeat' (first | with_reducible (first | exact f_pure _ | assumption) | split | with_reducible intro _ | dsimp only)
theorem f_floatToInt {wr : Bool} (s : FloatKind) (b : Nat) (k : IntKind) : Fine wr (Conv.floatToInt s b k) := by
  unfold Conv.floatToInt
  repeat' (first | with_reducible (first | exact f_pure _ | exact f_choose _ | assumption | apply Fine.bind | apply f_ite) | split | with_reducible intro _ | dsimp only)
theorem f_floatToFloat {wr : Bool} (s : FloatKind) (b : Nat) (k : FloatKind) : Fine wr (Conv.floatToFloat s b k) := by
  unfold Conv.floatToFloat
  repeat' (first | with_reducible (first | exact f_pure _ | exact f_choose _ | assumption | apply Fine.bind | apply f_ite) | split | with_reducible intro _ | dsimp only)
theorem f_c2c {wr : Bool} (s : FloatKind) (a b : Nat) (k : FloatKind) : Fine wr (Conv.complexToComplex s a b k) := by
  unfold Conv.complexToComplex
  repeat' (first | with_reducible (first | exact f_pure _ | exact f_stuck _ | assumption | apply f_floatToFloat | apply Fine.bind) | split | with_reducible intro _ | dsimp only)
theorem f_s2r {wr : Bool} (t : TypeId) (s : ByteArray) : Fine wr (Conv.stringToRunes t s) := by
  unfold Conv.stringToRunes
  repeat' (first | with_reducible (first | exact f_pure _ | exact f_choose _ | assumption | apply f_newRow | apply Fine.bind) | split | with_reducible intro _ | dsimp only)
theorem f_r2s {wr : Bool} (v : Value) : Fine wr (Conv.runesToString v) := by
  unfold Conv.runesToString
  repeat' (first | with_reducible (first | exact f_pure _ | exact f_stuck _ | assumption | apply f_loadCells | apply Fine.bind | apply f_arrFor) | split | with_reducible intro _ | dsimp only)
theorem f_carith {wr : Bool} (o : BinOp) (k : FloatKind) (x y : Nat) : Fine wr (Op.Complex.arith o k x y) := by
  unfold Op.Complex.arith
  repeat' (first | with_reducible (first | exact f_pure _ | exact f_stuck _ | assumption | apply f_floatArith | apply Fine.bind) | split | with_reducible intro _ | dsimp only)
theorem f_ccmp {wr : Bool} (o : BinOp) (k : FloatKind) (x y : Nat) : Fine wr (Op.Complex.cmp o k x y) := by
  unfold Op.Complex.cmp
  repeat' (first | with_reducible (first | assumption | apply f_floatCmp | apply f_asBool | apply Fine.bind) | split | with_reducible intro _ | dsimp only)
theorem f_cconv {wr : Bool} (s : FloatKind) (x : Nat) (d : FloatKind) : Fine wr (Op.Complex.conv s x d) := by
  unfold Op.Complex.conv
  repeat' (first | with_reducible (first | exact f_pure _ | exact f_stuck _ | assumption | apply f_floatToFloat | apply Fine.bind | apply f_ite) | split | with_reducible intro _ | dsimp only)
theorem f_cadd {wr : Bool} (x y : Nat) : Fine wr (Op.Complex.add x y) := by
  unfold Op.Complex.add
  repeat' (first | with_reducible (first | assumption | apply f_carith) | split | with_reducible intro _ | dsimp only)
theorem f_csub {wr : Bool} (x y : Nat) : Fine wr (Op.Complex.sub x y) := by
  unfold Op.Complex.sub
  repeat' (first | with_reducible (first | assumption | apply f_carith) | split | with_reducible intro _ | dsimp only)
theorem f_cmul {wr : Bool} (x y : Nat) : Fine wr (Op.Complex.mul x y) := by
  unfold Op.Complex.mul
  repeat' (first | with_reducible (first | assumption | apply f_carith) | split | with_reducible intro _ | dsimp only)
theorem f_cquo {wr : Bool} (x y : Nat) : Fine wr (Op.Complex.quo x y) := by
  unfold Op.Complex.quo
  repeat' (first | with_reducible (first | assumption | apply f_carith) | split | with_reducible intro _ | dsimp only)
theorem f_cprod {wr : Bool} (a b c d : Nat) : Fine wr (Op.Complex.product a b c d) := by
  unfold Op.Complex.product
  repeat' (first | with_reducible (first | exact f_pure _ | assumption | apply f_cmul | apply f_csub | apply f_cadd | apply Fine.bind) | split | with_reducible intro _ | dsimp only)
theorem f_ccorr {wr : Bool} (s a b c d : Nat) : Fine wr (Op.Complex.corrected s a b c d) := by
  unfold Op.Complex.corrected
  repeat' (first | with_reducible (first | exact f_pure _ | assumption | apply f_cmul | apply f_csub | apply f_cadd | apply Fine.bind) | split | with_reducible intro _ | dsimp only)
theorem f_cquot (a b c d : Nat) : Fine wr (Op.Complex.quotient a b c d) := by
  unfold Op.Complex.quotient
  refine Fine.bind (f_ccmp _ _ _ _) fun t => ?_
  have key : ∀ ef : Nat × Nat, Fine wr (do
      let (e, f) := ef
      let zero := (← Op.Complex.cmp .eql .f64 c 0) && (← Op.Complex.cmp .eql .f64 d 0)
      if !(Op.Complex.isNaN e && Op.Complex.isNaN f) then pure (e, f)
      else if zero && (!Op.Complex.isNaN a || !Op.Complex.isNaN b) then
        pure (← Op.Complex.mul (Op.Complex.copysign Op.Complex.inf c) a, ← Op.Complex.mul (Op.Complex.copysign Op.Complex.inf c) b)
      else if (Op.Complex.isInf a || Op.Complex.isInf b) && Op.Complex.isFinite c && Op.Complex.isFinite d then
        Op.Complex.corrected Op.Complex.inf (Op.Complex.inf2one a) (Op.Complex.inf2one b) c d
      else if (Op.Complex.isInf c || Op.Complex.isInf d) && Op.Complex.isFinite a && Op.Complex.isFinite b then
        Op.Complex.corrected 0 a b (Op.Complex.inf2one c) (Op.Complex.inf2one d)
      else pure (e, f) : Sem (Nat × Nat)) := by
    intro ef
    obtain ⟨e, f⟩ := ef
    refine Fine.bind (f_ccmp _ _ _ _) fun _ => Fine.bind (f_ccmp _ _ _ _) fun _ => ?_
    exact f_ite (f_pure _) (f_ite (Fine.bind (f_cmul _ _) fun _ => Fine.bind (f_cmul _ _) fun _ => f_pure _) (f_ite (f_ccorr _ _ _ _ _) (f_ite (f_ccorr _ _ _ _ _) (f_pure _))))
  refine f_ite ?_ ?_
  · exact Fine.bind (f_cquo _ _) fun _ => Fine.bind (f_cmul _ _) fun _ => Fine.bind (f_cadd _ _) fun _ => Fine.bind (f_cmul _ _) fun _ => Fine.bind (f_cadd _ _) fun _ => Fine.bind (f_cquo _ _) fun _ => Fine.bind (f_cmul _ _) fun _ => Fine.bind (f_csub _ _) fun _ => Fine.bind (f_cquo _ _) fun _ => Fine.bind (f_pure _) key
  · exact Fine.bind (f_cquo _ _) fun _ => Fine.bind (f_cmul _ _) fun _ => Fine.bind (f_cadd _ _) fun _ => Fine.bind (f_cmul _ _) fun _ => Fine.bind (f_cadd _ _) fun _ => Fine.bind (f_cquo _ _) fun _ => Fine.bind (f_cmul _ _) fun _ => Fine.bind (f_csub _ _) fun _ => Fine.bind (f_cquo _ _) fun _ => Fine.bind (f_pure _) key
theorem f_complexOp (o : BinOp) (k : FloatKind) (a b c d : Nat) : Fine wr (Op.complexOp o k a b c d) := by
  unfold Op.complexOp
  have m : ∀ o : BinOp, Fine wr (do
    let (a, b, c, d) := (← Op.Complex.conv k a .f64, ← Op.Complex.conv k b .f64, ← Op.Complex.conv k c .f64, ← Op.Complex.conv k d .f64)
    let (e, f) ← if o == .mul then Op.Complex.product a b c d else Op.Complex.quotient a b c d
    pure (Value.complex k (← Op.Complex.conv .f64 e k) (← Op.Complex.conv .f64 f k)) : Sem Value) := by
    intro o
    refine Fine.bind (f_cconv _ _ _) fun _ => Fine.bind (f_cconv _ _ _) fun _ => Fine.bind (f_cconv _ _ _) fun _ => Fine.bind (f_cconv _ _ _) fun _ => ?_
    dsimp only
    refine f_ite (Fine.bind (f_cprod _ _ _ _) fun ef => ?_) (Fine.bind (f_cquot _ _ _ _) fun ef => ?_)
    · obtain ⟨e, f⟩ := ef
      exact Fine.bind (f_cconv _ _ _) fun _ => Fine.bind (f_cconv _ _ _) fun _ => f_pure _
    · obtain ⟨e, f⟩ := ef
      exact Fine.bind (f_cconv _ _ _) fun _ => Fine.bind (f_cconv _ _ _) fun _ => f_pure _
  split
  · exact Fine.bind (f_carith _ _ _ _) fun _ => Fine.bind (f_carith _ _ _ _) fun _ => f_pure _
  · exact Fine.bind (f_carith _ _ _ _) fun _ => Fine.bind (f_carith _ _ _ _) fun _ => f_pure _
  · exact m .mul
  · exact m .quo
  · exact Fine.bind (f_ccmp _ _ _ _) fun _ => Fine.bind (f_ccmp _ _ _ _) fun _ => f_pure _
  · exact Fine.bind (f_ccmp _ _ _ _) fun _ => Fine.bind (f_ccmp _ _ _ _) fun _ => f_pure _
  · exact f_stuck _
theorem f_seenAt {wr : Bool} (a : Addr) : Fine wr (Conv.seenAt a) := by
  unfold Conv.seenAt
  repeat' (first | with_reducible (first | exact f_pure _ | exact f_shape _ | exact f_program | exact f_u3 _ | assumption | apply f_viewAt | apply Fine.bind | apply f_ite) | split | with_reducible intro _ | dsimp only)
theorem f_cellsIn {wr : Bool} (n : Nat) : Fine wr (cellsIn n) := by
  unfold cellsIn
  repeat' (first | with_reducible (first | exact f_pure _ | exact f_shape _ | exact f_getObj _ | assumption | apply Fine.bind) | split | with_reducible intro _ | dsimp only)
theorem f_variablesAt {wr : Bool} (a : Addr) (t : TypeId) (n : Nat) : Fine wr (variablesAt a t n) := by
  unfold variablesAt
  repeat' (first | with_reducible (first | exact f_pure _ | exact f_shape _ | exact f_program | assumption | apply Fine.bind) | split | with_reducible intro _ | dsimp only)
theorem f_asNumber {wr : Bool} (a : Addr) (b : Bool) : Fine wr (asNumber a b) := by
  unfold asNumber
  repeat' (first | with_reducible (first | exact f_pure _ | exact f_newObj _ | assumption | apply Fine.bind) | split | with_reducible intro _ | dsimp only)
theorem f_unsafePointer {wr : Bool} (s d : TypeId) (v : Value) : Fine wr (Conv.unsafePointer s d v) := by
  unfold Conv.unsafePointer
  repeat' (first | with_reducible (first | exact f_pure _ | exact f_newObj _ | exact f_shape _ | exact f_program | exact f_stuck _ | exact f_u3 _ | assumption | apply f_asNumber | apply f_variablesAt | apply f_cellsIn | apply f_seenAt | apply f_sizeOf | apply f_underlying | apply Fine.bind | apply f_ite) | split | with_reducible intro _ | dsimp only)
theorem f_unsafeAdd2 (ts : Array TypeId) (t : TypeId) (p : Option Addr) (x : Value) : Fine wr (Builtin.unsafeAdd_ ts t #[.pointer p, x]) := by
  refine Fine.bind (s := asInt x) (f_asInt x) fun n => ?_
  repeat' (first | with_reducible (first | exact f_pure _ | exact f_shape _ | exact f_program | exact f_u3 _ | assumption | apply f_asInt | apply f_viewAt | apply Fine.bind | apply f_ite) | split | with_reducible intro _ | dsimp only)
theorem f_unsafeAdd (ts : Array TypeId) (t : TypeId) (vs : Array Value) : Fine wr (Builtin.unsafeAdd_ ts t vs) := by
  obtain ⟨l⟩ := vs
  match l with
  | [] => exact f_stuck _
  | [_] => exact f_stuck _
  | [.pointer p, x] => exact f_unsafeAdd2 ts t p x
  | [a, b] => cases a <;> first | exact f_unsafeAdd2 ts t _ b | exact f_stuck _
  | _ :: _ :: _ :: _ => exact f_stuck _
theorem f_movedNumber {wr : Bool} (t : TypeId) (x y : Value) : Fine wr (movedNumber t x y) := by
  unfold movedNumber
  repeat' (first | with_reducible (first | exact f_pure _ | exact f_u3 _ | assumption | apply f_unsafeAdd | apply f_asNumber | apply f_behindNumber | apply f_underlying | apply Fine.bind | apply f_ite) | split | with_reducible intro _ | dsimp only)
theorem f_movedPointer {wr : Bool} (t : TypeId) (x y : Value) : Fine wr (movedPointer t x y) := by
  unfold movedPointer
  repeat' (first | with_reducible (first | exact f_u5 | assumption | apply f_unsafeAdd | apply f_numberAt | apply Fine.bind | apply f_ite) | split | with_reducible intro _ | dsimp only)
theorem f_twoPlaces {wr : Bool} (a b : Addr) : Fine wr (Op.twoPlaces a b) := by
  unfold Op.twoPlaces
  repeat' (first | with_reducible (first | exact f_pure _ | exact f_program | exact f_u5 | assumption | apply f_byteOf | apply Fine.bind | apply f_ite) | split | with_reducible intro _ | dsimp only)
theorem f_addrSub {wr : Bool} (k : IntKind) (a b : Addr) : Fine wr (Op.addrSub k a b) := by
  unfold Op.addrSub
  repeat' (first | with_reducible (first | exact f_pure _ | assumption | apply f_twoPlaces | apply Fine.bind) | split | with_reducible intro _ | dsimp only)
theorem f_addrCmp {wr : Bool} (o : BinOp) (a b : Addr) : Fine wr (Op.addrCmp o a b) := by
  unfold Op.addrCmp
  repeat' (first | with_reducible (first | exact f_pure _ | exact f_u5 | assumption | apply f_twoPlaces | apply Fine.bind) | split | with_reducible intro _ | dsimp only)
theorem f_addrMod {wr : Bool} (k : IntKind) (a : Addr) (n : Int) : Fine wr (Op.addrMod k a n) := by
  unfold Op.addrMod
  repeat' (first | with_reducible (first | exact f_pure _ | exact f_shape _ | exact f_u5 | assumption | apply f_byteOf | apply f_typeInfo | apply Fine.bind | apply f_ite) | split | with_reducible intro _ | dsimp only)
theorem f_equal {wr : Bool} (t : TypeId) (x y : Value) : Fine wr (Op.equal t x y) := by
  unfold Op.equal
  repeat' (first | with_reducible (first | assumption | apply f_equalIn) | split | with_reducible intro _ | dsimp only)
theorem f_eqGuard {wr : Bool} (o : BinOp) (t : TypeId) (x y : Operand) (a b : Value) : Fine wr (eqGuard o t x y a b) := by
  unfold eqGuard
  repeat' (first | with_reducible (first | exact f_pure _ | exact f_program | exact f_u1 _ | assumption | apply f_eqGuardIn | apply Fine.bind | apply f_ite) | split | with_reducible intro _ | dsimp only)
set_option maxHeartbeats 4000000 in
theorem f_binOp {wr : Bool} (o : BinOp) (t : TypeId) (x y : Value) : Fine wr (binOp o t x y) := by
  unfold binOp
  repeat' (first | with_reducible (first | exact f_pure _ | exact f_stuck _ | exact f_u5 | assumption | apply f_equal | apply f_addrMod | apply f_addrCmp | apply f_addrSub | apply f_movedPointer | apply f_movedNumber | apply f_complexOp | apply f_floatCmp | apply f_floatArith | apply f_stringOp | apply f_intCmp | apply f_shift | apply f_intBits | apply f_intDiv | apply f_intArith | apply f_behindNumber | apply f_underlying | apply Fine.bind | apply f_ite) | split | with_reducible intro _ | dsimp only)
set_option maxHeartbeats 2000000 in
theorem f_convert {wr : Bool} (s d : TypeId) (x : Value) : Fine wr (convert s d x) := by
  unfold convert
  repeat' (first | with_reducible (first | exact f_pure _ | exact f_stuck _ | exact f_u1 _ | exact f_u5 | assumption | apply f_unsafePointer | apply f_r2s | apply f_s2r | apply f_c2c | apply f_floatToFloat | apply f_floatToInt | apply f_intToFloat | apply f_bytesToString | apply f_stringToBytes | apply f_intToString | apply f_intToInt | apply f_markStringish | apply f_underlying | apply Fine.bind) | split | with_reducible intro _ | dsimp only)
end Go.Co
end

import Derived.Test.YtjdppgogdilgkaaLB
section
namespace Go.Co
open Go.Conc
set_option linter.unusedVariables false
set_option linter.unusedSimpArgs false
def tp (w : World) (T : Tape) (D : Nat) : World := { w with tape := T, drawn := D }
theorem tp_tp (w : World) (T T' : Tape) (D D' : Nat) : tp (tp w T D) T' D' = tp w T' D' := rfl
theorem tp_self (w : World) : tp w w.tape w.drawn = w := rfl
def Rworld {α : Type} : Result α → World
  | .ok _ w => w
  | .halt _ w => w
def Rtp {α : Type} (r : Result α) (T : Tape) (D : Nat) : Result α :=
  match r with
  | .ok a w => .ok a (tp w T D)
  | .halt h w => .halt h (tp w T D)
def Agree (T : Tape) (D : Nat) (U : Tape) (E k : Nat) : Prop := ∀ j, j < k → ∀ q, T (D + j) q = U (E + j) q
theorem Agree.tail {T U : Tape} {D E k : Nat} (h : Agree T D U E (k + 1)) : Agree T (D + 1) U (E + 1) k := fun j hj q => by
  have := h (j + 1) (by omega) q
  rw [show D + 1 + j = D + (j + 1) by omega, show E + 1 + j = E + (j + 1) by omega]
  exact this
theorem Agree.left {T U : Tape} {D E k m : Nat} (h : Agree T D U E (k + m)) : Agree T D U E k := fun j hj q => h j (by omega) q
theorem Agree.right {T U : Tape} {D E k m : Nat} (h : Agree T D U E (k + m)) : Agree T (D + k) U (E + k) m := fun j hj q => by
  have := h (k + j) (by omega) q
  rw [show D + k + j = D + (k + j) by omega, show E + k + j = E + (k + j) by omega]
  exact this
def LowE (B : Nat) (es : Array Event) : Prop := ∀ e ∈ es, e.loc.low B
theorem LowE.nil {B : Nat} : LowE B #[] := fun e h => by simp at h
theorem LowE.append {B : Nat} {es us : Array Event} (h : LowE B es) (h2 : LowE B us) : LowE B (es ++ us) := fun x hx => (Array.mem_append.1 hx).elim (h x) (h2 x)
theorem LowE.mono {B B' : Nat} {es : Array Event} (h : LowE B es) (hb : B ≤ B') : LowE B' es := fun x hx => Loc.low_mono hb (h x hx)
theorem cell_lt {w : World} {a : Addr} {v : Value} (h : w.cell? a = some v) : a.block < w.heap.size := by
  unfold World.cell? at h
  split at h
  · next h2 => exact (Array.getElem?_eq_some_iff.1 h2).1
  · cases h
theorem seen_lt {P : Program} {w : World} {at_ : Addr} {u : TypeId} {k : Addr} {b : Bool} {r} (h : w.seen P at_ u k b = .ok r) : at_.block < w.heap.size := by
  unfold World.seen at h
  simp only [bind, Except.bind, pure, Except.pure, throw, throwThe, MonadExceptOf.throw] at h
  repeat' split at h
  all_goals first
    | (cases h; done)
    | (next hh _ _ => exact (Array.getElem?_eq_some_iff.1 hh).1)
    | skip
  all_goals (rename_i hh _ _ _ _; exact (Array.getElem?_eq_some_iff.1 (by assumption)).1)
theorem viewLoad_lt {P : Program} {w : World} {at_ : Addr} {u : TypeId} {k : Addr} {b : Bool} {v : Value} {l : List Addr} (h : w.viewLoad P at_ u k b = .ok (v, l)) : ∀ a ∈ l, a.block < w.heap.size := by
  unfold World.viewLoad at h
  simp only [bind, Except.bind, pure, Except.pure, throw, throwThe, MonadExceptOf.throw] at h
  cases hs : w.seen P at_ u k b with
  | error e => rw [hs] at h; cases h
  | ok r =>
    rw [hs] at h
    have hlt := seen_lt hs
    simp only at h
    split at h
    · injection h with h
      injection h with h1 h2
      subst h2
      intro a ha
      obtain ⟨x, _, rfl⟩ := List.mem_map.1 ha
      exact hlt
    · cases h
theorem viewStore_lt {P : Program} {w w' : World} {at_ : Addr} {u : TypeId} {k : Addr} {v : Value} {b : Bool} {l : List Addr} (h : w.viewStore P at_ u k v b = .ok (w', l)) :
    (∀ a ∈ l, a.block < w.heap.size) ∧ ∃ o, w' = { w with heap := w.heap.setIfInBounds at_.block o } ∧ ∀ T D, (tp w T D).viewStore P at_ u k v b = .ok (tp w' T D, l) := by
  have key : ∀ T D, (tp w T D).viewStore P at_ u k v b = (w.viewStore P at_ u k v b).map fun r => (tp r.1 T D, r.2) := by
    intro T D
    unfold World.viewStore
    have hs : (tp w T D).seen P at_ u k b = w.seen P at_ u k b := rfl
    simp only [bind, Except.bind, pure, Except.pure, throw, throwThe, MonadExceptOf.throw, hs]
    repeat' split
    all_goals rfl
  have key2 : ∀ T D, (tp w T D).viewStore P at_ u k v b = .ok (tp w' T D, l) := fun T D => by rw [key, h]; rfl
  unfold World.viewStore at h
  simp only [bind, Except.bind, pure, Except.pure, throw, throwThe, MonadExceptOf.throw] at h
  cases hs : w.seen P at_ u k b with
  | error e =>
    rw [hs] at h
    repeat' split at h
    all_goals first
      | (cases h; done)
      | contradiction
  | ok r =>
    rw [hs] at h
    have hlt := seen_lt hs
    simp only at h
    repeat' split at h
    all_goals first
      | (cases h; done)
      | skip
    all_goals
      injection h with h
      injection h with h1 h2
      subst h2
      refine ⟨fun a ha => ?_, _, h1.symm, key2⟩
      obtain ⟨x, _, rfl⟩ := List.mem_map.1 ha
      exact hlt
theorem farLoad_lt {P : Program} {w : World} {a : Addr} {b : Bool} {v : Value} {l : List Addr} (h : w.farLoad P a b = .ok (v, l)) : ∀ x ∈ l, x.block < w.heap.size := by
  unfold World.farLoad at h
  split at h
  · split at h
    · next r hr => injection h with h; subst h; exact viewLoad_lt hr
    · cases h
  · cases h
theorem farStore_lt {P : Program} {w w' : World} {a : Addr} {v : Value} {b : Bool} {l : List Addr} (h : w.farStore P a v b = .ok (w', l)) :
    (∀ x ∈ l, x.block < w.heap.size) ∧ ∃ r o, w' = { w with heap := w.heap.setIfInBounds r o } := by
  unfold World.farStore at h
  split at h
  · split at h
    · next r hr =>
      injection h with h; subst h
      obtain ⟨h1, o, h2, h3⟩ := viewStore_lt hr
      exact ⟨h1, _, o, h2⟩
    · cases h
  · cases h
theorem farStore_tp {P : Program} {w : World} {a : Addr} {v : Value} {b : Bool} (T : Tape) (D : Nat) : (tp w T D).farStore P a v b = (match w.farStore P a v b with | .ok (w', l) => .ok (tp w' T D, l) | .error h => .error h) := by
  unfold World.farStore
  show (match w.heap[a.block]? with | some (.view at_ u) => _ | _ => _) = _
  cases hh : w.heap[a.block]? with
  | none => simp only [hh]; rfl
  | some o =>
    cases o with
    | view at_ u =>
      simp only [hh]
      cases hs : w.viewStore P at_ u a v b with
      | ok r =>
        obtain ⟨w', l⟩ := r
        obtain ⟨_, o, _, h3⟩ := viewStore_lt hs
        rw [h3 T D]
      | error e =>
        have key : (tp w T D).viewStore P at_ u a v b = (w.viewStore P at_ u a v b).map fun r => (tp r.1 T D, r.2) := by
          unfold World.viewStore
          have hs : (tp w T D).seen P at_ u a b = w.seen P at_ u a b := rfl
          simp only [bind, Except.bind, pure, Except.pure, throw, throwThe, MonadExceptOf.throw, hs]
          repeat' split
          all_goals rfl
        rw [key, hs]
        rfl
    | _ => simp only [hh]; rfl
structure Kept (w w' : World) : Prop where
  os : w'.os = w.os
  out : w'.output = w.output
  tape : w'.tape = w.tape
  size : w.heap.size ≤ w'.heap.size
theorem Kept.refl (w : World) : Kept w w := ⟨rfl, rfl, rfl, Nat.le_refl _⟩
theorem Kept.trans {a b c : World} (h : Kept a b) (k : Kept b c) : Kept a c := ⟨k.os.trans h.os, k.out.trans h.out, k.tape.trans h.tape, Nat.le_trans h.size k.size⟩
theorem Kept.setCell (w : World) (a : Addr) (v : Value) : Kept w (w.setCell a v) := ⟨rfl, rfl, rfl, by simp [World.setCell]⟩
theorem Kept.freeze (w : World) (a : Addr) (n : Nat) : Kept w (w.freeze a n) := by
  unfold World.freeze
  split
  · exact Kept.refl w
  · exact ⟨rfl, rfl, rfl, by simp⟩
theorem Kept.set (w : World) (r : Nat) (o : Obj) : Kept w { w with heap := w.heap.setIfInBounds r o } := ⟨rfl, rfl, rfl, by simp⟩
theorem Kept.push (w : World) (o : Obj) : Kept w { w with heap := w.heap.push o } := ⟨rfl, rfl, rfl, by simp⟩
def Taped {α : Type} (P : Program) (s : Sem α) (w : World) (es : Array Event) : Prop :=
  ∃ us k, (s.runT P w es).2 = es ++ us ∧ LowE (Rworld (s.runT P w es).1).heap.size us ∧ Kept w (Rworld (s.runT P w es).1) ∧ (Rworld (s.runT P w es).1).drawn = w.drawn + k ∧
    ∀ T D, Agree T D w.tape w.drawn k → s.runT P (tp w T D) es = (Rtp (s.runT P w es).1 T (D + k), (s.runT P w es).2)
theorem Taped.one {α : Type} {P : Program} {s : Sem α} {w w1 : World} {es us : Array Event} {s' : Sem α} (e1 : s.runT P w es = s'.runT P w1 (es ++ us)) (hk : Kept w w1) (hd : w1.drawn = w.drawn) (hl : LowE w1.heap.size us)
    (e2 : ∀ T D, s.runT P (tp w T D) es = s'.runT P (tp w1 T D) (es ++ us)) (h : Taped P s' w1 (es ++ us)) : Taped P s w es := by
  obtain ⟨us', k, h1, h2, h3, h4, h5⟩ := h
  refine ⟨us ++ us', k, by rw [e1, h1, Array.append_assoc], ?_, ?_, ?_, fun T D ha => ?_⟩
  · rw [e1]; exact (hl.mono h3.size).append h2
  · rw [e1]; exact hk.trans h3
  · rw [e1, h4, hd]
  · rw [e1, e2, h5 T D (by rw [hk.tape, hd]; exact ha)]
theorem taped_end {α : Type} {P : Program} {s : Sem α} {w : World} {es : Array Event} (r : Result α) (hr : Rworld r = w) (e1 : s.runT P w es = (r, es)) (e2 : ∀ T D, s.runT P (tp w T D) es = (Rtp r T D, es)) : Taped P s w es :=
  ⟨#[], 0, by rw [e1]; simp, LowE.nil, by rw [e1, hr]; exact Kept.refl w, by rw [e1, hr]; rfl, fun T D _ => by rw [e1, e2]; rfl⟩
theorem taped {wr : Bool} {α : Type} (P : Program) (s : Sem α) : Fine wr s → ∀ (w : World) (es : Array Event), Taped P s w es := by
  induction s with
  | pure a => exact fun _ w es => taped_end (.ok a w) rfl rfl fun T D => rfl
  | load m a k ih =>
    intro h w es
    cases hc : w.cell? a with
    | some v =>
      refine Taped.one (s' := k v) (w1 := w) (us := #[⟨.cell a, false, m == .atomic⟩]) (by simp only [Sem.runT, hc, Array.push_eq_append]) (Kept.refl w) rfl (fun e he => ?_) (fun T D => ?_) (ih v (h v) w _)
      · simp only [List.mem_toArray, List.mem_singleton] at he; subst he; exact cell_lt hc
      · have : (tp w T D).cell? a = some v := hc
        simp only [Sem.runT, this, Array.push_eq_append]
    | none =>
      have hc' : ∀ T D, (tp w T D).cell? a = none := fun T D => hc
      cases hf : w.farLoad P a (m == .atomic) with
      | ok r =>
        obtain ⟨v, l⟩ := r
        have hf' : ∀ T D, (tp w T D).farLoad P a (m == .atomic) = .ok (v, l) := fun T D => hf
        refine Taped.one (s' := k v) (w1 := w) (us := l.toArray.map (⟨.cell ·, false, m == .atomic⟩)) (by simp only [Sem.runT, hc, hf]) (Kept.refl w) rfl (fun e he => ?_) (fun T D => by simp only [Sem.runT, hc' T D, hf' T D]) (ih v (h v) w _)
        obtain ⟨x, hx, rfl⟩ := Array.mem_map.1 he
        exact farLoad_lt hf x (by simpa using hx)
      | error hh =>
        have hf' : ∀ T D, (tp w T D).farLoad P a (m == .atomic) = .error hh := fun T D => hf
        exact taped_end (.halt hh w) rfl (by simp only [Sem.runT, hc, hf]) fun T D => by simp only [Sem.runT, hc' T D, hf' T D]; rfl
  | store m a v k ih =>
    intro h w es
    have hwr : wr = true := h.1
    have key : ∀ v : Value, (∀ cs, v ≠ .agg cs) → (∀ cs, v ≠ .tuple cs) → Taped P (Sem.store m a v k) w es := by
      intro v hv1 hv2
      have e0 : ∀ w : World, (Sem.store m a v k).runT P w es = (match w.cell? a with
          | some _ =>
            if w.frozen? a then (.halt (.unsupported (.unsafePointer "a write to bytes that a string shares")) w, es)
            else k.runT P (w.setCell a v) (es.push ⟨.cell a, true, m == .atomic⟩)
          | none => match w.farStore P a v (m == .atomic) with
            | .ok (w, touched) => k.runT P w (es ++ touched.toArray.map (⟨.cell ·, true, m == .atomic⟩))
            | .error h => (.halt h w, es)) := by
        intro w
        cases v <;> first | rfl | exact absurd rfl (hv1 _) | exact absurd rfl (hv2 _)
      cases hc : w.cell? a with
      | some u =>
        have hc' : ∀ T D, (tp w T D).cell? a = some u := fun T D => hc
        cases hfz : w.frozen? a with
        | true =>
          have hfz' : ∀ T D, (tp w T D).frozen? a = true := fun T D => hfz
          exact taped_end (.halt (.unsupported (.unsafePointer "a write to bytes that a string shares")) w) rfl (by rw [e0]; simp only [hc, hfz, if_true]) fun T D => by rw [e0]; simp only [hc' T D, hfz' T D, if_true]; rfl
        | false =>
          have hfz' : ∀ T D, (tp w T D).frozen? a = false := fun T D => hfz
          refine Taped.one (s' := k) (w1 := w.setCell a v) (us := #[⟨.cell a, true, m == .atomic⟩]) (by rw [e0]; simp [hc, hfz]) (Kept.setCell w a v) rfl (fun e he => ?_) (fun T D => ?_) (ih h.2 _ _)
          · simp only [List.mem_toArray, List.mem_singleton] at he; subst he
            have := cell_lt hc
            simp only [World.setCell, Array.size_modify]; exact this
          · rw [e0]; simp only [hc' T D, hfz' T D, Array.push_eq_append]; rfl
      | none =>
        have hc' : ∀ T D, (tp w T D).cell? a = none := fun T D => hc
        cases hf : w.farStore P a v (m == .atomic) with
        | ok r =>
          obtain ⟨w1, l⟩ := r
          obtain ⟨g1, r, o, g2⟩ := farStore_lt hf
          have hf' : ∀ T D, (tp w T D).farStore P a v (m == .atomic) = .ok (tp w1 T D, l) := fun T D => by rw [farStore_tp, hf]
          refine Taped.one (s' := k) (w1 := w1) (us := l.toArray.map (⟨.cell ·, true, m == .atomic⟩)) (by rw [e0]; simp only [hc, hf]) (by rw [g2]; exact Kept.set w r o) (by rw [g2]) (fun e he => ?_) (fun T D => by rw [e0]; simp only [hc' T D, hf' T D]) (ih h.2 _ _)
          obtain ⟨x, hx, rfl⟩ := Array.mem_map.1 he
          have := g1 x (by simpa using hx)
          rw [g2]; simp only [Array.size_setIfInBounds]; exact this
        | error hh =>
          have hf' : ∀ T D, (tp w T D).farStore P a v (m == .atomic) = .error hh := fun T D => by rw [farStore_tp, hf]
          exact taped_end (.halt hh w) rfl (by rw [e0]; simp only [hc, hf]) fun T D => by rw [e0]; simp only [hc' T D, hf' T D]; rfl
    by_cases h1 : ∃ cs, v = .agg cs
    · obtain ⟨cs, rfl⟩ := h1
      exact taped_end (.halt (.stuck "store: not the value of one cell") w) rfl rfl fun T D => rfl
    · by_cases h2 : ∃ cs, v = .tuple cs
      · obtain ⟨cs, rfl⟩ := h2
        exact taped_end (.halt (.stuck "store: not the value of one cell") w) rfl rfl fun T D => rfl
      · exact key v (fun cs e => h1 ⟨cs, e⟩) (fun cs e => h2 ⟨cs, e⟩)
  | new o k ih =>
    intro h w es
    exact Taped.one (s' := k w.heap.size) (w1 := { w with heap := w.heap.push o }) (us := #[]) (by simp only [Sem.runT, Array.append_empty]) (Kept.push w o) rfl LowE.nil (fun T D => by simp only [Sem.runT, Array.append_empty]; rfl) (ih _ (h _) _ _)
  | shape r k ih =>
    intro h w es
    exact Taped.one (s' := k (w.shape? r)) (w1 := w) (us := #[]) (by simp only [Sem.runT, Array.append_empty]) (Kept.refl w) rfl LowE.nil (fun T D => by simp only [Sem.runT, Array.append_empty]; rfl) (ih _ (h _) _ _)
  | freeze a m k ih =>
    intro h w es
    refine Taped.one (s' := k) (w1 := w.freeze a m) (us := #[]) (by simp only [Sem.runT, Array.append_empty]) (Kept.freeze w a m) ?_ LowE.nil (fun T D => ?_) (ih h _ _)
    · unfold World.freeze; split <;> rfl
    · simp only [Sem.runT, Array.append_empty]
      congr 1
      unfold World.freeze; split <;> rfl
  | frozen a k ih =>
    intro h w es
    exact Taped.one (s' := k (w.frozen? a)) (w1 := w) (us := #[]) (by simp only [Sem.runT, Array.append_empty]) (Kept.refl w) rfl LowE.nil (fun T D => by simp only [Sem.runT, Array.append_empty]; rfl) (ih _ (h _) _ _)
  | getObj r k ih =>
    intro h w es
    cases hh : w.heap[r]? with
    | none =>
      have hh' : ∀ T D, (tp w T D).heap[r]? = none := fun T D => hh
      exact taped_end (.halt (.stuck "getObj: no such block") w) rfl (by simp only [Sem.runT, hh]) fun T D => by simp only [Sem.runT, hh' T D]; rfl
    | some o =>
      have hh' : ∀ T D, (tp w T D).heap[r]? = some o := fun T D => hh
      have hlt : r < w.heap.size := (Array.getElem?_eq_some_iff.1 hh).1
      by_cases hcl : ∃ c t f, o = .cells c t f
      · obtain ⟨c, t, f, rfl⟩ := hcl
        exact taped_end (.halt (.stuck "getObj: a row of cells") w) rfl (by simp only [Sem.runT, hh]) fun T D => by simp only [Sem.runT, hh' T D]; rfl
      · have e1 : ∀ w : World, w.heap[r]? = some o → (Sem.getObj r k).runT P w es = (k o).runT P w (es ++ #[⟨.obj r, false, o.isChan⟩]) := by
          intro w hw
          cases o <;> first | (exact absurd ⟨_, _, _, rfl⟩ hcl) | simp only [Sem.runT, hw, Array.push_eq_append]
        refine Taped.one (s' := k o) (w1 := w) (us := #[⟨.obj r, false, o.isChan⟩]) (e1 w hh) (Kept.refl w) rfl (fun e he => ?_) (fun T D => e1 _ (hh' T D)) (ih o (h o) w _)
        simp only [List.mem_toArray, List.mem_singleton] at he; subst he; exact hlt
  | setObj r o k ih =>
    intro h w es
    have hwr : wr = true := h.1
    have e0 : ∀ w : World, (Sem.setObj r o k).runT P w es = (match w.heap[r]? with
      | some (.cells ..) => (.halt (.stuck "setObj: a row of cells") w, es)
      | some _ => k.runT P { w with heap := w.heap.setIfInBounds r o } (es.push ⟨.obj r, true, o.isChan⟩)
      | none => (.halt (.stuck "setObj: no such block") w, es)) := fun w => rfl
    cases hh : w.heap[r]? with
    | none =>
      have hh' : ∀ T D, (tp w T D).heap[r]? = none := fun T D => hh
      exact taped_end (.halt (.stuck "setObj: no such block") w) rfl (by rw [e0]; simp only [hh]) fun T D => by rw [e0]; simp only [hh' T D]; rfl
    | some o' =>
      have hh' : ∀ T D, (tp w T D).heap[r]? = some o' := fun T D => hh
      have hlt : r < w.heap.size := (Array.getElem?_eq_some_iff.1 hh).1
      by_cases hcl : ∃ c t f, o' = .cells c t f
      · obtain ⟨c, t, f, rfl⟩ := hcl
        exact taped_end (.halt (.stuck "setObj: a row of cells") w) rfl (by rw [e0]; simp only [hh]) fun T D => by rw [e0]; simp only [hh' T D]; rfl
      · have e1 : ∀ w : World, w.heap[r]? = some o' → (Sem.setObj r o k).runT P w es = k.runT P { w with heap := w.heap.setIfInBounds r o } (es ++ #[⟨.obj r, true, o.isChan⟩]) := by
          intro w hw
          rw [e0]
          simp only [hw]
          cases o' <;> first | (exact absurd ⟨_, _, _, rfl⟩ hcl) | simp only [Array.push_eq_append]
        refine Taped.one (s' := k) (w1 := { w with heap := w.heap.setIfInBounds r o }) (us := #[⟨.obj r, true, o.isChan⟩]) (e1 w hh) (Kept.set w r o) rfl (fun e he => ?_) (fun T D => e1 _ (hh' T D)) (ih h.2 _ _)
        simp only [List.mem_toArray, List.mem_singleton] at he; subst he
        simp only [Array.size_setIfInBounds]; exact hlt
  | choose q k ih =>
    intro h w es
    cases hq : q.forced with
    | true => exact Taped.one (s' := k 0) (w1 := w) (us := #[]) (by simp only [Sem.runT, hq, if_true, Array.append_empty]) (Kept.refl w) rfl LowE.nil (fun T D => by simp only [Sem.runT, hq, if_true, Array.append_empty]) (ih _ (h _) _ _)
    | false =>
      obtain ⟨us, m, h1, h2, h3, h4, h5⟩ := ih (q.cut (w.tape w.drawn q)) (h _) { w with drawn := w.drawn + 1 } es
      have e0 : (Sem.choose q k).runT P w es = (k (q.cut (w.tape w.drawn q))).runT P { w with drawn := w.drawn + 1 } es := by simp [Sem.runT, hq]
      refine ⟨us, m + 1, by rw [e0]; exact h1, by rw [e0]; exact h2, by rw [e0]; exact ⟨h3.os, h3.out, h3.tape, h3.size⟩, by rw [e0, h4]; show w.drawn + 1 + m = _; omega, fun T D ha => ?_⟩
      have e1 : (Sem.choose q k).runT P (tp w T D) es = (k (q.cut (T D q))).runT P (tp { w with drawn := w.drawn + 1 } T (D + 1)) es := by simp [Sem.runT, hq, tp]
      have e2 : T D q = w.tape w.drawn q := ha 0 (by omega) q
      rw [e1, e2, e0, h5 T (D + 1) ha.tail, show D + (m + 1) = D + 1 + m by omega]
  | sys c k ih =>
    intro h w es
    obtain ⟨rfl, hwr, hk⟩ := h
    refine Taped.one (s' := k (.strings w.os.env)) (w1 := w) (us := #[⟨.output, true, false⟩]) ?_ (Kept.refl w) rfl (fun e he => ?_) (fun T D => ?_) (ih _ (hk _) w _)
    · show (k (.strings w.os.env)).runT P w (es.push ⟨.output, true, false⟩) = _
      simp only [Array.push_eq_append]
    · simp only [List.mem_toArray, List.mem_singleton] at he; subst he; trivial
    · show (k (.strings w.os.env)).runT P (tp w T D) (es.push ⟨.output, true, false⟩) = _
      simp only [Array.push_eq_append]
  | program k ih =>
    intro h w es
    exact Taped.one (s' := k P) (w1 := w) (us := #[]) (by simp only [Sem.runT, Array.append_empty]) (Kept.refl w) rfl LowE.nil (fun T D => by simp only [Sem.runT, Array.append_empty]) (ih _ (h _) _ _)
  | mark m k ih =>
    intro h w es
    refine Taped.one (s' := k) (w1 := w) (us := #[⟨.mark m, false, true⟩]) (by simp only [Sem.runT, Array.push_eq_append]) (Kept.refl w) rfl (fun e he => ?_) (fun T D => by simp only [Sem.runT, Array.push_eq_append]) (ih h.2 _ _)
    simp only [List.mem_toArray, List.mem_singleton] at he; subst he; trivial
  | halt hh => exact fun h w es => taped_end (.halt hh w) rfl rfl fun T D => rfl
end Go.Co
end
section
namespace Go.Co
open Go.Conc
set_option linter.unusedVariables false
set_option linter.unusedSimpArgs false
def ext (fr : Frame) (k : List Item) : Frame := { fr with todo := fr.todo ++ k }
theorem ext_nil (fr : Frame) : ext fr [] = fr := by cases fr; simp [ext]
theorem ext_at (b : Frame) (a : Act) (t k : List Item) : ext (b.at a t) k = b.at a (t ++ k) := rfl
section
variable (wr : Bool) (P : Program) (F : FuncId → Bool) (n : Nat)
structure Left (w w' : World) (es : Array Event) (m : Nat) : Prop where
  ev : EvOk wr es
  low : LowE w'.heap.size es
  kept : Kept w w'
  cells : Low n w'
  drawn : w'.drawn = w.drawn + m
def Stay (fr : Frame) (w : World) : Prop := ∃ m fr' w' es, TF wr F fr' ∧ Left wr n w w' es m ∧
  ∀ main k cs T D, Agree T D w.tape w.drawn m → stepG P main (G (ext fr k) cs) (tp w T D) = .go (G (ext fr' k) cs) (tp w' T (D + m)) es
def Push (fr : Frame) (w : World) : Prop := ∃ m g w' es, TF wr F g ∧ g.mode = .run ∧ Left wr n w w' es m ∧
  ∀ main k cs T D, Agree T D w.tape w.drawn m → stepG P main (G (ext fr k) cs) (tp w T D) = .go (G g (ext fr k :: cs)) (tp w' T (D + m)) es
def Ends (fr : Frame) (w : World) : Prop := ∃ m, ∀ main k cs T D, Agree T D w.tape w.drawn m → ∃ o w' es, stepG P main (G (ext fr k) cs) (tp w T D) = .ended o w' es
def Pop (fr c : Frame) (w : World) : Prop := ∃ m c' w' es, TF wr F c' ∧ Left wr n w w' es m ∧
  ∀ main k cs T D, Agree T D w.tape w.drawn m → stepG P main (G fr (ext c k :: cs)) (tp w T D) = .go (G (ext c' k) cs) (tp w' T (D + m)) es
def Ends1 (fr c : Frame) (w : World) : Prop := ∃ m, ∀ main k cs T D, Agree T D w.tape w.drawn m → ∃ o w' es, stepG P main (G fr (ext c k :: cs)) (tp w T D) = .ended o w' es
end
theorem fine_v {wr : Bool} {s : Sem Value} (h : Fine wr s) : Fine wr (do pure (Next.value (← s)) : Sem Next) := Fine.bind h fun _ => trivial
theorem fine_s {wr : Bool} {s : Sem Unit} (h : Fine wr s) : Fine wr (do s; pure Next.skip : Sem Next) := Fine.bind h fun _ => trivial
theorem exec_fine {wr : Bool} {F : FuncId → Bool} {P : Program} (hB : Bodied wr P F) {ρ : Operand → Value} (hρ : ∀ k, ρ (.func k) = .func (.func k) #[] #[]) {o : Oper} (ho : opT wr F o.op = true) :
    (Fine wr (execOp ρ o) ∨ ∃ s : Sem Next, Fine wr s ∧ ∀ w, (execOp ρ o).runT P w #[] = s.runT P w #[]) ∨ ∃ k args, ∀ w, (execOp ρ o).runT P w #[] = (.ok (.enter k args) w, #[]) := by
  obtain ⟨dst, op, ty, pos, af, gd⟩ := o
  simp only at ho
  cases op with
  | move x => exact .inl (.inl trivial)
  | assign x => exact .inl (.inl trivial)
  | pick c a b => exact .inl (.inl (Fine.bind (f_asBool (ρ c)) fun _ => trivial))
  | alloc e => exact .inl (.inl (fine_v (f_alloc _)))
  | box e x => exact .inl (.inl (fine_v (f_box _ _)))
  | build t ps => exact .inl (.inl (fine_v (f_build _ _)))
  | buildSlice t l ps => exact .inl (.inl (fine_v (f_buildSlice _ _ _)))
  | load t a => exact .inl (.inl (fine_v (f_loadAt _ _)))
  | store t a x =>
    have hwr : wr = true := ho
    subst hwr
    exact .inl (.inl (fine_s (f_storeAt (wr := true) _ _ _)))
  | binOp b t x y yt => exact .inl (.inl (fine_v (Fine.bind (f_eqGuard _ _ _ _ _ _) fun _ => f_binOp _ _ _ _)))
  | unOp u t x => exact .inl (.inl (fine_v (f_unary _ _)))
  | convert s d x => exact .inl (.inl (fine_v (f_convert _ _ _)))
  | sliceToArrayPointer a x => exact .inl (.inl (fine_v (f_arrayAt _ _)))
  | makeInterface t x => exact .inl (.inl (fine_v (f_makeInterface _ _)))
  | makeFunc f a c => exact .inl (.inl (fine_v (f_makeFunc _ _ _)))
  | makeSlice t l c => exact .inl (.inl (fine_v (f_makeSlice _ _ _)))
  | slice t x a b c => exact .inl (.inl (fine_v (f_sliceAt _ _ _ _ _)))
  | fieldAddr t x f => exact .inl (.inl (fine_v (f_fieldAt _ _ _)))
  | field t x f => exact .inl (.inl (fine_v (f_field _ _ _)))
  | indexAddr t x i => exact .inl (.inl (fine_v (f_indexAt _ _ _)))
  | index t x i => exact .inl (.inl (fine_v (f_index _ _ _)))
  | extract x i => exact .inl (.inl (fine_v (f_extract _ _)))
  | nilCheck x => rw [nilCk_eq]; exact .inl (.inl (fine_v (f_nilCk _)))
  | panic x =>
    have hwr : wr = true := ho
    subst hwr
    exact .inl (.inl (fine_v (f_panic _)))
  | makeMap t r => exact .inl (.inl (fine_v (f_makeMap _ _)))
  | lookup t x i b => exact .inl (.inl (fine_v (f_lookup _ _ _ _)))
  | mapUpdate t m k x =>
    have hwr : wr = true := ho
    subst hwr
    exact .inl (.inl (fine_s (f_mapUpdate _ _ _ _)))
  | call c =>
    obtain ⟨callee, args, argTypes⟩ := c
    cases callee with
    | builtin b =>
      cases b <;> first
        | (simp [opT, bT] at ho; done)
        | (have hwr : wr = true := ho; subst hwr; exact .inl (.inl (fine_v (f_append _ _ _))))
        | exact .inl (.inl (fine_v (f_cap _ _ _)))
        | (have hwr : wr = true := ho; subst hwr; exact .inl (.inl (fine_v (f_clear (wr := true) _ _ _))))
        | (have hwr : wr = true := ho; subst hwr; exact .inl (.inl (fine_v (f_copy (wr := true) _ _ _))))
        | exact .inl (.inl (fine_v (f_len _ _ _)))
        | exact .inl (.inl (fine_v (f_max _ _ _)))
        | exact .inl (.inl (fine_v (f_min _ _ _)))
        | exact .inl (.inl (fine_v (f_unsafeSliceData _ _ _)))
        | exact .inl (.inl (fine_v (f_unsafeString _ _ _)))
    | value x =>
      cases x with
      | func k =>
        have hk : F k = true := ho
        have e : execOp ρ ⟨dst, .call ⟨.value (.func k), args, argTypes⟩, ty, pos, af, gd⟩ = callFunc k (#[] ++ args.map ρ ++ #[]) := by
          show (do let d ← Deferred.ofValue (ρ (.func k)) (args.map ρ); invoke d.target d.args : Sem Next) = _
          rw [hρ]
          rfl
        rw [e]
        rcases hB k hk with ⟨fn, h1, h2, h3⟩ | hX
        · refine .inr ⟨k, (#[] ++ args.map ρ ++ #[]), fun w => ?_⟩
          have hb : fn.body.isNone = false := by cases hb : fn.body <;> simp_all
          show (Sem.program fun p => _).runT P w #[] = _
          simp only [Sem.runT, Sem.bind]
          rw [h1]
          simp only [h3, hb]
          rfl
        · obtain ⟨s, hs, he⟩ := ext_run (#[] ++ args.map ρ ++ #[]) hX
          exact .inl (.inr ⟨_, fine_v hs, he⟩)
      | _ => simp [opT] at ho
    | invoke _ _ => simp [opT] at ho
  | _ => simp [opT] at ho
theorem exec_taped {wr : Bool} {F : FuncId → Bool} {P : Program} (hB : Bodied wr P F) {ρ : Operand → Value} (hρ : ∀ k, ρ (.func k) = .func (.func k) #[] #[]) {o : Oper} (ho : opT wr F o.op = true) (w : World) : Taped P (execOp ρ o) w #[] := by
  rcases exec_fine (P := P) hB hρ ho with (h | ⟨s, hs, he⟩) | ⟨k, args, h⟩
  · exact taped P _ h w #[]
  · obtain ⟨us, k, t⟩ := taped P s hs w #[]
    refine ⟨us, k, ?_⟩
    simp only [he]
    exact t
  · exact taped_end (.ok (.enter k args) w) rfl (h w) fun T D => h (tp w T D)
def Esc (fr : Frame) : Prop := ∃ pre, (∃ id, fr.todo = .code (.exit id) :: pre ∧ exitTo id pre = none) ∨ (∃ l, fr.todo = .code (.goto l) :: pre ∧ gotoIn l pre = none)
theorem exitTo_app {id : Nat} : ∀ {p k q : List Item}, exitTo id p = some q → exitTo id (p ++ k) = some (q ++ k)
  | [], _, _, h => by simp [exitTo] at h
  | it :: p, k, q, h => by
    cases it <;> simp only [exitTo, List.cons_append] at h ⊢
    case inBlock id' =>
      split at h
      · next hh => injection h with h; subst h; rw [if_pos hh]
      · next hh => rw [if_neg hh]; exact exitTo_app h
    all_goals exact exitTo_app h
theorem exitTo_app_none {id : Nat} : ∀ {p k : List Item}, exitTo id p = none → exitTo id (p ++ k) = exitTo id k
  | [], _, _ => rfl
  | it :: p, k, h => by
    cases it <;> simp only [exitTo, List.cons_append] at h ⊢
    case inBlock id' =>
      split at h
      · cases h
      · next hh => rw [if_neg hh]; exact exitTo_app_none h
    all_goals exact exitTo_app_none h
theorem gotoIn_app {l : Nat} : ∀ {p k q : List Item}, gotoIn l p = some q → gotoIn l (p ++ k) = some (q ++ k)
  | [], _, _, h => by simp [gotoIn] at h
  | it :: p, k, q, h => by
    cases it <;> simp only [gotoIn, List.cons_append] at h ⊢
    case inScope body =>
      cases hf : findLabel body l with
      | some r => rw [hf] at h; injection h with h; subst h; rfl
      | none => rw [hf] at h; exact gotoIn_app h
    all_goals exact gotoIn_app h
section
variable {wr : Bool} {P : Program} {F : FuncId → Bool} {n : Nat}
theorem left_same {w : World} (hl : Low n w) : Left wr n w w #[] 0 := ⟨EvOk.nil, LowE.nil, Kept.refl w, hl, rfl⟩
theorem stay_ctl {fr fr' : Frame} {w : World} (hl : Low n w) (hf : TF wr F fr') (h : ∀ main k cs (w : World), stepG P main (G (ext fr k) cs) w = .go (G (ext fr' k) cs) w #[]) : Stay wr P F n fr w :=
  ⟨0, fr', w, #[], hf, left_same hl, fun main k cs T D _ => h main k cs _⟩
theorem ends_ctl {fr : Frame} {w : World} (h : ∀ main k cs (w : World), ∃ o w' es, stepG P main (G (ext fr k) cs) w = .ended o w' es) : Ends P fr w :=
  ⟨0, fun main k cs T D _ => h main k cs _⟩
theorem seen_low {fn : FuncId} {B : Nat} {es : Array Event} (h : LowE B es) : LowE B (seen P fn es) := fun e he => h e (mem_seen he)
theorem early_end (hE : NoEarly P n) {g : Nat} {w : World} (hg : n ≤ g) (hl : Low n w) :
    (∃ w' : World, Kept w w' ∧ Low n w' ∧ w'.drawn = w.drawn ∧ ∀ fr cs T D, early P fr cs none g (tp w T D) = .go { frame := fr, callers := cs, status := .running, dying := none } (tp w' T D) #[]) ∨ ∀ fr cs T D, ∃ o w', early P fr cs none g (tp w T D) = .ended o w' #[] := by
  unfold early
  simp only [hE g hg]
  by_cases hp : (!P.follows .staticDataAhead) = true
  · simp only [hp, if_true]
    cases hh : w.heap[g]? with
    | none => exact .inr fun fr cs T D => by have : (tp w T D).heap[g]? = none := hh; simp only [this]; exact ⟨_, _, rfl⟩
    | some o =>
      cases o with
      | pending c e =>
        refine .inl ⟨{ w with heap := w.heap.setIfInBounds g (.cells c e) }, Kept.set w _ _, hl.cells _ _ _ _, rfl, fun fr cs T D => ?_⟩
        have : (tp w T D).heap[g]? = some (.pending c e) := hh
        simp only [this]; rfl
      | _ => exact .inr fun fr cs T D => by have : (tp w T D).heap[g]? = some _ := hh; simp only [this]; exact ⟨_, _, rfl⟩
  · simp only [hp]
    exact .inr fun fr cs T D => ⟨_, _, rfl⟩
theorem oper2 (hT : TameP wr P F) (hE : NoEarly P n) {b : Frame} {a : Act} {ops : Array Oper} {i : Nat} {rest : List Nat} {k : List Item} {o : Oper} {w : World} (hb : b.kind = .normal) (ha : a.defers = [])
    (ho : ops[i]? = some o) (hops : (ops.all fun o => opT wr F o.op) = true) (hw : Region.wanted o (yielded ops a.tmps) = true) (hk : ∀ x ∈ k, itemT wr F x = true) (hl : Low n w) :
    Stay wr P F n (b.at a (.inRegion ops (i :: rest) :: k)) w ∨ Push wr P F n (b.at a (.inRegion ops (i :: rest) :: k)) w ∨ Ends P (b.at a (.inRegion ops (i :: rest) :: k)) w := by
  have hop : opT wr F o.op = true := Array.all_eq_true_iff_forall_mem.1 hops o (Array.mem_of_getElem? ho)
  have hfr : TF wr F (b.at a (.inRegion ops (i :: rest) :: k)) := ⟨hb, ha, rfl, tame_cons (by exact hops) hk⟩
  have hfin : ∀ v, TF wr F ((b.at a (.inRegion ops (i :: rest) :: k)).finish v) := fun v => ⟨hb, ha, rfl, tame_cons (F := F) (it := .inRegion ops rest) (by exact hops) hk⟩
  have hke : ∀ t, ((b.at a t).kind == CallKind.early) = false := fun t => by
    show (b.kind == CallKind.early) = false
    rw [hb]; rfl
  obtain ⟨hev, hr⟩ := exec_tame (n := n) hT.bodied (ρ := a.eval) (fun _ => rfl) hop hl
  have hf : Taped P (execOp a.eval o) w #[] := exec_taped hT.bodied (ρ := a.eval) (fun _ => rfl) hop w
  obtain ⟨us, m, t1, t2, t3, t4, t5⟩ := hf
  have hst : ∀ main t cs (w : World), stepG P main (G (b.at a (.inRegion ops (i :: rest) :: t)) cs) w = stepG.apply P true (b.at a (.inRegion ops (i :: rest) :: t)) cs none (execOp a.eval o) w := fun main t cs w => stepG_oper ho hw
  generalize he : (execOp a.eval o).runT P w #[] = r at hev hr t1 t2 t3 t4 t5
  obtain ⟨res, es⟩ := r
  rw [Array.empty_append] at t1
  simp only at t1
  subst t1
  simp only at t2 t3 t4 t5 hev
  cases res with
  | ok nx w' =>
    obtain ⟨hy, hl'⟩ := hr
    have hleft : Left wr n w w' (seen P b.fn es) m := ⟨seen_ok hev, seen_low t2, t3, hl', t4⟩
    cases hy with
    | value v =>
      refine .inl ⟨m, _, w', seen P b.fn es, hfin v, hleft, fun main k' cs T D hA => ?_⟩
      rw [ext_at, List.cons_append, hst, stepG.apply]
      simp only [if_true, t5 T D hA, Rtp, hke, Bool.false_eq_true, if_false, GStep.after, Array.append_empty, G]
      rfl
    | skip =>
      refine .inl ⟨m, _, w', seen P b.fn es, hfin undef, hleft, fun main k' cs T D hA => ?_⟩
      rw [ext_at, List.cons_append, hst, stepG.apply]
      simp only [if_true, t5 T D hA, Rtp, hke, Bool.false_eq_true, if_false, GStep.after, Array.append_empty, G]
      rfl
    | enter k' args hk' hb' =>
      obtain ⟨fn, c, h1, h2, h3, h4⟩ := hT.body hk' hb'
      refine .inr (.inl ⟨m, _, w', seen P b.fn es, enter_TF h1 h2 h3 args, rfl, hleft, fun main k' cs T D hA => ?_⟩)
      rw [ext_at, List.cons_append, hst, stepG.apply]
      simp only [if_true, t5 T D hA, Rtp, hke, Bool.false_eq_true, if_false, GStep.after, Array.append_empty, G]
      rfl
  | halt h w' =>
    obtain ⟨hh, hl'⟩ := hr
    rcases hh with hh | ⟨g, rfl, hg⟩
    · cases h with
      | panic v =>
        refine .inl ⟨m, _, w', seen P b.fn es, raise_TF hfr [{ v, recovered := false }], ⟨seen_ok hev, seen_low t2, t3, hl', t4⟩, fun main k' cs T D hA => ?_⟩
        rw [ext_at, List.cons_append, hst, stepG.apply]
        simp only [if_true, t5 T D hA, Rtp, hke, Bool.false_eq_true, if_false, GStep.after, Array.append_empty, G]
        rfl
      | stuck s =>
        refine .inr (.inr ⟨m, fun main k' cs T D hA => ?_⟩)
        rw [ext_at, List.cons_append, hst, stepG.apply]
        simp only [if_true, t5 T D hA, Rtp, hke, Bool.false_eq_true, if_false, GStep.after, Array.append_empty, G]
        exact ⟨_, _, _, rfl⟩
      | unsupported u =>
        refine .inr (.inr ⟨m, fun main k' cs T D hA => ?_⟩)
        rw [ext_at, List.cons_append, hst, stepG.apply]
        cases u <;> first
          | (simp [hOk] at hh; done)
          | (simp only [if_true, t5 T D hA, Rtp, hke, Bool.false_eq_true, if_false, GStep.after, Array.append_empty, G]; exact ⟨_, _, _, rfl⟩)
      | _ => simp [hOk] at hh
    · rcases early_end (P := P) hE hg hl' with ⟨w2, h1, h2, h3, h4⟩ | h4
      · refine .inl ⟨m, _, w2, #[], hfr, ⟨EvOk.nil, LowE.nil, t3.trans h1, h2, h3.trans t4⟩, fun main k' cs T D hA => ?_⟩
        rw [ext_at, List.cons_append, hst, stepG.apply]
        simp only [if_true, t5 T D hA, Rtp, hke, Bool.false_eq_true, if_false, h4, GStep.after, Array.append_empty, G]
        rfl
      · refine .inr (.inr ⟨m, fun main k' cs T D hA => ?_⟩)
        obtain ⟨o', w2, h5⟩ := h4 (b.at a (.inRegion ops (i :: rest) :: (k ++ k'))) cs T (D + m)
        refine ⟨o', w2, #[], ?_⟩
        rw [ext_at, List.cons_append, hst, stepG.apply]
        simp only [if_true, t5 T D hA, Rtp, hke, Bool.false_eq_true, if_false, h5, GStep.after, Array.append_empty, G]
        rfl
theorem run2 (hT : TameP wr P F) (hE : NoEarly P n) {b : Frame} {a : Act} {todo : List Item} {w : World} (hb : b.kind = .normal) (ha : a.defers = []) (hne : todo ≠ [])
    (hk : ∀ x ∈ todo, itemT wr F x = true) (hl : Low n w) :
    Stay wr P F n (b.at a todo) w ∨ Push wr P F n (b.at a todo) w ∨ Ends P (b.at a todo) w ∨ Esc (b.at a todo) := by
  have tf : ∀ t : List Item, (∀ x ∈ t, itemT wr F x = true) → TF wr F (b.at a t) := fun t h => ⟨hb, ha, rfl, h⟩
  have go : ∀ t : List Item, (∀ x ∈ t, itemT wr F x = true) → (∀ main k cs (w : World), stepG P main (G (b.at a (todo ++ k)) cs) w = .go (G (b.at a (t ++ k)) cs) w #[]) → Stay wr P F n (b.at a todo) w := fun t h1 h2 => stay_ctl hl (tf t h1) h2
  have tr : ∀ t : List Item, (∀ x ∈ t, itemT wr F x = true) → TF wr F { b.at a t with mode := .returning } := fun t h => ⟨hb, ha, rfl, h⟩
  cases todo with
  | nil => exact absurd rfl hne
  | cons it k =>
    have h0 := hk it List.mem_cons_self
    have hk2 := tame_tail hk
    cases it with
    | code c =>
      cases c with
      | skip => exact .inl (go k hk2 fun main k' cs w => stepG_skip)
      | label l => exact .inl (go k hk2 fun main k' cs w => stepG_label)
      | seq x y =>
        simp only [itemT, codeT, Bool.and_eq_true] at h0
        exact .inl (go _ (tame_cons (it := .code x) h0.1 (tame_cons (it := .code y) h0.2 hk2)) fun main k' cs w => stepG_seq)
      | cond c x y =>
        simp only [itemT, codeT, Bool.and_eq_true] at h0
        cases hc : a.eval c with
        | bool t =>
          refine .inl (go (.code (if t then x else y) :: k) (tame_cons ?_ hk2) fun main k' cs w => stepG_cond hc)
          cases t
          · exact h0.2
          · exact h0.1
        | _ =>
          refine .inr (.inr (.inl (ends_ctl fun main k' cs w => ⟨.stuck "cond: bool expected" ((b.at a (.code (.cond c x y) :: (k ++ k'))).pos P), w, #[], ?_⟩)))
          have h' : (b.at a (.code (.cond c x y) :: (k ++ k'))).eval c = a.eval c := Frame.eval_at b a _ c
          rw [ext_at]
          simp only [Frame.at, List.cons_append] at h' ⊢
          simp only [G, stepG, stepG.exec, Frame.at]
          rw [h', hc]
      | block id c => exact .inl (go _ (tame_cons (by exact h0) (tame_cons rfl hk2)) fun main k' cs w => stepG_block)
      | loop c => exact .inl (go _ (tame_cons (by exact h0) (tame_cons (by exact h0) hk2)) fun main k' cs w => stepG_loop)
      | scope c => exact .inl (go (.code c :: .inScope c :: k) (tame_cons (by exact h0) (tame_cons (by exact h0) hk2)) fun main k' cs w => by simp [G, stepG, stepG.exec, Frame.at])
      | exit id =>
        cases he : exitTo id k with
        | some k2 => exact .inl (go k2 (fun x hx => hk2 x (exitTo_sub he x hx)) fun main k' cs w => stepG_exit (exitTo_app he))
        | none => exact .inr (.inr (.inr ⟨k, .inl ⟨id, rfl, he⟩⟩))
      | goto l =>
        cases he : gotoIn l k with
        | some k2 => exact .inl (go k2 (gotoIn_tame hk2 he) fun main k' cs w => by have := gotoIn_app (k := k') he; simp [G, stepG, stepG.exec, Frame.at, this])
        | none => exact .inr (.inr (.inr ⟨k, .inr ⟨l, rfl, he⟩⟩))
      | ret => exact .inl (stay_ctl (fr' := { b.at a (.code .ret :: k) with mode := .returning }) hl (tr _ hk) fun main k' cs w => by simp [G, stepG, stepG.exec, Frame.at, ext])
      | region id ops draw =>
        cases draw with
        | false => exact .inl (go (.inRegion ops (List.range ops.size) :: k) (tame_cons (by exact h0) hk2) fun main k' cs w => stepG_region)
        | true =>
          refine .inl ⟨1, b.at a (.inRegion ops (Region.schedule (P.follows .mixedOrders) ops (w.tape w.drawn (.order b.fn id))) :: k), { w with drawn := w.drawn + 1 }, #[], tf _ (tame_cons (by exact h0) hk2), ⟨EvOk.nil, LowE.nil, ⟨rfl, rfl, rfl, Nat.le_refl _⟩, hl, rfl⟩, fun main k' cs T D hA => ?_⟩
          have e : T D (.order b.fn id) = w.tape w.drawn (.order b.fn id) := hA 0 (by omega) _
          simp [G, stepG, stepG.exec, Frame.at, choose, Sem.run, Question.forced, Question.cut, tp, ext, e]
      | rangeFunc f ps as body => simp [itemT, codeT] at h0
      | refuse why => exact .inr (.inr (.inl (ends_ctl fun main k' cs w => ⟨_, _, _, by simp only [ext, Frame.at, List.cons_append, G, stepG, stepG.exec]; rfl⟩)))
    | inBlock id => exact .inl (go k hk2 fun main k' cs w => stepG_inBlock)
    | inLoop c => exact .inl (go _ (tame_cons (by exact h0) (tame_cons (by exact h0) hk2)) fun main k' cs w => stepG_inLoop)
    | inScope c => exact .inl (go k hk2 fun main k' cs w => by simp [G, stepG, stepG.exec, Frame.at])
    | inRegion ops l =>
      cases l with
      | nil => exact .inl (go k hk2 fun main k' cs w => stepG_region_end)
      | cons i rest =>
        have hun : ((ops[i]?).map (Region.wanted · (yielded ops a.tmps))).getD false = false → Stay wr P F n (b.at a (.inRegion ops (i :: rest) :: k)) w := fun hu =>
          stay_ctl (fr' := (b.at a (.inRegion ops (i :: rest) :: k)).finish undef) hl ⟨hb, ha, rfl, tame_cons (F := F) (it := .inRegion ops rest) (by exact h0) hk2⟩ fun main k' cs w => by
            simp only [ext, Frame.at, List.cons_append, G, stepG, stepG.exec, hu]; rfl
        cases ho : ops[i]? with
        | none => exact .inl (hun (by rw [ho]; rfl))
        | some o =>
          cases hw : Region.wanted o (yielded ops a.tmps) with
          | true =>
            rcases oper2 hT hE hb ha ho (by exact h0) hw hk2 hl with h | h | h
            · exact .inl h
            · exact .inr (.inl h)
            · exact .inr (.inr (.inl h))
          | false => exact .inl (hun (by rw [ho]; simpa using hw))
    | _ => simp [itemT] at h0
def Waits (c : Frame) : Prop := ∃ ops i rest k, c.todo = .inRegion ops (i :: rest) :: k
theorem finish_ext {c : Frame} (h : Waits c) (v : Value) (k : List Item) : (ext c k).finish v = ext (c.finish v) k := by
  obtain ⟨ops, i, rest, k0, e⟩ := h
  obtain ⟨fn, tmps, todo, defers, mode, kind, roundOf⟩ := c
  simp only at e
  subst e
  rfl
theorem finish_TF {F : FuncId → Bool} {c : Frame} (hc : TF wr F c) (h : Waits c) (v : Value) : TF wr F (c.finish v) := by
  obtain ⟨ops, i, rest, k0, e⟩ := h
  obtain ⟨fn, tmps, todo, defers, mode, kind, roundOf⟩ := c
  obtain ⟨k1, k2, k3, k4⟩ := hc
  simp only at e k1 k2 k3 k4
  subst e k1 k2 k3
  exact ⟨rfl, rfl, rfl, tame_cons (F := F) (it := .inRegion ops rest) (k4 (.inRegion ops (i :: rest)) List.mem_cons_self) (tame_tail k4)⟩
theorem raise_ext {c : Frame} (hm : c.mode = .run) (ch : List PanicEntry) (k : List Item) : (ext c k).raise ch = ext (c.raise ch) k := by
  obtain ⟨fn, tmps, todo, defers, mode, kind, roundOf⟩ := c
  simp only at hm
  subst hm
  rfl
theorem unwind2 {fr c : Frame} {w : World} (hf : TF wr F fr) (hm : fr.mode ≠ .run) (hc : TF wr F c) (hw : Waits c) (hcm : c.mode = .run) (hl : Low n w) : Pop wr P F n fr c w ∨ Ends1 P fr c w := by
  obtain ⟨fn, tmps, todo, defers, mode, kind, roundOf⟩ := fr
  obtain ⟨hk, hd, hr, ht⟩ := hf
  simp only at hk hd hr ht hm
  subst hk hd hr
  cases mode with
  | run => exact absurd rfl hm
  | panicking chain =>
    have hcat : Frame.catches P { fn, tmps, todo, defers := [], mode := .panicking chain, kind := .normal, roundOf := none } = false := by
      unfold Frame.catches
      split
      · next d wr rs sv k hn hh =>
        simp only at hh
        have := ht (.call d wr rs sv) (by rw [hh]; exact List.mem_cons_self)
        simp [itemT] at this
      · rfl
    exact .inl ⟨0, c.raise chain, w, #[], raise_TF hc chain, left_same hl, fun main k cs T D _ => by rw [← raise_ext hcm]; simp [G, stepG, unwind, hcat]⟩
  | returning =>
    cases hfn : P.funcs[fn]? with
    | none => exact .inl ⟨0, c.finish (tmps.getD 0 undef), w, #[], finish_TF hc hw _, left_same hl, fun main k cs T D _ => by rw [← finish_ext hw]; simp [G, stepG, unwind, doReturn, hfn]⟩
    | some f =>
      obtain ⟨us0, e1, e2, e3⟩ := Fine.runT (wr := wr) P n (results f tmps) (f_results f tmps) w #[] hl
      obtain ⟨us, m, t1, t2, t3, t4, t5⟩ := taped P (results f tmps) (f_results (wr := wr) f tmps) w #[]
      generalize he : (results f tmps).runT P w #[] = r at e1 e3 t1 t2 t3 t4 t5
      obtain ⟨r1, r2⟩ := r
      rw [Array.empty_append] at t1 e1
      simp only at t1 e1
      subst t1
      subst e1
      simp only at t2 t3 t4 t5
      cases r1 with
      | ok v w' =>
        refine .inl ⟨m, c.finish v, w', seen P fn r2, finish_TF hc hw v, ⟨seen_ok e2, seen_low t2, t3, e3, t4⟩, fun main k cs T D hA => ?_⟩
        rw [← finish_ext hw]
        simp only [G, stepG, unwind, hfn, t5 T D hA, Rtp, GStep.after, doReturn]
        simp
      | halt h w' =>
        refine .inr ⟨m, fun main k cs T D hA => ?_⟩
        cases h <;> exact ⟨_, _, _, by simp only [G, stepG, unwind, hfn, t5 T D hA, Rtp, GStep.after]; rfl⟩
end
end Go.Co
end
section
namespace Go.Co
set_option linter.unusedVariables false
section
variable {σ : Type} (st : σ → Tape → Nat → Option (σ × Nat))
def Spliced : Prop := ∀ s T D s' k, st s T D = some (s', k) → ∀ T' D', Agree T' D' T D k → st s T' D' = some (s', k)
def runs : Nat → σ → Tape → Nat → Option σ
  | 0, s, _, _ => some s
  | n + 1, s, T, D => match st s T D with
    | some (s', k) => runs n s' T (D + k)
    | none => none
inductive Tree (Fin : σ → Prop) : σ → Prop
  | fin {s : σ} (h : Fin s) : Tree Fin s
  | step {s : σ} (hn : ∀ T D, st s T D ≠ none) (h : ∀ T D s' k, st s T D = some (s', k) → Tree Fin s') : Tree Fin s
variable {st}
theorem runs_agree (hs : Spliced st) : ∀ (n : Nat) (s : σ) (T T' : Tape) (D D' : Nat), (∀ j q, T (D + j) q = T' (D' + j) q) → runs st n s T D = runs st n s T' D'
  | 0, _, _, _, _, _, _ => rfl
  | n + 1, s, T, T', D, D', h => by
    have next : ∀ s' k, runs st n s' T (D + k) = runs st n s' T' (D' + k) := fun s' k => runs_agree hs n s' T T' (D + k) (D' + k) fun j q => by
      have := h (k + j) q
      rw [show D + k + j = D + (k + j) by omega, show D' + k + j = D' + (k + j) by omega]
      exact this
    unfold runs
    cases h1 : st s T D with
    | some r =>
      obtain ⟨s', k⟩ := r
      have := hs s T D s' k h1 T' D' fun j _ q => (h j q).symm
      rw [this]
      exact next s' k
    | none =>
      cases h2 : st s T' D' with
      | some r =>
        obtain ⟨s', k⟩ := r
        have := hs s T' D' s' k h2 T D fun j _ q => h j q
        rw [h1] at this; cases this
      | none => rfl
def Good (st : σ → Tape → Nat → Option (σ × Nat)) (Fin : σ → Prop) (s : σ) : Prop := ∀ T D, ∃ n s', runs st n s T D = some s' ∧ Fin s'
theorem good_step (hs : Spliced st) {Fin : σ → Prop} {s : σ} (hg : Good st Fin s) (hf : ¬ Fin s) (T : Tape) (D : Nat) : ∃ s' k, st s T D = some (s', k) ∧ Good st Fin s' := by
  obtain ⟨n, s2, h1, h2⟩ := hg T D
  cases n with
  | zero => simp only [runs, Option.some.injEq] at h1; subst h1; exact absurd h2 hf
  | succ n =>
    unfold runs at h1
    cases hst : st s T D with
    | none => rw [hst] at h1; cases h1
    | some r =>
      obtain ⟨s', k⟩ := r
      refine ⟨s', k, rfl, fun T' D' => ?_⟩
      let U : Tape := fun j q => if j < D + k then T j q else T' (D' + (j - (D + k))) q
      have hU : st s U D = some (s', k) := hs s T D s' k hst U D fun j hj q => by simp only [U]; rw [if_pos (by omega)]
      obtain ⟨m, s3, h3, h4⟩ := hg U D
      cases m with
      | zero => simp only [runs, Option.some.injEq] at h3; subst h3; exact absurd h4 hf
      | succ m =>
        unfold runs at h3
        rw [hU] at h3
        simp only at h3
        refine ⟨m, s3, ?_, h4⟩
        rw [← h3]
        exact (runs_agree hs m s' U T' (D + k) D' fun j q => by simp only [U]; rw [if_neg (by omega), show D + k + j - (D + k) = j by omega]).symm
theorem bad_step (hs : Spliced st) {Fin : σ → Prop} {s : σ} (hg : Good st Fin s) (hb : ¬ Tree st Fin s) : ∃ (T : Tape) (D : Nat) (s' : σ) (k : Nat), st s T D = some (s', k) ∧ Good st Fin s' ∧ ¬ Tree st Fin s' := by
  have hf : ¬ Fin s := fun h => hb (.fin h)
  apply Classical.byContradiction
  intro hc
  refine hb (.step (fun T D e => ?_) fun T D s' k e => ?_)
  · obtain ⟨s', k, h1, _⟩ := good_step hs hg hf T D
    rw [e] at h1; cases h1
  · apply Classical.byContradiction
    intro h2
    obtain ⟨s2, k2, h1, h3⟩ := good_step hs hg hf T D
    rw [e] at h1
    injection h1 with h1
    injection h1 with h1 h4
    subst h1
    exact hc ⟨T, D, s', k, e, h3, h2⟩
open Classical in
theorem tree_of_runs (hs : Spliced st) {Fin : σ → Prop} {s : σ} (hg : Good st Fin s) : Tree st Fin s := by
  apply Classical.byContradiction
  intro hb
  let B := { s : σ // Good st Fin s ∧ ¬ Tree st Fin s }
  have nx : ∀ b : B, ∃ r : Tape × Nat × B × Nat, st b.1 r.1 r.2.1 = some (r.2.2.1.1, r.2.2.2) := fun b => by
    obtain ⟨T, D, s', k, h1, h2, h3⟩ := bad_step hs b.2.1 b.2.2
    exact ⟨(T, D, ⟨s', h2, h3⟩, k), h1⟩
  let f : B → Tape × Nat × B × Nat := fun b => Classical.choose (nx b)
  have hfs : ∀ b : B, st b.1 (f b).1 (f b).2.1 = some ((f b).2.2.1.1, (f b).2.2.2) := fun b => Classical.choose_spec (nx b)
  let sq : Nat → B := fun n => Nat.rec ⟨s, hg, hb⟩ (fun _ b => (f b).2.2.1) n
  let E : Nat → Nat := fun n => Nat.rec 0 (fun i e => e + (f (sq i)).2.2.2) n
  have hE : ∀ i, E (i + 1) = E i + (f (sq i)).2.2.2 := fun i => rfl
  have mono : ∀ i d, E i ≤ E (i + d) := fun i d => by
    induction d with
    | zero => exact Nat.le_refl _
    | succ d ih => rw [show i + (d + 1) = (i + d) + 1 by omega, hE]; omega
  have uniq : ∀ j i i', E i ≤ j → j < E (i + 1) → E i' ≤ j → j < E (i' + 1) → i = i' := fun j i i' h1 h2 h3 h4 => by
    rcases Nat.lt_trichotomy i i' with h | h | h
    · have := mono (i + 1) (i' - (i + 1)); rw [show i + 1 + (i' - (i + 1)) = i' by omega] at this; omega
    · exact h
    · have := mono (i' + 1) (i - (i' + 1)); rw [show i' + 1 + (i - (i' + 1)) = i by omega] at this; omega
  let U : Tape := fun j q => if h : ∃ i, E i ≤ j ∧ j < E (i + 1) then (f (sq (Classical.choose h))).1 ((f (sq (Classical.choose h))).2.1 + (j - E (Classical.choose h))) q else 0
  have hU : ∀ i, Agree U (E i) (f (sq i)).1 (f (sq i)).2.1 (f (sq i)).2.2.2 := fun i j hj q => by
    have h : ∃ i', E i' ≤ E i + j ∧ E i + j < E (i' + 1) := ⟨i, by omega, by rw [hE]; omega⟩
    have hc := Classical.choose_spec h
    have he : Classical.choose h = i := uniq _ _ _ hc.1 hc.2 (by omega) (by rw [hE]; omega)
    simp only [U, dif_pos h]
    rw [he, show E i + j - E i = j by omega]
  have hst : ∀ i, st (sq i).1 U (E i) = some ((sq (i + 1)).1, (f (sq i)).2.2.2) := fun i => hs _ _ _ _ _ (hfs (sq i)) U (E i) (hU i)
  have hr : ∀ n i, runs st n (sq i).1 U (E i) = some (sq (i + n)).1 := fun n => by
    induction n with
    | zero => intro i; rfl
    | succ n ih =>
      intro i
      unfold runs
      rw [hst i]
      simp only
      have := ih (i + 1)
      rw [hE] at this
      rw [this, show i + 1 + n = i + (n + 1) by omega]
  obtain ⟨n, s', h1, h2⟩ := hg U 0
  have := hr n 0
  rw [show E 0 = 0 from rfl, show (sq 0).1 = s from rfl, h1] at this
  injection this with this
  exact (sq (0 + n)).2.2 (.fin (this ▸ h2))
end
end Go.Co
end
section
namespace Go.Co
open Go.Conc
set_option linter.unusedVariables false
set_option linter.unusedSimpArgs false
structure Cf where
  fr : Frame
  X : List Frame
  w : World
def exX : List Frame → List Item → List Frame
  | [], _ => []
  | [c], k => [ext c k]
  | c :: d :: r, k => c :: exX (d :: r) k
theorem exX_cons {c : Frame} {X : List Frame} (h : X ≠ []) (k : List Item) : exX (c :: X) k = c :: exX X k := by
  cases X with
  | nil => exact absurd rfl h
  | cons d r => rfl
theorem exX_length : ∀ (X : List Frame) (k : List Item), (exX X k).length = X.length
  | [], _ => rfl
  | [c], _ => rfl
  | c :: d :: r, k => by simp only [exX, List.length_cons, exX_length (d :: r) k]
def topK (X : List Frame) (k : List Item) : List Item := match X with | [] => k | _ => []
def conf (s : Cf) (k : List Item) (tail : List Frame) : Goroutine := G (ext s.fr (topK s.X k)) (exX s.X k ++ tail)
def Arr (fl : Bool) (s : Cf) : Prop := s.X = [] ∧ (s.fr.mode ≠ .run ∨ (fl = false ∧ s.fr.todo = []) ∨ (s.fr.mode = .run ∧ Esc s.fr))
section
variable (wr : Bool) (P : Program) (F : FuncId → Bool) (n : Nat)
structure Ins (s : Cf) : Prop where
  tf : TF wr F s.fr
  X : ∀ x ∈ s.X, TF wr F x ∧ x.mode = .run ∧ Waits x
  low : Low n s.w
def Once (fl : Bool) (s s' : Cf) (m : Nat) (es : Array Event) : Prop := Ins wr F n s' ∧ Left wr n s.w s'.w es m ∧
  ∀ main k tail T D, (fl = true → k = []) → Agree T D s.w.tape s.w.drawn m → stepG P main (conf s k tail) (tp s.w T D) = .go (conf s' k tail) (tp s'.w T (D + m)) es
def Dies (fl : Bool) (s : Cf) (m : Nat) : Prop :=
  ∀ main k tail T D, (fl = true → k = []) → Agree T D s.w.tape s.w.drawn m → ∃ o w' es, stepG P main (conf s k tail) (tp s.w T D) = .ended o w' es
end
section
variable {wr : Bool} {P : Program} {F : FuncId → Bool} {n : Nat}
theorem push_waits {fr : Frame} {w : World} (h : Push wr P F n fr w) (hm : fr.mode = .run) (hf : TF wr F fr) : Waits fr := by
  obtain ⟨m, g, w', es, h1, h2, h3, h4⟩ := h
  have e := h4 true [] [] w.tape w.drawn (fun _ _ _ => rfl)
  rw [ext_nil, tp_self] at e
  obtain ⟨fn, tmps, todo, defers, mode, kind, roundOf⟩ := fr
  obtain ⟨k1, k2, k3, k4⟩ := hf
  simp only at hm k1 k2 k3 k4
  subst hm k1 k2 k3
  cases todo with
  | nil => simp [G, stepG, stepG.exec] at e
  | cons it k =>
    have h0 := k4 it List.mem_cons_self
    cases it with
    | inRegion ops l =>
      cases l with
      | nil => simp [G, stepG, stepG.exec] at e
      | cons i rest => exact ⟨ops, i, rest, k, rfl⟩
    | code c =>
      cases c with
      | region id ops draw => cases draw <;> simp [G, stepG, stepG.exec, choose, Sem.run, Question.forced] at e
      | cond c x y => simp only [G, stepG, stepG.exec] at e; split at e <;> simp at e
      | exit id => simp only [G, stepG, stepG.exec, Option.elim] at e; split at e <;> simp at e
      | goto l => simp only [G, stepG, stepG.exec, Option.elim] at e; split at e <;> simp at e
      | rangeFunc f ps as body => simp [itemT, codeT] at h0
      | refuse why => simp [G, stepG, stepG.exec] at e
      | _ => simp [G, stepG, stepG.exec] at e
    | inBlock id => simp [G, stepG, stepG.exec] at e
    | inLoop c => simp [G, stepG, stepG.exec] at e
    | inScope c => simp [G, stepG, stepG.exec] at e
    | _ => simp [itemT] at h0
theorem esc_ends {fr : Frame} {w : World} (hf : TF wr F fr) (hm : fr.mode = .run) (he : Esc fr) (main : Bool) (cs : List Frame) : ∃ o w' es, stepG P main (G fr cs) w = .ended o w' es := by
  obtain ⟨fn, tmps, todo, defers, mode, kind, roundOf⟩ := fr
  obtain ⟨k1, k2, k3, k4⟩ := hf
  obtain ⟨pre, ⟨id, e1, e2⟩ | ⟨l, e1, e2⟩⟩ := he
  all_goals
    simp only at hm k1 k2 k3 k4 e1
    subst hm k1 k2 k3 e1
    exact ⟨_, _, _, by simp only [G, stepG, stepG.exec, e2, Option.elim]; rfl⟩
theorem one (hT : TameP wr P F) (hE : NoEarly P n) (fl : Bool) {s : Cf} (hs : Ins wr F n s) (ha : ¬ Arr fl s) : (∃ s' m es, Once wr P F n fl s s' m es) ∨ ∃ m, Dies P fl s m := by
  obtain ⟨fr, X, w⟩ := s
  obtain ⟨htf, hX, hl⟩ := hs
  simp only at htf hX hl
  by_cases hm : fr.mode = .run
  · obtain ⟨b, a, todo, rfl, hb, had⟩ : ∃ (b : Frame) (a : Act) (todo : List Item), fr = b.at a todo ∧ b.kind = .normal ∧ a.defers = [] := by
      obtain ⟨fn, tmps, todo, defers, mode, kind, roundOf⟩ := fr
      obtain ⟨k1, k2, k3, k4⟩ := htf
      simp only at hm k1 k2 k3
      subst hm k1 k2 k3
      exact ⟨{ (default : Frame) with fn := fn, kind := .normal }, ⟨tmps, []⟩, todo, rfl, rfl, rfl⟩
    by_cases hne : todo = []
    · subst hne
      have hxf : X = [] → fl = true := fun hx => by
        cases hfl : fl with
        | true => rfl
        | false => exact absurd ⟨hx, .inr (.inl ⟨hfl, rfl⟩)⟩ ha
      refine .inl ⟨⟨{ b.at a [] with mode := .returning }, X, w⟩, 0, #[], ⟨⟨hb, had, rfl, fun x hx => by cases hx⟩, hX, hl⟩, left_same hl, fun main k tail T D hk _ => ?_⟩
      have e : topK X k = [] := by
        cases X with
        | nil => exact hk (hxf rfl)
        | cons _ _ => rfl
      simp only [conf, e, ext_nil]
      exact stepG_end
    · rcases run2 hT hE hb had hne htf.todo hl with h | h | h | h
      · obtain ⟨m, fr', w', es, h1, h2, h3⟩ := h
        exact .inl ⟨⟨fr', X, w'⟩, m, es, ⟨h1, hX, h2.cells⟩, h2, fun main k tail T D _ hA => h3 main (topK X k) (exX X k ++ tail) T D hA⟩
      · have hwt := push_waits h rfl htf
        obtain ⟨m, g, w', es, h1, h0, h2, h3⟩ := h
        refine .inl ⟨⟨g, b.at a todo :: X, w'⟩, m, es, ⟨h1, fun x hx => ?_, h2.cells⟩, h2, fun main k tail T D _ hA => ?_⟩
        · rcases List.mem_cons.1 hx with rfl | hx
          · exact ⟨htf, rfl, hwt⟩
          · exact hX x hx
        · have e := h3 main (topK X k) (exX X k ++ tail) T D hA
          have e2 : ext (b.at a todo) (topK X k) :: (exX X k ++ tail) = exX (b.at a todo :: X) k ++ tail := by
            cases X with
            | nil => rfl
            | cons c r => simp only [topK, ext_nil, exX, List.cons_append]
          rw [e2] at e
          simp only [conf, topK, ext_nil] at e ⊢
          exact e
      · obtain ⟨m, h1⟩ := h
        exact .inr ⟨m, fun main k tail T D _ hA => h1 main (topK X k) (exX X k ++ tail) T D hA⟩
      · have hne : X ≠ [] := fun hx => ha ⟨hx, .inr (.inr ⟨rfl, h⟩)⟩
        refine .inr ⟨0, fun main k tail T D _ _ => ?_⟩
        have e : topK X k = [] := by cases X with
          | nil => exact absurd rfl hne
          | cons _ _ => rfl
        simp only [conf, e, ext_nil]
        exact esc_ends htf rfl h main _
  · cases X with
    | nil => exact absurd ⟨rfl, .inl hm⟩ ha
    | cons c R =>
      obtain ⟨hc1, hc2, hc3⟩ := hX c List.mem_cons_self
      have e2 : ∀ (c : Frame) k, exX (c :: R) k = ext c (topK R k) :: exX R k := fun c k => by
        cases R with
        | nil => rfl
        | cons d r => simp only [topK, ext_nil, exX]
      rcases unwind2 (P := P) htf hm hc1 hc3 hc2 hl with h | h
      · obtain ⟨m, c', w', es, h1, h2, h3⟩ := h
        refine .inl ⟨⟨c', R, w'⟩, m, es, ⟨h1, fun x hx => hX x (List.mem_cons_of_mem _ hx), h2.cells⟩, h2, fun main k tail T D _ hA => ?_⟩
        have e := h3 main (topK R k) (exX R k ++ tail) T D hA
        simp only [conf, e2, topK, ext_nil, List.cons_append]
        exact e
      · obtain ⟨m, h1⟩ := h
        refine .inr ⟨m, fun main k tail T D _ hA => ?_⟩
        have e := h1 main (topK R k) (exX R k ++ tail) T D hA
        simp only [conf, e2, topK, ext_nil, List.cons_append]
        exact e
end
end Go.Co
end

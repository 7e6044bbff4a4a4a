import Derived.Test.YtjdppgogdilgkaaKA
section
namespace Go.Co
open Go.Conc
set_option linter.unusedVariables false
set_option linter.unusedSimpArgs false
def nrm (w : World) : World := tp w (fun _ _ => 0) 0
theorem tp_nrm (w : World) (T : Tape) (D : Nat) : tp (nrm w) T D = tp w T D := rfl
theorem exX_nil : ∀ X : List Frame, exX X [] = X
  | [] => rfl
  | [c] => by simp only [exX, ext_nil]
  | c :: d :: r => by simp only [exX, exX_nil (d :: r)]
theorem topK_nil (X : List Frame) : topK X [] = [] := by cases X <;> rfl
theorem conf_nil (s : Cf) (tail : List Frame) : conf s [] tail = G s.fr (s.X ++ tail) := by simp only [conf, topK_nil, ext_nil, exX_nil]
section
variable (wr : Bool) (P : Program) (F : FuncId → Bool) (n : Nat) (fl : Bool)
open Classical in
noncomputable def stI (s : { s : Cf // Ins wr F n s }) (T : Tape) (D : Nat) : Option ({ s : Cf // Ins wr F n s } × Nat) :=
  if Arr fl s.1 then none else
  match stepG P true (conf s.1 [] [stopper]) (tp s.1.w T D) with
  | .go g w' _ => if h : Ins wr F n ⟨g.frame, g.callers.dropLast, nrm w'⟩ then some (⟨_, h⟩, w'.drawn - D) else none
  | _ => none
end
section
variable {wr : Bool} {P : Program} {F : FuncId → Bool} {n : Nat} {fl : Bool}
theorem Ins.tp {s : Cf} (h : Ins wr F n s) (T : Tape) (D : Nat) : Ins wr F n ⟨s.fr, s.X, Co.tp s.w T D⟩ := ⟨h.tf, h.X, h.low⟩
theorem stI_once {s : { s : Cf // Ins wr F n s }} {T : Tape} {D : Nat} (ha : ¬ Arr fl s.1) {s' : Cf} {m : Nat} {es : Array Event} (h : Once wr P F n fl ⟨s.1.fr, s.1.X, tp s.1.w T D⟩ s' m es) {T' : Tape} {D' : Nat} (hA : Agree T' D' T D m) :
    stI wr P F n fl s T' D' = some (⟨⟨s'.fr, s'.X, nrm s'.w⟩, h.1.tp _ _⟩, m) := by
  have e := h.2.2 true [] [stopper] T' D' (fun _ => rfl) hA
  have e' : stepG P true (conf s.1 [] [stopper]) (tp s.1.w T' D') = .go (conf s' [] [stopper]) (tp s'.w T' (D' + m)) es := e
  unfold stI
  rw [if_neg ha, e', conf_nil]
  have h1 : (s'.X ++ [stopper]).dropLast = s'.X := by simp
  have h2 : Ins wr F n ⟨(G s'.fr (s'.X ++ [stopper])).frame, (G s'.fr (s'.X ++ [stopper])).callers.dropLast, nrm (tp s'.w T' (D' + m))⟩ := by
    show Ins wr F n ⟨s'.fr, (s'.X ++ [stopper]).dropLast, nrm s'.w⟩
    rw [h1]; exact h.1.tp _ _
  simp only [dif_pos h2]
  have h3 : (tp s'.w T' (D' + m)).drawn - D' = m := by show D' + m - D' = m; omega
  rw [h3]
  congr 3
  show Cf.mk s'.fr (s'.X ++ [stopper]).dropLast (nrm s'.w) = _
  rw [h1]
theorem stI_dies {s : { s : Cf // Ins wr F n s }} {T : Tape} {D : Nat} (ha : ¬ Arr fl s.1) {m : Nat} (h : Dies P fl ⟨s.1.fr, s.1.X, tp s.1.w T D⟩ m) : stI wr P F n fl s T D = none := by
  obtain ⟨o, w', es, e⟩ := h true [] [stopper] T D (fun _ => rfl) (fun _ _ _ => rfl)
  have e' : stepG P true (conf s.1 [] [stopper]) (tp s.1.w T D) = .ended o w' es := e
  unfold stI
  rw [if_neg ha, e']
theorem stI_spliced (hT : TameP wr P F) (hE : NoEarly P n) : Spliced (stI wr P F n fl) := by
  intro s T D s' k h T' D' hA
  by_cases ha : Arr fl s.1
  · unfold stI at h; rw [if_pos ha] at h; cases h
  · rcases one hT hE fl (s.2.tp T D) (fun h => ha h) with ⟨s1, m, es, h1⟩ | ⟨m, h1⟩
    · have e1 := stI_once ha h1 (T' := T) (D' := D) (fun _ _ _ => rfl)
      rw [h] at e1
      injection e1 with e1
      injection e1 with e1 e2
      subst e2
      rw [stI_once ha h1 hA, e1]
    · rw [stI_dies ha h1] at h; cases h
structure OwnZ (wr : Bool) (P : Program) (n : Nat) (main : Bool) (Z : Frame → List Frame → World → Prop) : Prop where
  step : ∀ fr cs w, Low n w → (∀ T D, ∃ fr' cs' w' es, stepG P main (G fr cs) (tp w T D) = .go (G fr' cs') w' es ∧ EvOk wr es ∧ LowE w'.heap.size es ∧ Kept (tp w T D) w' ∧ Low n w' ∧ Z fr' cs' w') → Z fr cs w
  tape : ∀ fr cs w T D, Z fr cs w → Z fr cs (tp w T D)
theorem tree_Z (hT : TameP wr P F) (hE : NoEarly P n) {main : Bool} {Z : Frame → List Frame → World → Prop} (hZ : OwnZ wr P n main Z) {k : List Item} {tail : List Frame} (hk : fl = true → k = []) {Fin : { s : Cf // Ins wr F n s } → Prop}
    (hF : ∀ s, Fin s → Z (ext s.1.fr (topK s.1.X k)) (exX s.1.X k ++ tail) s.1.w) {s : { s : Cf // Ins wr F n s }} (h : Tree (stI wr P F n fl) Fin s) : Z (ext s.1.fr (topK s.1.X k)) (exX s.1.X k ++ tail) s.1.w := by
  induction h with
  | fin h => exact hF _ h
  | @step s hn h ih =>
    have ha : ¬ Arr fl s.1 := fun ha => hn (fun _ _ => 0) 0 (by unfold stI; rw [if_pos ha])
    refine hZ.step _ _ _ s.2.low fun T D => ?_
    rcases one hT hE fl (s.2.tp T D) (fun h => ha h) with ⟨s1, m, es, h1⟩ | ⟨m, h1⟩
    · have e := h1.2.2 main k tail T D hk (fun _ _ _ => rfl)
      have hz := ih T D _ m (stI_once ha h1 (fun _ _ _ => rfl))
      refine ⟨_, _, tp s1.w T (D + m), es, e, h1.2.1.ev, h1.2.1.low, ?_, h1.2.1.cells, hZ.tape _ _ (nrm s1.w) T (D + m) hz⟩
      have := h1.2.1.kept
      exact ⟨this.os, this.out, rfl, this.size⟩
    · exact absurd (stI_dies ha h1) (hn T D)
theorem lone_runs (hT : TameP wr P F) (hE : NoEarly P n) {k : List Item} (hk : fl = true → k = []) {m1 : Machine} (T : Tape) : ∀ (N : Nat) (s : { s : Cf // Ins wr F n s }) (D : Nat),
    runN P N (lone (ext s.1.fr (topK s.1.X k)) (exX s.1.X k ++ [stopper]) (tp s.1.w T D)) = .next m1 →
    ∃ (j : Nat) (s' : { s : Cf // Ins wr F n s }) (M D' : Nat), runs (stI wr P F n fl) j s T D = some s' ∧ runN P M (lone (ext s'.1.fr (topK s'.1.X k)) (exX s'.1.X k ++ [stopper]) (tp s'.1.w T D')) = .next m1 ∧ (Arr fl s'.1 ∨ M = 0)
  | 0, s, D, h => ⟨0, s, 0, D, rfl, h, .inr rfl⟩
  | N + 1, s, D, h => by
    by_cases ha : Arr fl s.1
    · exact ⟨0, s, N + 1, D, rfl, h, .inl ha⟩
    · rcases one hT hE fl (s.2.tp T D) (fun h => ha h) with ⟨s1, m, es, h1⟩ | ⟨m, h1⟩
      · have e := h1.2.2 true k [stopper] T D hk (fun _ _ _ => rfl)
        have e1 := stI_once ha h1 (T' := T) (D' := D) (fun _ _ _ => rfl)
        have e' : stepG P true (G (ext s.1.fr (topK s.1.X k)) (exX s.1.X k ++ [stopper])) (tp s.1.w T D) = .go (G (ext s1.fr (topK s1.X k)) (exX s1.X k ++ [stopper])) (tp s1.w T (D + m)) es := e
        simp only [runN, step_go_of e'] at h
        obtain ⟨j, s', M, D', r1, r2, r3⟩ := lone_runs hT hE hk T N ⟨⟨s1.fr, s1.X, nrm s1.w⟩, h1.1.tp _ _⟩ (D + m) h
        exact ⟨j + 1, s', M, D', by simp only [runs, e1]; exact r1, r2, r3⟩
      · obtain ⟨o, w', es, e⟩ := h1 true k [stopper] T D hk (fun _ _ _ => rfl)
        have e' : stepG P true (G (ext s.1.fr (topK s.1.X k)) (exX s.1.X k ++ [stopper])) (tp s.1.w T D) = .ended o w' es := e
        simp only [runN, step_ended_of e'] at h
        cases h
theorem beyond {fr : Frame} {w : World} (e1 : fr.kind = .normal) (e2 : fr.defers = []) (e3 : fr.roundOf = none) (e4 : ∀ d wr rs sv k, fr.todo ≠ .call d wr rs sv :: k) (hl : Low n w) (hm : fr.mode ≠ .run) (M : Nat) (fr1 : Frame) (w1 : World) : runN P (M + 1) (lone fr [stopper] w) ≠ .next (lone fr1 [stopper] w1) := by
  intro h
  have last : ∀ {c : Frame} {w' : World}, step P (lone fr [stopper] w) = .next (lone c [] w') → (∃ o w'', step P (lone c [] w') = .ended o w'') → False := by
    intro c w' k1 ⟨o, w'', k2⟩
    simp only [runN, k1] at h
    cases M with
    | zero =>
      simp only [runN, Stepped.next.injEq] at h
      have := congrArg (fun m => (m.gs[0]?).map (·.callers)) h
      simp [lone] at this
    | succ N => simp only [runN, k2] at h; cases h
  cases hmd : fr.mode with
  | run => exact hm hmd
  | returning =>
    obtain ⟨fn, tmps, todo, defers, mode, kind, roundOf⟩ := fr
    simp only at e1 e2 e3 e4 hmd
    subst e1 e2 e3 hmd
    cases hfn : P.funcs[fn]? with
    | none =>
      refine last (c := stopper) (w' := w) (step_go_of (es := #[]) ?_) ⟨_, _, (step_stopper (P := P) (w := w)).choose_spec⟩
      simp [G, stepG, unwind, doReturn, hfn, stopper, Frame.finish]
    | some f =>
      obtain ⟨us, k1, k2, k3⟩ := Fine.runT (wr := true) P n (results f tmps) (f_results f tmps) w #[] hl
      generalize he : (results f tmps).runT P w #[] = r at k1 k3
      obtain ⟨r1, r2⟩ := r
      simp only at k1
      subst k1
      cases r1 with
      | ok v w' =>
        refine last (c := stopper) (w' := w') (step_go_of (es := seen P fn (#[] ++ us)) ?_) ⟨_, _, (step_stopper (P := P) (w := w')).choose_spec⟩
        simp only [G, stepG, unwind, hfn, he, GStep.after, doReturn, stopper, Frame.finish]
        simp
      | halt hh w' =>
        have : ∃ o w'' es, stepG P true (G { fn, tmps, todo, defers := [], mode := .returning, kind := .normal, roundOf := none } ([stopper])) w = .ended o w'' es := by
          cases hh <;> exact ⟨_, _, _, by simp only [G, stepG, unwind, hfn, he, GStep.after]; rfl⟩
        obtain ⟨o, w'', es, k5⟩ := this
        simp only [runN, step_ended_of k5] at h
        cases h
  | panicking chain =>
    obtain ⟨fn, tmps, todo, defers, mode, kind, roundOf⟩ := fr
    simp only at e1 e2 e3 e4 hmd
    subst e1 e2 e3 hmd
    have hcat : Frame.catches P { fn, tmps, todo, defers := [], mode := .panicking chain, kind := .normal, roundOf := none } = false := by
      unfold Frame.catches
      split
      · next d wr rs sv k hn hh =>
        simp only at hh
        exact absurd hh (e4 d wr rs sv k)
      · rfl
    exact last (c := stopper.raise chain) (w' := w) (step_go_of (es := #[]) (by simp [G, stepG, unwind, hcat])) step_stopper_panic
theorem no_call {fr : Frame} (h : TF wr F fr) (d : Deferred) (b : Bool) (rs : String) (sv : Array Value) (k : List Item) : fr.todo ≠ .call d b rs sv :: k := fun e => by
  have := h.todo (.call d b rs sv) (by rw [e]; exact List.mem_cons_self)
  simp [itemT] at this
theorem lone_inj {fr fr' : Frame} {cs cs' : List Frame} {w w' : World} (h : lone fr cs w = lone fr' cs' w') : fr = fr' ∧ cs = cs' ∧ w = w' := by
  refine ⟨?_, ?_, congrArg (fun m => m.world) h⟩
  · have := congrArg (fun m => (m.gs[0]?).map (·.frame)) h
    simpa [lone] using this
  · have := congrArg (fun m => (m.gs[0]?).map (·.callers)) h
    simpa [lone] using this
theorem runN_zero {m m1 : Machine} (h : runN P 0 m = .next m1) : m = m1 := by simpa [runN] using h
theorem calls_Z (hT : TameP wr P F) (hE : NoEarly P n) {main : Bool} {Z : Frame → List Frame → World → Prop} (hZ : OwnZ wr P n main Z) {f : FuncId} {args : Array Value} {w : World} {R : Ending → World → Prop}
    (hC : ∀ T D, Calls P f args (tp w T D) R) (hF : F f = true) (hbd : ∃ fn, P.funcs[f]? = some fn ∧ fn.body.isSome = true) (hl : Low n w) (hR : ∀ e w', R e w' → ∃ v, e = .returned v) {tail : List Frame}
    (next : ∀ v w' fr, R (.returned v) w' → fr.fn = f → fr.leaving P w' (.returned v) → Low n w' → Z fr tail w') : Z (Frame.enter P f args .normal) tail w := by
  obtain ⟨fn, c, h1, h2, h3, h4⟩ := hT.body hF hbd
  have hi : Ins wr F n ⟨Frame.enter P f args .normal, [], w⟩ := ⟨enter_TF h1 h2 h3 args, fun x hx => (by cases hx), hl⟩
  let Fin : { s : Cf // Ins wr F n s } → Prop := fun s => s.1.X = [] ∧ s.1.fr.fn = f ∧ ∃ v T D, R (.returned v) (tp s.1.w T D) ∧ s.1.fr.leaving P (tp s.1.w T D) (.returned v)
  have hg : Good (stI wr P F n true) Fin ⟨_, hi⟩ := by
    intro T D
    obtain ⟨e, w1, fr1, hr, hc, hfn, hlv⟩ := hC T D [stopper]
    obtain ⟨v, rfl⟩ := hR _ _ hr
    obtain ⟨N, hN⟩ := hc
    have hm1 : fr1.mode = .returning := hlv.1
    obtain ⟨j, s', M, D', r1, r2, r3⟩ := lone_runs (fl := true) (k := []) hT hE (fun _ => rfl) T N ⟨_, hi⟩ D (by simpa only [topK_nil, ext_nil, exX_nil, List.nil_append] using hN)
    refine ⟨j, s', r1, ?_⟩
    simp only [topK_nil, ext_nil, exX_nil] at r2
    cases M with
    | zero =>
      obtain ⟨q1, q2, q3⟩ := lone_inj (runN_zero r2)
      have hx : s'.1.X = [] := by
        have := congrArg List.length q2
        simp at this
        exact this
      exact ⟨hx, by rw [q1]; exact hfn, v, T, D', by rw [q3]; exact hr, by rw [q1, q3]; exact hlv⟩
    | succ M =>
      rcases r3 with ⟨hx, hm | ⟨hf, _⟩ | ⟨hm, he⟩⟩ | h0
      · rw [hx, List.nil_append] at r2
        exact absurd r2 (beyond s'.2.tf.kind s'.2.tf.defers s'.2.tf.round (no_call s'.2.tf) (s'.2.tp T D').low hm M fr1 w1)
      · cases hf
      · rw [hx, List.nil_append] at r2
        obtain ⟨o, w', es, k5⟩ := esc_ends (P := P) (w := tp s'.1.w T D') s'.2.tf hm he true [stopper]
        simp only [runN, step_ended_of k5] at r2
        cases r2
      · cases h0
  have := tree_Z (k := []) (tail := tail) hT hE hZ (fun _ => rfl) (Fin := Fin) (fun s hs => by
    obtain ⟨hx, hfn, v, T, D, h5, h6⟩ := hs
    have := hZ.tape _ _ _ s.1.w.tape s.1.w.drawn (next v _ s.1.fr h5 hfn h6 s.2.low)
    simp only [topK_nil, ext_nil, exX_nil, hx, List.nil_append]
    exact this) (tree_of_runs (stI_spliced hT hE) hg)
  simpa only [topK_nil, ext_nil, exX_nil, List.nil_append] using this
end
end Go.Co
end
section
namespace Go.Co
open Go.Conc
set_option linter.unusedVariables false
set_option linter.unusedSimpArgs false
def bar : Item := .code (.refuse "")
def sk : List Item → List Item
  | [] => []
  | .inBlock id :: k => .inBlock id :: bar :: sk k
  | _ :: k => sk k
theorem sk_exit {id : Nat} : ∀ {k k' : List Item}, exitTo id k = some k' → exitTo id (sk k) = some (bar :: sk k')
  | [], _, h => by simp [exitTo] at h
  | it :: k, k', h => by
    cases it <;> simp only [exitTo, sk] at h ⊢
    case inBlock id' =>
      split at h
      · next hh => injection h with h; subst h; rw [if_pos hh]
      · next hh => rw [if_neg hh]; simp only [bar, exitTo]; exact sk_exit h
    all_goals exact sk_exit h
theorem sk_exit_none {id : Nat} : ∀ {k : List Item}, exitTo id k = none → exitTo id (sk k) = none
  | [], _ => rfl
  | it :: k, h => by
    cases it <;> simp only [exitTo, sk] at h ⊢
    case inBlock id' =>
      split at h
      · cases h
      · next hh => rw [if_neg hh]; simp only [bar, exitTo]; exact sk_exit_none h
    all_goals exact sk_exit_none h
theorem sk_goto {l : Nat} : ∀ (k : List Item), gotoIn l (sk k) = none
  | [] => rfl
  | it :: k => by
    cases it <;> simp only [sk]
    case inBlock id' => simp only [gotoIn, bar]; exact sk_goto k
    all_goals exact sk_goto k
theorem sk_lt {id : Nat} : ∀ {k k' : List Item}, exitTo id k = some k' → (sk k').length < (sk k).length
  | [], _, h => by simp [exitTo] at h
  | it :: k, k', h => by
    cases it <;> simp only [exitTo, sk] at h ⊢
    case inBlock id' =>
      split at h
      · injection h with h; subst h; simp only [List.length_cons]; omega
      · have := sk_lt h; simp only [List.length_cons]; omega
    all_goals exact sk_lt h
theorem sk_same {i j : Nat} : ∀ {k k1 k2 : List Item}, exitTo i k = some k1 → exitTo j k = some k2 → (sk k1).length = (sk k2).length → i = j
  | [], _, _, h, _, _ => by simp [exitTo] at h
  | it :: k, k1, k2, h1, h2, e => by
    cases it <;> simp only [exitTo] at h1 h2
    case inBlock id =>
      by_cases hi : (id == i) = true <;> by_cases hj : (id == j) = true
      · exact (beq_iff_eq.1 hi).symm.trans (beq_iff_eq.1 hj)
      · rw [if_pos hi] at h1; rw [if_neg hj] at h2
        injection h1 with h1; subst h1
        have := sk_lt h2; omega
      · rw [if_neg hi] at h1; rw [if_pos hj] at h2
        injection h2 with h2; subst h2
        have := sk_lt h1; omega
      · rw [if_neg hi] at h1; rw [if_neg hj] at h2
        exact sk_same h1 h2 e
    all_goals exact sk_same h1 h2 e
theorem gotoIn_app_none {l : Nat} : ∀ {p k : List Item}, gotoIn l p = none → gotoIn l (p ++ k) = gotoIn l k
  | [], _, _ => rfl
  | it :: p, k, h => by
    cases it <;> simp only [gotoIn, List.cons_append] at h ⊢
    case inScope body =>
      cases hf : findLabel body l with
      | some r => rw [hf] at h; cases h
      | none => rw [hf] at h; exact gotoIn_app_none h
    all_goals exact gotoIn_app_none h
section
variable {wr : Bool} {P : Program} {F : FuncId → Bool} {n : Nat}
theorem frame_eq {fr : Frame} {b : Frame} {a : Act} {t t' : List Item} (h : ({ fr with todo := t } : Frame) = b.at a t') : fr = b.at a fr.todo ∧ t = t' := by
  obtain ⟨fn, tmps, todo, defers, mode, kind, roundOf⟩ := fr
  simp only [Frame.at, Frame.mk.injEq] at h ⊢
  obtain ⟨h1, h2, h3, h4, h5, h6, h7⟩ := h
  exact ⟨⟨h1, h2, trivial, h4, h5, h6, h7⟩, h3⟩
theorem frame_eq_ret {fr : Frame} {b : Frame} {a : Act} {t t' : List Item} (h : ({ fr with todo := t } : Frame) = { b.at a t' with mode := .returning }) : fr = { b.at a fr.todo with mode := .returning } := by
  obtain ⟨fn, tmps, todo, defers, mode, kind, roundOf⟩ := fr
  simp only [Frame.at, Frame.mk.injEq] at h ⊢
  obtain ⟨h1, h2, h3, h4, h5, h6, h7⟩ := h
  exact ⟨h1, h2, trivial, h4, h5, h6, h7⟩
theorem step_bar {fr : Frame} {k : List Item} {w : World} (h1 : fr.mode = .run) (h2 : fr.todo = bar :: k) : ∃ o, step P (lone fr [stopper] w) = .ended o w := by
  obtain ⟨fn, tmps, todo, defers, mode, kind, roundOf⟩ := fr
  simp only at h1 h2
  subst h1 h2
  exact ⟨_, step_ended_of (es := #[]) (by simp only [G, stepG, stepG.exec, bar]; rfl)⟩
theorem runN_bar {fr : Frame} {k : List Item} {w : World} (h1 : fr.mode = .run) (h2 : fr.todo = bar :: k) (M : Nat) {m1 : Machine} : runN P (M + 1) (lone fr [stopper] w) ≠ .next m1 := by
  intro h
  obtain ⟨o, e⟩ := step_bar (P := P) (w := w) h1 h2
  simp only [runN, e] at h
  cases h
inductive Out (Q : Exit → Act → World → Prop) (b : Frame) (fr : Frame) (w : World) : Prop
  | normal (a : Act) (T : Tape) (D : Nat) (h : fr = b.at a []) (q : Q .normal a (tp w T D))
  | ret (a : Act) (T : Tape) (D : Nat) (h : fr = { b.at a fr.todo with mode := .returning }) (q : Q .ret a (tp w T D))
  | exit (a : Act) (T : Tape) (D : Nat) (id : Nat) (pre : List Item) (h : fr = b.at a (.code (.exit id) :: pre)) (hp : exitTo id pre = none) (q : Q (.exit id) a (tp w T D))
theorem wp_Z (hT : TameP wr P F) (hE : NoEarly P n) {main : Bool} {Z : Frame → List Frame → World → Prop} (hZ : OwnZ wr P n main Z) {c : Code} (hc : codeT wr F c = true) {Q : Exit → Act → World → Prop} {b : Frame} {a : Act} {k : List Item} {tail : List Frame} {w : World}
    (hw : ∀ T D, c.wp P Q a (tp w T D)) (hb : b.kind = .normal) (hd : a.defers = []) (hl : Low n w)
    (hn : ∀ a' w', Low n w' → Q .normal a' w' → Z (b.at a' k) tail w')
    (hr : ∀ a' w' todo, Low n w' → Q .ret a' w' → Z { b.at a' todo with mode := .returning } tail w')
    (he : ∀ id a' w', Low n w' → Q (.exit id) a' w' → ∃ k', exitTo id k = some k' ∧ Z (b.at a' k') tail w')
    (hx : ∀ e a' w', Q e a' w' → e = .normal ∨ e = .ret ∨ ∃ id, e = .exit id) (he' : ∀ id a' w', Q (.exit id) a' w' → ∃ k', exitTo id k = some k') : Z (b.at a (.code c :: k)) tail w := by
  have hi : Ins wr F n ⟨b.at a [.code c], [], w⟩ := ⟨⟨hb, hd, rfl, fun it hit => by simp only [Frame.at, List.mem_singleton] at hit; subst hit; exact hc⟩, fun x hx => (by cases hx), hl⟩
  let Fin : { s : Cf // Ins wr F n s } → Prop := fun s => s.1.X = [] ∧ Out Q b s.1.fr s.1.w
  let k0 : List Item := bar :: sk k
  have hg : Good (stI wr P F n false) Fin ⟨_, hi⟩ := by
    intro T D
    obtain ⟨e, a', w', hq, harr⟩ := hw T D b k0 [stopper]
    have hm1 : ∃ (N : Nat) (fr1 : Frame), runN P N (lone (b.at a (.code c :: k0)) [stopper] (tp w T D)) = .next (lone fr1 [stopper] w') ∧
        ((e = .normal ∧ fr1 = b.at a' k0) ∨ (e = .ret ∧ ∃ todo, fr1 = { b.at a' todo with mode := .returning }) ∨ ∃ id k', e = .exit id ∧ exitTo id k = some k' ∧ fr1 = b.at a' (bar :: sk k')) := by
      rcases hx _ _ _ hq with rfl | rfl | ⟨id, rfl⟩
      · obtain ⟨N, hN⟩ := harr; exact ⟨N, _, hN, .inl ⟨rfl, rfl⟩⟩
      · obtain ⟨todo, N, hN⟩ := harr; exact ⟨N, _, hN, .inr (.inl ⟨rfl, todo, rfl⟩)⟩
      · obtain ⟨k', hk'⟩ := he' _ _ _ hq
        obtain ⟨N, hN⟩ := harr (bar :: sk k') (by simp only [k0, bar, exitTo]; exact sk_exit hk')
        exact ⟨N, _, hN, .inr (.inr ⟨id, k', rfl, hk', rfl⟩)⟩
    obtain ⟨N, fr1, hN, hfr1⟩ := hm1
    obtain ⟨j, s', M, D', r1, r2, r3⟩ := lone_runs (fl := false) (k := k0) hT hE (fun h => by cases h) T N ⟨_, hi⟩ D hN
    refine ⟨j, s', r1, ?_⟩
    have htf := s'.2.tf
    cases M with
    | zero =>
      obtain ⟨q1, q2, q3⟩ := lone_inj (runN_zero r2)
      have hxx : s'.1.X = [] := by
        have := congrArg List.length q2
        simp [exX_length] at this
        exact this
      rw [hxx] at q1
      refine ⟨hxx, ?_⟩
      rcases hfr1 with ⟨rfl, rfl⟩ | ⟨rfl, todo, rfl⟩ | ⟨id, k', rfl, hk', rfl⟩
      · obtain ⟨h1, h2⟩ := frame_eq q1
        have h3 : s'.1.fr.todo = [] := by
          have := congrArg List.length h2
          simp [topK] at this
          exact this
        exact .normal a' T D' (by rw [h1, h3]) (by rw [q3]; exact hq)
      · exact .ret a' T D' (frame_eq_ret q1) (by rw [q3]; exact hq)
      · obtain ⟨h1, h2⟩ := frame_eq q1
        have := congrArg List.length h2
        have h4 := sk_lt hk'
        simp [topK, k0] at this
        omega
    | succ M =>
      rcases r3 with ⟨hxx, hmode⟩ | h0
      · rw [hxx] at r2
        replace r2 : runN P (M + 1) (lone (ext s'.1.fr k0) [stopper] (tp s'.1.w T D')) = .next (lone fr1 [stopper] w') := r2
        refine ⟨hxx, ?_⟩
        rcases hmode with hm | ⟨_, htodo⟩ | ⟨hm, hesc⟩
        · refine absurd r2 (beyond (fr := ext s'.1.fr k0) (w := tp s'.1.w T D') htf.kind htf.defers htf.round (fun d bb rs sv kk hh => ?_) (s'.2.tp T D').low hm M fr1 w')
          cases ht : s'.1.fr.todo with
          | nil => simp only [ext, ht, List.nil_append, k0, bar] at hh; cases hh
          | cons it rest =>
            simp only [ext, ht, List.cons_append] at hh
            injection hh with h1 h2
            have := htf.todo it (by rw [ht]; exact List.mem_cons_self)
            rw [h1] at this
            simp [itemT] at this
        · by_cases hm : s'.1.fr.mode = .run
          · exact absurd r2 (runN_bar (k := sk k) (fr := ext s'.1.fr k0) hm (by simp only [ext, htodo, List.nil_append]; rfl) M)
          · refine absurd r2 (beyond (fr := ext s'.1.fr k0) (w := tp s'.1.w T D') htf.kind htf.defers htf.round (fun d bb rs sv kk hh => ?_) (s'.2.tp T D').low hm M fr1 w')
            simp only [ext, htodo, List.nil_append, k0, bar] at hh; cases hh
        · obtain ⟨pre, ⟨id1, e1, e2⟩ | ⟨l, e1, e2⟩⟩ := hesc
          · have hfr : s'.1.fr = ({ (default : Frame) with fn := s'.1.fr.fn, kind := .normal } : Frame).at ⟨s'.1.fr.tmps, []⟩ (.code (.exit id1) :: pre) := by
              obtain ⟨⟨fr, X, w0⟩, hins⟩ := s'
              obtain ⟨fn, tmps, todo, defers, mode, kind, roundOf⟩ := fr
              have h1 := htf.kind
              have h2 := htf.defers
              have h3 := htf.round
              simp only at h1 h2 h3 hm e1
              subst h1 h2 h3 hm e1
              rfl
            generalize hb1 : ({ (default : Frame) with fn := s'.1.fr.fn, kind := .normal } : Frame) = b1 at hfr
            generalize ha1 : (⟨s'.1.fr.tmps, []⟩ : Act) = a1 at hfr
            rw [hfr] at r2
            have ex : ext (b1.at a1 (.code (.exit id1) :: pre)) k0 = b1.at a1 (.code (.exit id1) :: (pre ++ k0)) := rfl
            rw [ex] at r2
            cases hk1 : exitTo id1 k with
            | none =>
              have hno : exitTo id1 (pre ++ k0) = none := by rw [exitTo_app_none e2]; simp only [k0, bar, exitTo]; exact sk_exit_none hk1
              have : step P (lone (b1.at a1 (.code (.exit id1) :: (pre ++ k0))) [stopper] (tp s'.1.w T D')) = .ended (.stuck "exit, goto: no such block or label" ((b1.at a1 (.code (.exit id1) :: (pre ++ k0))).pos P)) (tp s'.1.w T D') :=
                step_ended_of (es := #[]) (by simp [G, stepG, stepG.exec, Frame.at, hno])
              simp only [runN, this] at r2
              cases r2
            | some k1 =>
              have hyes : exitTo id1 (pre ++ k0) = some (bar :: sk k1) := by rw [exitTo_app_none e2]; simp only [k0, bar, exitTo]; exact sk_exit hk1
              have hst : step P (lone (b1.at a1 (.code (.exit id1) :: (pre ++ k0))) [stopper] (tp s'.1.w T D')) = .next (lone (b1.at a1 (bar :: sk k1)) [stopper] (tp s'.1.w T D')) := step_go_of (stepG_exit hyes)
              simp only [runN, hst] at r2
              cases M with
              | succ M => exact absurd r2 (runN_bar (k := sk k1) rfl rfl M)
              | zero =>
                obtain ⟨q1, q2, q3⟩ := lone_inj (runN_zero r2)
                rcases hfr1 with ⟨rfl, rfl⟩ | ⟨rfl, todo, rfl⟩ | ⟨id, k', rfl, hk', rfl⟩
                · have := congrArg (fun f => f.todo.length) q1
                  have h4 := sk_lt hk1
                  simp [Frame.at, k0] at this
                  omega
                · have := congrArg (fun f => f.mode) q1
                  simp [Frame.at] at this
                · have h5 := congrArg (fun f => f.todo.length) q1
                  simp [Frame.at] at h5
                  have h6 : id1 = id := sk_same hk1 hk' h5
                  subst h6
                  refine .exit a' T D' id1 pre ?_ e2 (by rw [q3]; exact hq)
                  rw [hfr]
                  simp only [Frame.at, Frame.mk.injEq] at q1 ⊢
                  obtain ⟨z1, z2, z3, z4, z5, z6, z7⟩ := q1
                  exact ⟨z1, z2, trivial, z4, trivial, z6, trivial⟩
          · exfalso
            have hno : gotoIn l (pre ++ k0) = none := by rw [gotoIn_app_none e2]; simp only [k0, bar, gotoIn]; exact sk_goto k
            have hfr : s'.1.fr = ({ (default : Frame) with fn := s'.1.fr.fn, kind := .normal } : Frame).at ⟨s'.1.fr.tmps, []⟩ (.code (.goto l) :: pre) := by
              obtain ⟨⟨fr, X, w0⟩, hins⟩ := s'
              obtain ⟨fn, tmps, todo, defers, mode, kind, roundOf⟩ := fr
              have h1 := htf.kind
              have h2 := htf.defers
              have h3 := htf.round
              simp only at h1 h2 h3 hm e1
              subst h1 h2 h3 hm e1
              rfl
            generalize hb1 : ({ (default : Frame) with fn := s'.1.fr.fn, kind := .normal } : Frame) = b1 at hfr
            generalize ha1 : (⟨s'.1.fr.tmps, []⟩ : Act) = a1 at hfr
            rw [hfr] at r2
            have ex : ext (b1.at a1 (.code (.goto l) :: pre)) k0 = b1.at a1 (.code (.goto l) :: (pre ++ k0)) := rfl
            rw [ex] at r2
            have : step P (lone (b1.at a1 (.code (.goto l) :: (pre ++ k0))) [stopper] (tp s'.1.w T D')) = .ended (.stuck "exit, goto: no such block or label" ((b1.at a1 (.code (.goto l) :: (pre ++ k0))).pos P)) (tp s'.1.w T D') :=
              step_ended_of (es := #[]) (by simp [G, stepG, stepG.exec, Frame.at, hno])
            simp only [runN, this] at r2
            cases r2
      · cases h0
  have := tree_Z (k := k) (tail := tail) hT hE hZ (fun h => by cases h) (Fin := Fin) (fun s hs => by
    obtain ⟨hxx, ho⟩ := hs
    have hls := s.2.low
    rw [hxx]
    simp only [topK, exX, List.nil_append]
    cases ho with
    | normal a' T D h q =>
      have := hZ.tape _ _ _ s.1.w.tape s.1.w.drawn (hn a' (tp s.1.w T D) hls q)
      rw [h, ext_at]
      exact this
    | ret a' T D h q =>
      have := hZ.tape _ _ _ s.1.w.tape s.1.w.drawn (hr a' (tp s.1.w T D) (s.1.fr.todo ++ k) hls q)
      have e : ext s.1.fr k = { b.at a' (s.1.fr.todo ++ k) with mode := .returning } := by
        generalize s.1.fr.todo = t at h
        rw [h]; rfl
      rw [e]
      exact this
    | exit a' T D id pre h hp q =>
      obtain ⟨k', hk', hz⟩ := he id a' (tp s.1.w T D) hls q
      rw [h, ext_at]
      refine hZ.step _ _ _ hls fun T' D'' => ⟨_, _, _, #[], stepG_exit (k' := k') (by show exitTo id (pre ++ k) = some k'; rw [exitTo_app_none hp]; exact hk'), EvOk.nil, LowE.nil, Kept.refl _, hls, ?_⟩
      exact hZ.tape _ _ (tp s.1.w T D) T' D'' hz) (tree_of_runs (stI_spliced hT hE) hg)
  exact this
end
end Go.Co
end
section
namespace Go.Co
open Go.Conc
open Go.ConcN (sumTo upd sumTo_upd upd_ne upd_same)
set_option linter.unusedVariables false
set_option linter.unusedSimpArgs false
def NoShun : Loc → Prop := fun _ => False
def FinB (P : Program) (Post : Value → World → Prop) (m : Machine) (t : Trace) : Prop :=
  ∃ N last o w' t', runNT P (N + 1) m t = (.ended o w', t') ∧ runN P N m = .next last ∧ step P last = .ended o w' ∧ Go.Conc.Good P Post last o w' t'
section
variable {P : Program} {Post : Value → World → Prop} {wr : Bool} {n : Nat}
theorem FinB.step {m m1 : Machine} {t ops : Trace} (h : stepT P m = (.next m1, ops)) (h' : FinB P Post m1 (t ++ ops)) : FinB P Post m t := by
  obtain ⟨N, last, o, w', t', h1, h2, h3, h4⟩ := h'
  have hs : Go.step P m = .next m1 := by unfold Go.step; rw [h]
  exact ⟨N + 1, last, o, w', t', by rw [runNT_succ_next h, h1], by simp only [runN, hs]; exact h2, h3, h4⟩
theorem FinB.now {m : Machine} {t ops : Trace} {o : Outcome} {w' : World} (h : stepT P m = (.ended o w', ops)) (hg : Go.Conc.Good P Post m o w' (t ++ ops)) : FinB P Post m t :=
  ⟨0, m, o, w', t ++ ops, by simp only [runNT, h], rfl, by unfold Go.step; rw [h], hg⟩
variable (n) in
def BW (P : Program) (Post : Value → World → Prop) (fr : Frame) (cs : List Frame) (w : World) : Prop :=
  ∀ (gs : Array Goroutine) (sl : Option (Nat × Nat)) (t : Trace) (q : Nat → Nat) (T : Tape) (D : Nat), Low n w → gs[0]? = some (G fr cs) → Leavers P t gs q → Past NoShun w.heap.size t → FinB P Post (crowd gs (tp w T D) sl) t
theorem evL_of {wr : Bool} {B : Nat} {es : Array Event} (h : EvOk wr es) (hl : LowE B es) : ∀ e ∈ es, EvL NoShun B e := by
  intro e he
  obtain ⟨h1, _⟩ := h e he
  have h2 := hl e he
  obtain ⟨loc, w, s⟩ := e
  refine ⟨fun x hx hs => hs.elim, fun h => ?_, fun h => ?_, ?_⟩
  · have := h1 _ h; simp [mOk] at this
  · have := h1 _ h; simp [mOk] at this
  · cases loc with
    | cell a => exact h2
    | obj r => cases w <;> cases s <;> exact h2
    | output => trivial
    | goroutines => trivial
    | mark m =>
      have := h1 m rfl
      cases m <;> simp [mOk] at this
      all_goals trivial
theorem leavers_awake {gs : Array Goroutine} {t : Trace} {q : Nat → Nat} {a : Goroutine} (h0 : gs[0]? = some a) (hrun : a.status = .running) (hL : Leavers P t gs q) : ∀ g ∈ gs, awake g := by
  intro g hg
  obtain ⟨i, hi, rfl⟩ := Array.mem_iff_getElem.1 hg
  rcases Nat.eq_zero_or_pos i with rfl | hpos
  · have : gs[0] = a := by simpa [Array.getElem?_eq_getElem hi] using h0
    rw [this]; exact awake_of (.inl hrun)
  · exact awake_of ((hL.old i _ hpos (Array.getElem?_eq_getElem hi)).status.elim .inl fun x => .inr (.inr x))
theorem other0 {t : Trace} {j : Nat} (hj : 0 < j) {fn : FuncId} {pos : String} {es : Array Event} : Deaf (t ++ MemOp.ofEvents 0 fn pos es) j = Deaf t j :=
  Deaf_other t (g := j) (g' := 0) (by omega) (MemOp.ofEvents 0 fn pos es) (fun op hop => by obtain ⟨e, _, rfl⟩ := Go.Conc.mem_ofEvents hop; rfl)
theorem leavers_own {gs : Array Goroutine} {t : Trace} {q : Nat → Nat} {g g' : Goroutine} {w' : World} {fn : FuncId} {pos : String} {es : Array Event} (h0 : 0 < gs.size) (hL : Leavers P t gs q) :
    Leavers P (t ++ MemOp.ofEvents 0 fn pos es) ((gs.map (woken P g g' w')).setIfInBounds 0 g') q :=
  ⟨fun j x hj hx => by
    have hne : 0 ≠ j := by omega
    rw [Array.getElem?_setIfInBounds_ne hne, Array.getElem?_map] at hx
    obtain ⟨y, hy, rfl⟩ := Option.map_eq_some_iff.1 hx
    have hq := hL.old j y hj hy
    rw [woken_quitsD hq, other0 hj]
    exact hq, fun j hj => by
    rw [other0 (by simp at hj; omega)]
    exact hL.above j (by simpa using hj)⟩
theorem leaver_slips {gs : Array Goroutine} {t : Trace} {q : Nat → Nat} {w : World} {sl : Option (Nat × Nat)} {i : Nat} {g : Goroutine} (hL : Leavers P t gs q) (hi : gs[i]? = some g) (hg : g.status = .running) (hpos : 0 < i) :
    ∃ g' es q', runT P (crowd gs w sl) i = (.next (crowd ((gs.map (woken P g g' w)).setIfInBounds i g') w sl), MemOp.ofEvents i g.frame.fn g.frame.place es) ∧ (∀ e ∈ es, Event.mute e = true) ∧
      Leavers P (t ++ MemOp.ofEvents i g.frame.fn g.frame.place es) ((gs.map (woken P g g' w)).setIfInBounds i g') q' ∧ sumTo gs.size q' < sumTo gs.size q := by
  have hq := hL.old i g hpos hi
  have hi0 : (i == 0) = false := by simp; omega
  have hlt : i < gs.size := (Array.getElem?_eq_some_iff.1 hi).1
  cases hqi : q i with
  | zero => rw [hqi] at hq; rw [hq.1] at hg; cases hg
  | succ k =>
    rw [hqi] at hq
    rcases hq with ⟨hf, _⟩ | ⟨_, g', es, hm, hstp, hq'⟩
    · rw [hf] at hg; cases hg
    have hrunT := runT_crowd_go (P := P) (sl := sl) (i := i) hi (by rw [hi0]; exact hstp w)
    have hsum : sumTo gs.size (upd q i k) + (k + 1) = sumTo gs.size q + k := by
      have := sumTo_upd q k id hlt
      simpa [hqi] using this
    refine ⟨g', es, upd q i k, hrunT, hm, ⟨fun j x hj hx => ?_, fun j hj => ?_⟩, by omega⟩
    · by_cases hji : i = j
      · subst hji
        rw [Array.getElem?_setIfInBounds_self_of_lt (by simpa using hlt)] at hx
        obtain rfl := Option.some.inj hx
        rw [upd_same, Deaf_own]
        exact hq'
      · rw [Array.getElem?_setIfInBounds_ne hji, Array.getElem?_map] at hx
        obtain ⟨y, hy, rfl⟩ := Option.map_eq_some_iff.1 hx
        have hqj := hL.old j y hj hy
        rw [woken_quitsD hqj, upd_ne q k (Ne.symm hji), Deaf_other t hji (MemOp.ofEvents i g.frame.fn g.frame.place es) (fun op hop => by obtain ⟨e, _, rfl⟩ := Go.Conc.mem_ofEvents hop; rfl)]
        exact hqj
    · rw [Deaf_other t (g' := i) (by simp at hj; omega) (MemOp.ofEvents i g.frame.fn g.frame.place es) (fun op hop => by obtain ⟨e, _, rfl⟩ := Go.Conc.mem_ofEvents hop; rfl)]
      exact hL.above j (by simpa using hj)
theorem bw_pick {fr : Frame} {cs : List Frame} {w : World}
    (h : ∀ (gs : Array Goroutine) (sl : Option (Nat × Nat)) (t : Trace) (q : Nat → Nat) (T : Tape) (D : Nat) (m0 : Machine) (t0 : Trace), stepT P m0 = runT P (crowd gs (tp w T D) sl) 0 → m0.gs = gs → m0.rest.timers = #[] → gs[0]? = some (G fr cs) → Leavers P t gs q → Past NoShun w.heap.size t → Low n w → FinB P Post m0 t) : BW n P Post fr cs w := by
  have key : ∀ (M : Nat) (gs : Array Goroutine) (sl : Option (Nat × Nat)) (t : Trace) (q : Nat → Nat) (T : Tape) (D : Nat), sumTo gs.size q ≤ M → Low n w → gs[0]? = some (G fr cs) → Leavers P t gs q → Past NoShun w.heap.size t → FinB P Post (crowd gs (tp w T D) sl) t := by
    intro M
    induction M with
    | zero =>
      intro gs sl t q T D hM hl h0 hL hP
      obtain ⟨i, g, d, sl', hi, hg, hst⟩ := crowd_pick (P := P) (w := tp w T D) (sl := sl) (leavers_awake h0 rfl hL) ⟨0, _, h0, rfl⟩
      rcases Nat.eq_zero_or_pos i with rfl | hpos
      · exact h gs sl' t q T d _ t hst rfl rfl h0 hL hP hl
      · obtain ⟨g', es, q', h1, h2, h3, h4⟩ := leaver_slips (w := (tp w T D).at d) (sl := sl') hL hi hg hpos
        omega
    | succ M ih =>
      intro gs sl t q T D hM hl h0 hL hP
      obtain ⟨i, g, d, sl', hi, hg, hst⟩ := crowd_pick (P := P) (w := tp w T D) (sl := sl) (leavers_awake h0 rfl hL) ⟨0, _, h0, rfl⟩
      rcases Nat.eq_zero_or_pos i with rfl | hpos
      · exact h gs sl' t q T d _ t hst rfl rfl h0 hL hP hl
      · obtain ⟨g', es, q', h1, h2, h3, h4⟩ := leaver_slips (w := (tp w T D).at d) (sl := sl') hL hi hg hpos
        refine FinB.step (hst.trans h1) (ih _ sl' _ q' T d (by simp only [Array.size_setIfInBounds, Array.size_map]; omega) hl ?_ h3 (hP.mute (by omega) h2))
        have hne : i ≠ 0 := by omega
        rw [Array.getElem?_setIfInBounds_ne hne, Array.getElem?_map, h0]
        simp [woken_run (show (G fr cs).status = .running from rfl)]
  exact fun gs sl t q T D hl h0 hL hP => key _ gs sl t q T D (Nat.le_refl _) hl h0 hL hP
theorem BW.tape {fr : Frame} {cs : List Frame} {w : World} (T : Tape) (D : Nat) (h : BW n P Post fr cs w) : BW n P Post fr cs (tp w T D) := fun gs sl t q T' D' hl h0 hL hP => h gs sl t q T' D' hl h0 hL hP
theorem bw_own (wr : Bool) : OwnZ wr P n true (BW n P Post) where
  tape := fun fr cs w T D h => h.tape T D
  step := fun fr cs w _ h => bw_pick fun gs sl t q T D m0 t0 hst _ _ h0 hL hP hl => by
    obtain ⟨fr', cs', w', es, e1, e2, e3, e4, e5, e6⟩ := h T D
    have hrunT := runT_crowd_go (P := P) (sl := sl) (i := 0) h0 (show stepG P (0 == 0) (G fr cs) (tp w T D) = _ from e1)
    have hlt : 0 < gs.size := (Array.getElem?_eq_some_iff.1 h0).1
    have hw' : w' = tp w' T w'.drawn := by
      have : w'.tape = T := e4.tape
      cases w'; simp only at this; subst this; rfl
    refine FinB.step (hst.trans hrunT) ?_
    rw [hw']
    refine e6 _ sl _ q T w'.drawn e5 ?_ (leavers_own hlt hL) ?_
    · rw [Array.getElem?_setIfInBounds_self_of_lt (by simpa using hlt)]
    · exact (hP.mono e4.size).own (evL_of e2 e3)
theorem leaving_tp {fr : Frame} {w : World} {v : Value} (h : fr.leaving P w (.returned v)) (T : Tape) (D : Nat) : fr.leaving P (tp w T D) (.returned v) := by
  obtain ⟨h1, h2, h3, fn, h4, h5⟩ := h
  refine ⟨h1, h2, h3, fn, h4, ?_⟩
  obtain ⟨us, k, t1, t2, t3, t4, t5⟩ := taped (wr := true) P (results fn fr.tmps) (f_results fn fr.tmps) w #[]
  have e : ((results fn fr.tmps).runT P w #[]).1 = .ok v w := by rw [Sem.runT_fst, h5]
  rw [e] at t4
  have hk : k = 0 := by simp only [Rworld] at t4; omega
  subst hk
  have t6 := t5 T D (fun j hj => by omega)
  rw [e] at t6
  rw [← Sem.runT_fst (es := #[]), t6]
  rfl
theorem step_leaving {main : Bool} {fr c : Frame} {cs : List Frame} {w : World} {v : Value} (h : fr.leaving P w (.returned v)) :
    ∃ es, stepG P main (G fr (c :: cs)) w = .go (G (c.finish v) cs) w es ∧ EvOk true es ∧ LowE w.heap.size es := by
  obtain ⟨h1, h2, h3, fn, h4, h5⟩ := h
  obtain ⟨us, k, t1, t2, t3, t4, t5⟩ := taped (wr := true) P (results fn fr.tmps) (f_results fn fr.tmps) w #[]
  have hev : EvOk true us := by
    obtain ⟨us', e1, e2, e3⟩ := Fine.runT (wr := true) P 0 (results fn fr.tmps) (f_results fn fr.tmps) w #[] (fun g hg => by omega)
    rw [t1] at e1
    rw [Array.empty_append, Array.empty_append] at e1
    exact e1 ▸ e2
  have e : ((results fn fr.tmps).runT P w #[]).1 = .ok v w := by rw [Sem.runT_fst, h5]
  have e2 : (results fn fr.tmps).runT P w #[] = (.ok v w, us) := Prod.ext e (by rw [t1, Array.empty_append])
  rw [e] at t2
  refine ⟨seen P fr.fn us, ?_, seen_ok hev, seen_low t2⟩
  obtain ⟨fn', tmps, todo, defers, mode, kind, roundOf⟩ := fr
  simp only at h1 h2 h3 h4 e2
  subst h1 h2 h3
  simp only [G, stepG, unwind, h4, e2, GStep.after, doReturn]
  simp
theorem bw_ret {fr c : Frame} {cs : List Frame} {w : World} {v : Value} (h : fr.leaving P w (.returned v)) (h' : BW n P Post (c.finish v) cs w) : BW n P Post fr (c :: cs) w := by
  have hl : Low n w → BW n P Post fr (c :: cs) w := fun hl => (bw_own true).step _ _ _ hl fun T D => by
    obtain ⟨es, h1, h2, h3⟩ := step_leaving (P := P) (main := true) (c := c) (cs := cs) (leaving_tp h T D)
    exact ⟨_, _, _, es, h1, h2, h3, Kept.refl _, hl, h'.tape T D⟩
  exact fun gs sl t q T D hlow => hl hlow gs sl t q T D hlow
theorem bw_end {fr : Frame} {w : World} {v : Value} (h : fr.leaving P w (.returned v)) (hi : P.inits.idxOf? fr.fn = none) (hp : ∀ T D, Post v (tp w T D)) : BW n P Post fr [] w :=
  bw_pick fun gs sl t q T D m0 t0 hst hgs htm h0 hL hP hl => by
    obtain ⟨h1, h2, h3, fn, h4, h5⟩ := leaving_tp h T D
    obtain ⟨us, k, t1, t2, t3, t4, t5⟩ := taped (wr := true) P (results fn fr.tmps) (f_results fn fr.tmps) (tp w T D) #[]
    have hev : EvOk true us := by
      obtain ⟨us', e1, e2, e3⟩ := Fine.runT (wr := true) P 0 (results fn fr.tmps) (f_results fn fr.tmps) (tp w T D) #[] (fun g hg => by omega)
      rw [t1] at e1
      rw [Array.empty_append, Array.empty_append] at e1
      exact e1 ▸ e2
    have e : ((results fn fr.tmps).runT P (tp w T D) #[]).1 = .ok v (tp w T D) := by rw [Sem.runT_fst, h5]
    have e2 : (results fn fr.tmps).runT P (tp w T D) #[] = (.ok v (tp w T D), us) := Prod.ext e (by rw [t1, Array.empty_append])
    rw [e] at t2
    have hend : stepG P (0 == 0) (G fr []) (tp w T D) = .ended (.done v) (tp w T D) (seen P fr.fn us) := by
      obtain ⟨fn', tmps, todo, defers, mode, kind, roundOf⟩ := fr
      simp only at h1 h2 h3 h4 e2 hi
      subst h1 h2 h3
      simp only [G, stepG, unwind, h4, e2, GStep.after, doReturn, hi]
      simp
    have hrunT := runT_many_ended (P := P) (sl := sl) (i := 0) h0 hend
    have hP' := hP.own (fn := (G fr []).frame.fn) (pos := (G fr []).frame.place) (evL_of (seen_ok (P := P) (fn := fr.fn) hev) (seen_low t2))
    refine FinB.now (hst.trans hrunT) ⟨v, rfl, hp T D, hP'.clean, hP'.over, ⟨fun x hx => ?_, by rw [htm]; rfl⟩, fun j x hx hj => ?_⟩
    · rw [hgs] at hx
      obtain ⟨j, hj⟩ := List.mem_iff_getElem?.1 hx
      rw [List.getElem?_drop] at hj
      exact ⟨_, (hL.old (1 + j) x (by omega) (by simpa using hj)).leaves⟩
    · rw [hgs] at hx
      have hq := hL.old j x (by omega) hx
      refine ⟨q j, ?_⟩
      have e : (t ++ MemOp.ofEvents 0 (G fr []).frame.fn (G fr []).frame.place (seen P fr.fn us)).deaf j (t ++ MemOp.ofEvents 0 (G fr []).frame.fn (G fr []).frame.place (seen P fr.fn us)).size = Deaf t j :=
        Deaf_other t (g := j) (g' := 0) (by omega) _ (fun op hop => by obtain ⟨e, _, rfl⟩ := Go.Conc.mem_ofEvents hop; rfl)
      rw [e]
      exact hq.hears _
end
end Go.Co
end
section
namespace Go.Co
open Go.Conc
set_option linter.unusedVariables false
set_option linter.unusedSimpArgs false
def ThenZ (Z : Frame → List Frame → World → Prop) (b : Frame) (k : List Item) (cs : List Frame) : Exit → Act → World → Prop
  | .normal, a, w => Z (b.at a k) cs w
  | .exit id, a, w => ∃ k', exitTo id k = some k' ∧ Z (b.at a k') cs w
  | .ret, a, w => ∀ todo, Z { b.at a todo with mode := .returning } cs w
  | _, _, _ => False
section
variable (n : Nat) (P : Program)
def wpB (c : Code) (Q : Exit → Act → World → Prop) (a : Act) (w : World) : Prop :=
  ∀ (Post : Value → World → Prop) (b : Frame) (k : List Item) (cs : List Frame), b.kind = .normal → (∀ e a' w', Q e a' w' → ThenZ (BW n P Post) b k cs e a' w') → BW n P Post (b.at a (.code c :: k)) cs w
def opsB (ops : Array Oper) (todo : List Nat) (Q : Exit → Act → World → Prop) (a : Act) (w : World) : Prop :=
  ∀ (Post : Value → World → Prop) (b : Frame) (k : List Item) (cs : List Frame), b.kind = .normal → (∀ e a' w', Q e a' w' → ThenZ (BW n P Post) b k cs e a' w') → BW n P Post (b.at a (.inRegion ops todo :: k)) cs w
def CallsB (f : FuncId) (args : Array Value) (w : World) (R : Value → World → Prop) : Prop :=
  ∀ (Post : Value → World → Prop) (cs : List Frame), (∀ v w' fr, R v w' → fr.fn = f → fr.leaving P w' (.returned v) → BW n P Post fr cs w') → BW n P Post (Frame.enter P f args .normal) cs w
end
section
variable {n : Nat} {P : Program} {Q : Exit → Act → World → Prop} {a : Act} {w : World}
theorem CallsB.mono {f : FuncId} {args : Array Value} {R R' : Value → World → Prop} (h : CallsB n P f args w R) (hr : ∀ v w', R v w' → R' v w') : CallsB n P f args w R' :=
  fun Post cs k => h Post cs fun v w' fr hR => k v w' fr (hr v w' hR)
theorem callsB_lone {wr : Bool} {F : FuncId → Bool} (hT : TameP wr P F) (hE : NoEarly P n) {f : FuncId} {args : Array Value} {R : Value → World → Prop} (hF : F f = true) (hbd : ∃ fn, P.funcs[f]? = some fn ∧ fn.body.isSome = true)
    (hC : ∀ T D, Calls P f args (tp w T D) fun e w' => ∃ v, e = .returned v ∧ R v w') : CallsB n P f args w R := fun Post cs h gs sl t q T D hl =>
  calls_Z hT hE (bw_own wr) hC hF hbd hl (fun e w' ⟨v, h, _⟩ => ⟨v, h⟩) (fun v w' fr ⟨v', h1, h2⟩ h3 h4 _ => by
    injection h1 with h1; subst h1
    exact h v w' fr h2 h3 h4) gs sl t q T D hl
theorem bw_ctl {Post : Value → World → Prop} {fr fr' : Frame} {cs cs' : List Frame} (h : ∀ w : World, stepG P true (G fr cs) w = .go (G fr' cs') w #[]) (h' : BW n P Post fr' cs' w) : BW n P Post fr cs w :=
  fun gs sl t q T D hl => (bw_own true).step _ _ _ hl (fun T D => ⟨_, _, _, #[], h _, EvOk.nil, LowE.nil, Kept.refl _, hl, h'.tape T D⟩) gs sl t q T D hl
theorem wpB_mono {c : Code} {Q' : Exit → Act → World → Prop} (h : wpB n P c Q a w) (hq : ∀ e a w, Q e a w → Q' e a w) : wpB n P c Q' a w := fun Post b k cs hb hc => h Post b k cs hb fun e a' w' q => hc e a' w' (hq _ _ _ q)
theorem wpB_skip (h : Q .normal a w) : wpB n P .skip Q a w := fun Post b k cs hb hc => bw_ctl (fun w => stepG_skip) (hc _ _ _ h)
theorem wpB_ret (h : Q .ret a w) : wpB n P .ret Q a w := fun Post b k cs hb hc => bw_ctl (fr' := { b.at a (.code .ret :: k) with mode := .returning }) (fun w => by simp [G, stepG, stepG.exec, Frame.at]) (hc _ _ _ h (.code .ret :: k))
theorem wpB_exit {id : Nat} (h : Q (.exit id) a w) : wpB n P (.exit id) Q a w := fun Post b k cs hb hc => by
  obtain ⟨k', hk, hz⟩ := hc _ _ _ h
  exact bw_ctl (fun w => stepG_exit hk) hz
theorem ThenZ.push {Z : Frame → List Frame → World → Prop} {b : Frame} {x : Item} {k : List Item} {cs : List Frame} {e : Exit} {a : Act} {w : World} (hx : x.plain = true) (he : e ≠ .normal) (h : ThenZ Z b k cs e a w) : ThenZ Z b (x :: k) cs e a w := by
  cases e with
  | normal => exact absurd rfl he
  | exit id => obtain ⟨k', hk, hg⟩ := h; exact ⟨k', by cases x <;> simp_all [exitTo, Item.plain], hg⟩
  | ret => exact h
  | goto l => exact h
  | panic ch => exact h
  | outgrown => exact h
def Nx (next : Act → World → Prop) (Q : Exit → Act → World → Prop) : Exit → Act → World → Prop
  | .normal, a, w => next a w
  | e, a, w => Q e a w
theorem wpB_seq {x y : Code} (h : wpB n P x (Nx (fun a' w' => wpB n P y Q a' w') Q) a w) : wpB n P (.seq x y) Q a w := fun Post b k cs hb hc =>
  bw_ctl (fun w => stepG_seq) (h Post b (.code y :: k) cs hb fun e a' w' q => by
    cases e with
    | normal => exact q Post b k cs hb hc
    | _ => exact ThenZ.push (x := .code y) rfl (by simp) (hc _ _ _ q))
theorem wpB_cond {c : Operand} {x y : Code} {t : Bool} (hc : a.eval c = .bool t) (h : wpB n P (if t then x else y) Q a w) : wpB n P (.cond c x y) Q a w := fun Post b k cs hb hq =>
  bw_ctl (fun w => stepG_cond hc) (h Post b k cs hb hq)
def Bl (id : Nat) (Q : Exit → Act → World → Prop) : Exit → Act → World → Prop
  | .exit id', a, w => if id' = id then Q .normal a w else Q (.exit id') a w
  | e, a, w => Q e a w
theorem wpB_block {id : Nat} {c : Code} (h : wpB n P c (Bl id Q) a w) : wpB n P (.block id c) Q a w := fun Post b k cs hb hc =>
  bw_ctl (fun w => stepG_block) (h Post b (.inBlock id :: k) cs hb fun e a' w' q => by
    cases e with
    | normal => exact bw_ctl (fun w => stepG_inBlock) (hc _ _ _ q)
    | exit id' =>
      by_cases hid : id' = id
      · simp only [Bl, hid, if_true] at q
        exact ⟨k, by simp [exitTo, hid], hc _ _ _ q⟩
      · simp only [Bl, hid, if_false] at q
        obtain ⟨k', hk', hg⟩ := hc _ _ _ q
        have : (id == id') = false := by simp; exact fun h => hid h.symm
        exact ⟨k', by simp [exitTo, this, hk'], hg⟩
    | ret => exact fun todo => hc _ _ _ q todo
    | goto l => exact hc _ _ _ q
    | panic ch => exact hc _ _ _ q
    | outgrown => exact hc _ _ _ q)
theorem wpB_loop {c : Code} (I : Nat → Act → World → Prop) (m : Nat) (h0 : I m a w) (round : ∀ m a w, I m a w → wpB n P c (Nx (fun a' w' => ∃ m', m' < m ∧ I m' a' w') Q) a w) : wpB n P (.loop c) Q a w := by
  intro Post b k cs hb hc
  have key : ∀ N m a w, m ≤ N → I m a w → BW n P Post (b.at a (.code c :: .inLoop c :: k)) cs w := by
    intro N
    induction N with
    | zero =>
      intro m a w hμ hI
      refine round m a w hI Post b (.inLoop c :: k) cs hb fun e a' w' q => ?_
      cases e with
      | normal => obtain ⟨m', h1, _⟩ := q; omega
      | _ => exact ThenZ.push (x := .inLoop c) rfl (by simp) (hc _ _ _ q)
    | succ N ih =>
      intro m a w hμ hI
      refine round m a w hI Post b (.inLoop c :: k) cs hb fun e a' w' q => ?_
      cases e with
      | normal => obtain ⟨m', h1, h2⟩ := q; exact bw_ctl (fun w => stepG_inLoop) (ih m' a' w' (by omega) h2)
      | _ => exact ThenZ.push (x := .inLoop c) rfl (by simp) (hc _ _ _ q)
  exact bw_ctl (fun w => stepG_loop) (key _ m a w (Nat.le_refl _) h0)
theorem wpB_region {id : Nat} {ops : Array Oper} (h : opsB n P ops (List.range ops.size) Q a w) : wpB n P (.region id ops false) Q a w := fun Post b k cs hb hc => bw_ctl (fun w => stepG_region) (h Post b k cs hb hc)
theorem wpB_draw {id : Nat} {ops : Array Oper} (h : ∀ d, opsB n P ops (Region.schedule (P.follows .mixedOrders) ops d) Q a w) : wpB n P (.region id ops true) Q a w := fun Post b k cs hb hc gs sl t q T D hl =>
  (bw_own true).step _ _ _ hl (fun T D => ⟨_, cs, { tp w T D with drawn := D + 1 }, #[], by simp [G, stepG, stepG.exec, Frame.at, choose, Sem.run, Question.forced, Question.cut, tp], EvOk.nil, LowE.nil, ⟨rfl, rfl, rfl, Nat.le_refl _⟩, hl,
    (h (T D (.order b.fn id)) Post b k cs hb hc).tape T (D + 1)⟩) gs sl t q T D hl
theorem opsB_nil {ops : Array Oper} (h : Q .normal a w) : opsB n P ops [] Q a w := fun Post b k cs hb hc => bw_ctl (fun w => stepG_region_end) (hc _ _ _ h)
theorem opsB_unwanted {ops : Array Oper} {j : Nat} {rest : List Nat} {o : Oper} (ho : ops[j]? = some o) (hw : Region.wanted o (yielded ops a.tmps) = false) (h : opsB n P ops rest Q (a.put o.dst undef) w) : opsB n P ops (j :: rest) Q a w := fun Post b k cs hb hc =>
  bw_ctl (fun w => stepG_unwanted ho hw) (h Post b k cs hb hc)
theorem listed_ok {wr : Bool} {F : FuncId → Bool} (hB : Bodied wr P F) {fn : FuncId} {o : Oper} (hop : opT wr F o.op = true) (hl : Low n w) {nx : Next} {w' : World} (hr : (execOp a.eval o).run P w = .ok nx w') :
    EvOk wr (listed P fn a o w) ∧ LowE w'.heap.size (listed P fn a o w) ∧ Kept w w' ∧ Low n w' := by
  obtain ⟨hev, hres⟩ := exec_tame (n := n) hB (ρ := a.eval) (fun _ => rfl) hop hl
  obtain ⟨us, m, t1, t2, t3, t4, t5⟩ := exec_taped hB (ρ := a.eval) (fun _ => rfl) hop w
  have e : ((execOp a.eval o).runT P w #[]).1 = .ok nx w' := by rw [Sem.runT_fst, hr]
  rw [e] at t2 t3 hres
  have e2 : ((execOp a.eval o).runT P w #[]).2 = us := by rw [t1, Array.empty_append]
  have e3 : listed P fn a o w = seen P fn us := by unfold listed; rw [← e2]; rfl
  rw [e3]
  rw [e2] at hev
  exact ⟨seen_ok hev, seen_low t2, t3, hres.2⟩
theorem opsB_value {wr : Bool} {F : FuncId → Bool} (hB : Bodied wr P F) {ops : Array Oper} {j : Nat} {rest : List Nat} {o : Oper} (ho : ops[j]? = some o) (hw : Region.wanted o (yielded ops a.tmps) = true) (hop : opT wr F o.op = true)
    (h : ∀ T D, ∃ v w', (execOp a.eval o).run P (tp w T D) = .ok (.value v) w' ∧ opsB n P ops rest Q (a.put o.dst v) w') : opsB n P ops (j :: rest) Q a w := fun Post b k cs hb hc gs sl t q T D hl =>
  (bw_own wr).step _ _ _ hl (fun T D => by
    obtain ⟨v, w', hr, hz⟩ := h T D
    obtain ⟨l1, l2, l3, l4⟩ := listed_ok (a := a) hB (fn := b.fn) hop (w := tp w T D) hl hr
    exact ⟨_, _, _, _, stepG_value ho hw (by rw [hb]; simp) hr, l1, l2, l3, l4, hz Post b k cs hb hc⟩) gs sl t q T D hl
theorem opsB_none {wr : Bool} {F : FuncId → Bool} (hB : Bodied wr P F) {ops : Array Oper} {j : Nat} {rest : List Nat} {o : Oper} (ho : ops[j]? = some o) (hw : Region.wanted o (yielded ops a.tmps) = true) (hop : opT wr F o.op = true)
    (h : ∀ T D, ∃ w', (execOp a.eval o).run P (tp w T D) = .ok .skip w' ∧ opsB n P ops rest Q (a.put o.dst undef) w') : opsB n P ops (j :: rest) Q a w := fun Post b k cs hb hc gs sl t q T D hl =>
  (bw_own wr).step _ _ _ hl (fun T D => by
    obtain ⟨w', hr, hz⟩ := h T D
    obtain ⟨l1, l2, l3, l4⟩ := listed_ok (a := a) hB (fn := b.fn) hop (w := tp w T D) hl hr
    exact ⟨_, _, _, _, stepG_none ho hw (by rw [hb]; simp) hr, l1, l2, l3, l4, hz Post b k cs hb hc⟩) gs sl t q T D hl
theorem opsB_call {ops : Array Oper} {j : Nat} {rest : List Nat} {o : Oper} {f : FuncId} {args : Array Operand} {ts : Array TypeId} {fn : Func} (ho : ops[j]? = some o) (hw : Region.wanted o (yielded ops a.tmps) = true) (hop : o.op = .call ⟨.value (.func f), args, ts⟩)
    (hf : P.funcs[f]? = some fn) (hbd : fn.body.isSome = true) (hnm : (fn.name == "runtime.NumGoroutine") = false) {R : Value → World → Prop} (hC : CallsB n P f (args.map a.eval) w R)
    (h : ∀ v w', R v w' → opsB n P ops rest Q (a.put o.dst v) w') : opsB n P ops (j :: rest) Q a w := fun Post b k cs hb hc gs sl t q T D hl => by
  have hst : ∀ w : World, stepG P true (G (b.at a (.inRegion ops (j :: rest) :: k)) cs) w = .go (G (Frame.enter P f (args.map a.eval) .normal) (b.at a (.inRegion ops (j :: rest) :: k) :: cs)) w #[] := by
    intro w
    rw [stepG_oper ho hw]
    have e1 : execOp a.eval o = callFunc f (#[] ++ args.map a.eval ++ #[]) := by
      obtain ⟨dst, op, ty, pos, af, gd⟩ := o
      simp only at hop
      subst hop
      rfl
    have hb0 : fn.body.isNone = false := by cases hb : fn.body <;> simp_all
    have e2 : (callFunc f (#[] ++ args.map a.eval ++ #[])).runT P w #[] = (.ok (.enter f (args.map a.eval)) w, #[]) := by
      show (Sem.program fun p => _).runT P w #[] = _
      simp only [Sem.runT, Sem.bind]
      rw [hf]
      simp only [hnm, hb0]
      simp [Sem.runT, pure]
    have hke : ((b.at a (.inRegion ops (j :: rest) :: k)).kind == CallKind.early) = false := by
      show (b.kind == CallKind.early) = false
      rw [hb]; rfl
    rw [stepG.apply, e1]
    simp only [if_true]
    rw [e2]
    simp only [hke, Bool.false_eq_true, if_false, GStep.after, seen_none, Array.append_empty, G]
    rfl
  refine bw_ctl hst (hC Post _ fun v w' fr hR h1 h2 => ?_) gs sl t q T D hl
  refine bw_ret h2 ?_
  rw [Frame.finish_at, ho]
  exact h v w' hR Post b k cs hb hc
theorem wpB_lone {wr : Bool} {F : FuncId → Bool} (hT : TameP wr P F) (hE : NoEarly P n) {c : Code} (hc : codeT wr F c = true) (hd : a.defers = []) (hw : ∀ T D, c.wp P Q a (tp w T D))
    (hx : ∀ e a' w', Q e a' w' → e = .normal ∨ e = .ret ∨ ∃ id, e = .exit id) : wpB n P c Q a w := fun Post b k cs hb hQ gs sl t q T D hl =>
  wp_Z hT hE (bw_own wr) hc hw hb hd hl (fun a' w' _ q => hQ _ _ _ q) (fun a' w' todo _ q => hQ _ _ _ q todo) (fun id a' w' _ q => hQ _ _ _ q) hx (fun id a' w' q => (hQ _ _ _ q).imp fun _ h => h.1) gs sl t q T D hl
def bodyB (P : Program) (fn : Func) (R : Value → World → Prop) : Exit → Act → World → Prop
  | .normal, a, w | .ret, a, w => a.defers = [] ∧ ∃ v, (results fn a.tmps).run P w = .ok v w ∧ R v w
  | _, _, _ => False
theorem callsB_of_wp {f : FuncId} {fn : Func} {c : Code} {args : Array Value} {R : Value → World → Prop} (hf : P.funcs[f]? = some fn) (hb : fn.body = some c)
    (h : wpB n P c (bodyB P fn R) { tmps := args ++ Array.replicate (fn.ntmps - args.size) undef, defers := [] } w) : CallsB n P f args w R := fun Post cs k => by
  let b : Frame := { (default : Frame) with fn := f, kind := .normal }
  have henter : Frame.enter P f args .normal = b.at { tmps := args ++ Array.replicate (fn.ntmps - args.size) undef, defers := [] } [.code c] := by
    simp [Frame.enter, Frame.at, hf, hb, b]
  rw [henter]
  refine h Post b [] cs rfl fun e a' w' q => ?_
  have fin : ∀ todo, (a'.defers = [] ∧ ∃ v, (results fn a'.tmps).run P w' = .ok v w' ∧ R v w') → BW n P Post { b.at a' todo with mode := .returning } cs w' := fun todo ⟨h1, v, h2, h3⟩ =>
    k v w' _ h3 rfl ⟨rfl, h1, rfl, fn, hf, h2⟩
  cases e with
  | normal => exact bw_ctl (fun w => stepG_end) (fin [] q)
  | ret => exact fun todo => fin todo q
  | _ => exact q.elim
end
end Go.Co
end

import Derived.Test.YtjdppgogdilgkaaKC
section
namespace Go.Co
open Go.Conc
set_option linter.unusedVariables false
set_option linter.unusedSimpArgs false
def blk : Loc → Option Nat
  | .cell a => some a.block
  | .obj r => some r
  | _ => none
def PermB (t : Trace) (g : Nat) (V : View) : Prop := ∀ i x, touchAt t i = some x → ∀ b, blk x.loc = some b →
  ((∃ o, V b = some (true, o)) → Knows t g i) ∧ ((∃ m o, V b = some (m, o)) → x.write = true → Knows t g i)
theorem touch_low {t : Trace} {B i : Nat} {x : Touch} (h : ∀ op ∈ t, op.act.low B) (hx : touchAt t i = some x) {b : Nat} (hb : blk x.loc = some b) : b < B := by
  obtain ⟨op, hop, hox⟩ := touch_of hx
  have hl := h op (Array.mem_of_getElem? hop)
  cases ha : op.act with
  | access e =>
    rw [ha] at hl hox
    simp only [MemAct.touch?, Option.some.injEq] at hox
    subst hox
    obtain ⟨loc, w, s⟩ := e
    cases loc <;> simp only [blk, Option.some.injEq] at hb <;> first | (subst hb; exact hl) | cases hb
  | mark m =>
    rw [ha] at hl hox
    cases m <;> simp only [MemAct.touch?] at hox <;> cases hox
    all_goals
      simp only [blk, Option.some.injEq] at hb
      subst hb
      exact hl
  | _ => rw [ha] at hox; simp [MemAct.touch?] at hox
theorem evV_touch {V : View} {es : Array Event} (h : EvV V es) {g : Nat} {fn : FuncId} {pos : String} {op : MemOp} (hop : op ∈ MemOp.ofEvents g fn pos es) :
    op.g = g ∧ (∀ x, op.act.touch? = some x → ∃ a m o, x.loc = .cell a ∧ V a.block = some (m, o) ∧ (x.write = true → m = true)) ∧ op.act ≠ .mark .disable ∧ op.act ≠ .mark .enable := by
  obtain ⟨e, he, rfl⟩ := Go.Conc.mem_ofEvents hop
  refine ⟨rfl, ?_⟩
  obtain ⟨loc, w, s⟩ := e
  rcases h _ he with h1 | ⟨a, m, o, h1, h2, h3, h4⟩
  · simp only at h1
    subst h1
    exact ⟨fun x hx => by simp [MemAct.ofEvent, MemAct.touch?] at hx, by simp [MemAct.ofEvent], by simp [MemAct.ofEvent]⟩
  · simp only at h1 h2 h4
    subst h1 h2
    refine ⟨fun x hx => ?_, by simp [MemAct.ofEvent], by simp [MemAct.ofEvent]⟩
    simp only [MemAct.ofEvent, MemAct.touch?, Option.some.injEq] at hx
    subst hx
    exact ⟨a, m, o, rfl, h3, h4⟩
theorem evV_low {V : View} {w' : World} {es : Array Event} (h : EvV V es) (hs : Sat V w') {g : Nat} {fn : FuncId} {pos : String} {op : MemOp} (hop : op ∈ MemOp.ofEvents g fn pos es) : op.act.low w'.heap.size := by
  obtain ⟨e, he, rfl⟩ := Go.Conc.mem_ofEvents hop
  obtain ⟨loc, w, s⟩ := e
  rcases h _ he with h1 | ⟨a, m, o, h1, h2, h3, h4⟩
  · simp only at h1
    subst h1
    trivial
  · simp only at h1
    subst h1
    exact (Array.getElem?_eq_some_iff.1 (hs _ _ _ h3)).1
theorem evV_deaf {V : View} {es : Array Event} (h : EvV V es) {t : Trace} {g : Nat} {fn : FuncId} {pos : String} (i : Nat) : Deaf (t ++ MemOp.ofEvents g fn pos es) i = Deaf t i := by
  by_cases e : i = g
  · subst e
    rw [Deaf_own]
    refine deafBehind_still (fun e he => ?_) _
    rcases h _ he with h1 | ⟨a, m, o, h1, _⟩ <;> rw [h1] <;> simp
  · exact Deaf_other t (g := i) (g' := g) (fun h => e h.symm) _ (fun op hop => by obtain ⟨e, _, rfl⟩ := Go.Conc.mem_ofEvents hop; rfl)
theorem touchAt_app {t u : Trace} {i : Nat} {x : Touch} (h : touchAt (t ++ u) i = some x) : (i < t.size ∧ touchAt t i = some x) ∨ ∃ op ∈ u, (t ++ u)[i]? = some op ∧ op.act.touch? = some x := by
  obtain ⟨op, hop, hox⟩ := touch_of h
  rcases getElem?_append_cases hop with ⟨hi, hop'⟩ | ⟨_, hopu⟩
  · exact .inl ⟨hi, by rw [touchAt_of hop']; exact hox⟩
  · exact .inr ⟨op, hopu, hop, hox⟩
theorem PermB.other {t u : Trace} {g : Nat} {V : View} (h : PermB t g V) (hu : ∀ op ∈ u, ∀ x, op.act.touch? = some x → ∀ b, blk x.loc = some b → (∀ o, V b ≠ some (true, o)) ∧ (x.write = true → V b = none)) : PermB (t ++ u) g V := by
  intro i x hx b hb
  rcases touchAt_app hx with ⟨_, h1⟩ | ⟨op, hop, _, h1⟩
  · exact ⟨fun h2 => ((h i x h1 b hb).1 h2).app u, fun h2 h3 => ((h i x h1 b hb).2 h2 h3).app u⟩
  · obtain ⟨k1, k2⟩ := hu op hop x h1 b hb
    exact ⟨fun ⟨o, h2⟩ => absurd h2 (k1 o), fun ⟨m, o, h2⟩ h3 => by rw [k2 h3] at h2; cases h2⟩
section
variable {n : Nat} {V V' : View} {w w' : World} {es : Array Event} {t : Trace} {g : Nat} {fn : FuncId} {pos : String}
theorem StepV.was (h : StepV n V w es w' V') {b : Nat} {m : Bool} {o : Obj} (hb : V' b = some (m, o)) : (∃ o', V b = some (m, o')) ∨ w.heap.size ≤ b := by
  cases hv : V b with
  | none => exact .inr (h.dom b hv (by rw [hb]; simp))
  | some r =>
    obtain ⟨m', o'⟩ := r
    cases m' with
    | false => have := h.ro b o' hv; rw [hb] at this; injection this with this; injection this with h1 h2; subst h1; exact .inl ⟨_, rfl⟩
    | true => obtain ⟨o2, this⟩ := h.rw_ b o' hv; rw [hb] at this; injection this with this; injection this with h1 h2; subst h1; exact .inl ⟨_, rfl⟩
theorem own_clean (h : StepV n V w es w' V') (hp : PermB t g V) (hs : ∀ op ∈ t, op.act.low w.heap.size) (hc : ∀ said, ¬ Race said t) : ∀ said, ¬ Race said (t ++ MemOp.ofEvents g fn pos es) := fun said => by
  refine noRace_append (g := g) (hc said) (fun op hop => (evV_touch h.ev hop).1) fun i a ha op hop y hy hcf => ?_
  obtain ⟨ad, m, o, h1, h2, h3⟩ := (evV_touch h.ev hop).2.1 y hy
  have hb : blk a.loc = some ad.block := by rw [hcf.1, h1]; rfl
  rcases h.was h2 with ⟨o', h4⟩ | h4
  · cases hw : y.write with
    | true => rw [h3 hw] at h4; exact (hp i a ha _ hb).1 ⟨o', h4⟩
    | false => exact (hp i a ha _ hb).2 ⟨m, o', h4⟩ (hcf.2.2.1.resolve_right (by simp [hw]))
  · have := touch_low hs ha hb; omega
theorem own_perm (h : StepV n V w es w' V') (hp : PermB t g V) (hs : ∀ op ∈ t, op.act.low w.heap.size) : PermB (t ++ MemOp.ofEvents g fn pos es) g V' := by
  intro i x hx b hb
  rcases touchAt_app hx with ⟨_, h1⟩ | ⟨op, hop, h0, h1⟩
  · refine ⟨fun ⟨o, h2⟩ => ?_, fun ⟨m, o, h2⟩ h3 => ?_⟩
    · rcases h.was h2 with ⟨o', h4⟩ | h4
      · exact ((hp i x h1 b hb).1 ⟨o', h4⟩).app _
      · have := touch_low hs h1 hb; omega
    · rcases h.was h2 with ⟨o', h4⟩ | h4
      · exact ((hp i x h1 b hb).2 ⟨m, o', h4⟩ h3).app _
      · have := touch_low hs h1 hb; omega
  · have := knows_own h0
    rw [(evV_touch h.ev hop).1] at this
    exact ⟨fun _ => this, fun _ _ => this⟩
end
theorem comm_knows {t : Trace} {k c s cap : Nat} {x1 x2 x3 x4 : MemOp} (h1 : x1.g = k ∧ x1.act = .send c s) (h2 : x2.g = 0 ∧ x2.act = .recv c s cap) (h3 : x3.g = k ∧ x3.act = .sendDone c s) (h4 : x4.g = 0 ∧ x4.act = .recvDone c s)
    (h0 : Deaf t 0 = 0) (hk : Deaf t k = 0) {i : Nat} (h : Knows t k i) : Knows (t ++ #[x1, x2, x3, x4]) 0 i := by
  have p1 : (t ++ #[x1, x2, x3, x4])[t.size]? = some x1 := by rw [Array.getElem?_append_right (Nat.le_refl _)]; simp
  have p2 : (t ++ #[x1, x2, x3, x4])[t.size + 1]? = some x2 := by rw [Array.getElem?_append_right (by omega)]; simp
  have p3 : (t ++ #[x1, x2, x3, x4])[t.size + 2]? = some x3 := by rw [Array.getElem?_append_right (by omega)]; simp
  have p4 : (t ++ #[x1, x2, x3, x4])[t.size + 3]? = some x4 := by rw [Array.getElem?_append_right (by omega)]; simp
  have hb : HappensBefore (t ++ #[x1, x2, x3, x4]) i t.size := h.hb_new (Nat.le_refl _) p1 h1.1
  have e0 : (t ++ #[x1, x2, x3, x4]).heard t.size := ⟨k, by simp [Trace.g?, h1.1], by rw [deaf_old (Nat.le_refl _)]; exact hk⟩
  have e3 : (t ++ #[x1, x2, x3, x4]).heard (t.size + 3) := ⟨0, by simp only [Trace.g?, p4]; simp [h4.1], by
    rw [deaf_succ p3, deaf_succ p2, deaf_succ p1, deaf_old (Nat.le_refl _)]
    simp only [deafStep, h1.2, h2.2, h3.2]; exact h0⟩
  exact ⟨t.size + 3, x4, p4, h4.1, .inr (hb.trans (.single (.inr ⟨.handOver (c := c) (k := s) (by rw [act?_of p1, h1.2]) (by rw [act?_of p4, h4.2]), e0, e3⟩)))⟩
end Go.Co
end
section
namespace Go.Co
open Go.Conc
open Go.ConcN (sumTo upd sumTo_upd upd_ne upd_same fork_knows)
set_option linter.unusedVariables false
set_option linter.unusedSimpArgs false
inductive Rk where
  | zero
  | sup (f : World → Rk)
inductive Mlt : Option Rk → Option Rk → Prop
  | park (r : Rk) : Mlt none (some r)
  | step (f : World → Rk) (w : World) : Mlt (some (f w)) (some (.sup f))
theorem mlt_none : Acc Mlt none := ⟨_, fun y h => by cases h⟩
theorem mlt_acc : ∀ r : Rk, Acc Mlt (some r)
  | .zero => ⟨_, fun y h => by cases h; exact mlt_none⟩
  | .sup f => ⟨_, fun y h => by
      cases h with
      | park => exact mlt_none
      | step _ w => exact mlt_acc (f w)⟩
inductive LStep : List (Option Rk) → List (Option Rk) → Prop
  | head {x y : Option Rk} {l : List (Option Rk)} : Mlt x y → LStep (x :: l) (y :: l)
  | tail {x : Option Rk} {l l' : List (Option Rk)} : LStep l l' → LStep (x :: l) (x :: l')
theorem lstep_acc : ∀ l : List (Option Rk), Acc LStep l
  | [] => ⟨_, fun y h => by cases h⟩
  | m :: l => by
    have hm : Acc Mlt m := by cases m with
      | none => exact mlt_none
      | some r => exact mlt_acc r
    have hl := lstep_acc l
    induction hm generalizing l with
    | intro m _ ihm =>
      induction hl with
      | intro l hl ihl =>
        refine ⟨_, fun y h => ?_⟩
        cases h with
        | head h => exact ihm _ h l ⟨l, hl⟩
        | tail h => exact ihl _ h
theorem lstep_set : ∀ {l : List (Option Rk)} {p : Nat} {m m' : Option Rk}, l[p]? = some m → Mlt m' m → LStep (l.set p m') l
  | [], p, m, m', h, _ => by simp at h
  | x :: l, 0, m, m', h, hm => by
    simp only [List.getElem?_cons_zero, Option.some.injEq] at h
    subst h
    exact .head hm
  | x :: l, p + 1, m, m', h, hm => by
    simp only [List.getElem?_cons_succ] at h
    exact .tail (lstep_set h hm)
section
variable (n : Nat) (P : Program)
def AtSendV (c : Nat) (v : Value) (V : View) (fr : Frame) (X : List Frame) : Prop :=
  ∃ z q, (∀ w, Sat V w → stepG P false (G fr X) w = .comm (G fr X) #[scase c v z] true .send w #[]) ∧ QuitsIn P q (Go.Conc.served (G fr X) undef)
def KW (c : Nat) (v : Value) : Rk → View → Frame → List Frame → Prop
  | .zero, V, fr, X => AtSendV P c v V fr X
  | .sup f, V, fr, X => AtSendV P c v V fr X ∨ ∀ w, Sat V w → Low n w → ∃ fr' X' w' es V', stepG P false (G fr X) w = .go (G fr' X') w' es ∧ StepV n V w es w' V' ∧ KW c v (f w) V' fr' X'
def ZW (c : Nat) (v : Value) : View → Frame → List Frame → Prop := fun V fr X => ∃ r, KW n P c v r V fr X
open Classical in
theorem zw_own (c : Nat) (v : Value) : OwnV n P false (ZW n P c v) := fun V fr cs h => by
  have h' : ∀ w, ∃ r, Sat V w → Low n w → ∃ fr' X' w' es V', stepG P false (G fr cs) w = .go (G fr' X') w' es ∧ StepV n V w es w' V' ∧ KW n P c v r V' fr' X' := fun w => by
    by_cases hw : Sat V w ∧ Low n w
    · obtain ⟨fr', cs', w', es, V', h1, h2, r, h3⟩ := h w hw.1 hw.2
      exact ⟨r, fun _ _ => ⟨fr', cs', w', es, V', h1, h2, h3⟩⟩
    · exact ⟨.zero, fun h1 h2 => absurd ⟨h1, h2⟩ hw⟩
  exact ⟨.sup fun w => Classical.choose (h' w), .inr fun w h1 h2 => Classical.choose_spec (h' w) h1 h2⟩
theorem zw_stop {c : Nat} {v : Value} {V : View} {fr : Frame} {X : List Frame} (h : AtSendV P c v V fr X) : ZW n P c v V fr X := ⟨.zero, h⟩
structure SE where
  c : Nat
  v : Value
  D : List Nat
structure Wk where
  j : Nat
  V : View
  m : Option Rk
  e : SE
def WkOk (gs : Array Goroutine) (k : Wk) : Prop :=
  match k.m with
  | some r => ∃ fr X, gs[k.j]? = some (G fr X) ∧ KW n P k.e.c k.e.v r k.V fr X
  | none => ∃ fr X z, gs[k.j]? = some (parked (G fr X) #[scase k.e.c k.e.v z] .send) ∧ ∃ q, QuitsIn P q (Go.Conc.served (G fr X) undef)
def OpenC (C : List Nat) (w : World) : Prop := ∀ c ∈ C, ∃ s tm, w.heap[c]? = some (.chan 0 #[] false s s tm)
structure Co (C : List Nat) (g0 : Goroutine) (V0 : View) (gs : Array Goroutine) (w : World) (t : Trace) (q : Nat → Nat) (ps : List Wk) : Prop where
  main : gs[0]? = some g0
  ok : ∀ (p : Nat) (k : Wk), ps[p]? = some k → WkOk n P gs k ∧ 0 < k.j ∧ k.e.c ∈ C
  inj : ∀ (p p' : Nat) (k k' : Wk), ps[p]? = some k → ps[p']? = some k' → k.j = k'.j → p = p'
  old : ∀ i g, 0 < i → gs[i]? = some g → (∀ (p : Nat) (k : Wk), ps[p]? = some k → k.j ≠ i) → QuitsD P (q i) (Deaf t i) g
  above : ∀ j, gs.size ≤ j → Deaf t j = 0
  low : Low n w
  sat0 : Sat V0 w
  sat : ∀ (p : Nat) (k : Wk), ps[p]? = some k → Sat k.V w
  chan : OpenC C w
  noc0 : ∀ c ∈ C, V0 c = none
  noc : ∀ (p : Nat) (k : Wk), ps[p]? = some k → ∀ c ∈ C, k.V c = none
  ap0 : ∀ (p : Nat) (k : Wk), ps[p]? = some k → ∀ b o, V0 b = some (true, o) → k.V b = none
  apk : ∀ (p : Nat) (k : Wk), ps[p]? = some k → ∀ b o, k.V b = some (true, o) → V0 b = none
  app : ∀ (p p' : Nat) (k k' : Wk), p ≠ p' → ps[p]? = some k → ps[p']? = some k' → ∀ b o, k.V b = some (true, o) → k'.V b = none
  dom : ∀ (p : Nat) (k : Wk), ps[p]? = some k → ∀ b, V0 b ≠ none → k.V b ≠ none → b ∈ k.e.D
  clean : ∀ said, ¬ Race said t
  seen : ∀ op ∈ t, op.act.low w.heap.size
  hears : Deaf t 0 = 0
  deaf : ∀ (p : Nat) (k : Wk), ps[p]? = some k → Deaf t k.j = 0
  perm0 : PermB t 0 V0
  perm : ∀ (p : Nat) (k : Wk), ps[p]? = some k → PermB t k.j k.V
  known : ∀ i x, touchAt t i = some x → x.loc.isMemory = true → Knows t 0 i ∨ ∃ (p : Nat) (k : Wk), ps[p]? = some k ∧ t.g? i = some k.j ∧ ∃ b, blk x.loc = some b ∧ k.V b ≠ none
end
section
variable {n : Nat} {P : Program} {C : List Nat} {g0 : Goroutine} {V0 : View} {gs : Array Goroutine} {w : World} {t : Trace} {q : Nat → Nat} {ps : List Wk}
theorem Co.at (h : Co n P C g0 V0 gs w t q ps) (d : Nat) : Co n P C g0 V0 gs (w.at d) t q ps := ⟨h.main, h.ok, h.inj, h.old, h.above, h.low, h.sat0, h.sat, h.chan, h.noc0, h.noc, h.ap0, h.apk, h.app, h.dom, h.clean, h.seen, h.hears, h.deaf, h.perm0, h.perm, h.known⟩
theorem WkOk.status {k : Wk} (h : WkOk n P gs k) : ∃ g, gs[k.j]? = some g ∧ (g.status = .running ∨ g.status = .blocked) := by
  unfold WkOk at h
  split at h
  · obtain ⟨fr, X, h1, _⟩ := h; exact ⟨_, h1, .inl rfl⟩
  · obtain ⟨fr, X, z, h1, _⟩ := h; exact ⟨_, h1, .inr rfl⟩
theorem WkOk.woken {k : Wk} (h : WkOk n P gs k) {i : Nat} {g g' : Goroutine} {w' : World} (hi : k.j ≠ i) (hc : ∃ s tm, w'.heap[k.e.c]? = some (.chan 0 #[] false s s tm)) : WkOk n P ((gs.map (Go.Conc.woken P g g' w')).setIfInBounds i g') k := by
  have hg : ∀ x, gs[k.j]? = some x → ((gs.map (Go.Conc.woken P g g' w')).setIfInBounds i g')[k.j]? = some (Go.Conc.woken P g g' w' x) := fun x hx => by
    rw [Array.getElem?_setIfInBounds_ne (fun e => hi e.symm), Array.getElem?_map, hx]; rfl
  unfold WkOk at h ⊢
  split
  · next r e =>
    rw [e] at h
    obtain ⟨fr, X, h1, h2⟩ := h
    exact ⟨fr, X, by rw [hg _ h1, woken_run rfl], h2⟩
  · next e =>
    rw [e] at h
    obtain ⟨fr, X, z, h1, h2⟩ := h
    obtain ⟨s, tm, hc⟩ := hc
    exact ⟨fr, X, z, by rw [hg _ h1, woken_send_open _ _ hc], h2⟩
theorem WkOk.same {k : Wk} {gs' : Array Goroutine} (h : WkOk n P gs k) (e : gs'[k.j]? = gs[k.j]?) : WkOk n P gs' k := by
  unfold WkOk at h ⊢
  rw [e]; exact h
theorem awake_all (h : Co n P C g0 V0 gs w t q ps) (h0 : g0.status = .running ∨ g0.status = .blocked) : ∀ g ∈ gs, awake g := by
  intro g hg
  obtain ⟨i, hi, rfl⟩ := Array.mem_iff_getElem.1 hg
  have hgi := Array.getElem?_eq_getElem hi
  rcases Nat.eq_zero_or_pos i with rfl | hpos
  · have : gs[0] = g0 := by have := h.main; rw [hgi] at this; exact Option.some.inj this
    rw [this]; exact awake_of (h0.elim .inl fun x => .inr (.inl x))
  · by_cases hp : ∃ (p : Nat) (k : Wk), ps[p]? = some k ∧ k.j = i
    · obtain ⟨p, k, hk, rfl⟩ := hp
      obtain ⟨g, h1, h2⟩ := (h.ok p k hk).1.status
      rw [hgi] at h1
      rw [Option.some.inj h1]
      exact awake_of (h2.elim .inl fun x => .inr (.inl x))
    · exact awake_of ((h.old i _ hpos hgi fun p k hk e => hp ⟨p, k, hk, e⟩).status.elim .inl fun x => .inr (.inr x))
def Stays (P : Program) (C : List Nat) (g0 : Goroutine) : Prop := ∀ g g' w', OpenC C w' → Go.Conc.woken P g g' w' g0 = g0
theorem stays_run (h : g0.status = .running) : Stays P C g0 := fun g g' w' _ => woken_run h
theorem Co.slip (h : Co n P C g0 V0 gs w t q ps) (hst : Stays P C g0) {sl : Option (Nat × Nat)} {i : Nat} {g : Goroutine} (hi : gs[i]? = some g) (hg : g.status = .running) (hpos : 0 < i) (hno : ∀ (p : Nat) (k : Wk), ps[p]? = some k → k.j ≠ i) :
    ∃ gs' u q', runT P (crowd gs w sl) i = (.next (crowd gs' w sl), u) ∧ gs'.size = gs.size ∧ Co n P C g0 V0 gs' w (t ++ u) q' ps ∧ sumTo gs'.size q' < sumTo gs.size q := by
  have hq := h.old i g hpos hi hno
  have hi0 : (i == 0) = false := by simp; omega
  have hlt : i < gs.size := (Array.getElem?_eq_some_iff.1 hi).1
  cases hqi : q i with
  | zero => rw [hqi] at hq; rw [hq.1] at hg; cases hg
  | succ k =>
    rw [hqi] at hq
    rcases hq with ⟨hf, _⟩ | ⟨_, g', es, hm, hstp, hq'⟩
    · rw [hf] at hg; cases hg
    have hrunT := runT_crowd_go (P := P) (sl := sl) (i := i) hi (by rw [hi0]; exact hstp w)
    have hsum : sumTo gs.size (upd q i k) + (k + 1) = sumTo gs.size q + k := by
      have := sumTo_upd q k id hlt
      simpa [hqi] using this
    have hD : ∀ j, j ≠ i → Deaf (t ++ MemOp.ofEvents i g.frame.fn g.frame.place es) j = Deaf t j := fun j hj =>
      Deaf_other t (g := j) (g' := i) (fun e => hj e.symm) _ (fun op hop => by obtain ⟨e, _, rfl⟩ := Go.Conc.mem_ofEvents hop; rfl)
    have hnt : ∀ op ∈ MemOp.ofEvents i g.frame.fn g.frame.place es, op.act.touch? = none := fun op hop => by obtain ⟨e, he, rfl⟩ := Go.Conc.mem_ofEvents hop; exact touch_mute (hm e he)
    refine ⟨_, _, upd q i k, hrunT, by simp, ?_, by simp only [Array.size_setIfInBounds, Array.size_map]; omega⟩
    refine ⟨?_, fun p k' hk => ⟨(h.ok p k' hk).1.woken (hno p k' hk) (h.chan _ (h.ok p k' hk).2.2), (h.ok p k' hk).2⟩, h.inj, fun j x hj hx hjn => ?_, fun j hj => ?_, h.low, h.sat0, h.sat, h.chan, h.noc0, h.noc, h.ap0, h.apk, h.app, h.dom, fun said => ?_, ?_, ?_, fun p k' hk => ?_, ?_, fun p k' hk => ?_, fun i' x hx hmem => ?_⟩
    · rw [Array.getElem?_setIfInBounds_ne (by omega), Array.getElem?_map, h.main]
      simp [hst g g' w h.chan]
    · by_cases hji : i = j
      · subst hji
        rw [Array.getElem?_setIfInBounds_self_of_lt (by simpa using hlt)] at hx
        obtain rfl := Option.some.inj hx
        rw [upd_same, Deaf_own]
        exact hq'
      · rw [Array.getElem?_setIfInBounds_ne hji, Array.getElem?_map] at hx
        obtain ⟨y, hy, rfl⟩ := Option.map_eq_some_iff.1 hx
        have hqj := h.old j y hj hy hjn
        rw [woken_quitsD hqj, upd_ne q k (Ne.symm hji), hD j (Ne.symm hji)]
        exact hqj
    · rw [hD j (by simp at hj; omega)]
      exact h.above j (by simpa using hj)
    · exact noRace_append (g := i) (h.clean said) (fun op hop => by obtain ⟨e, _, rfl⟩ := Go.Conc.mem_ofEvents hop; rfl) fun i' a _ op hop b hb _ => by rw [hnt op hop] at hb; cases hb
    · exact seen_app h.seen fun op hop => by obtain ⟨e, he, rfl⟩ := Go.Conc.mem_ofEvents hop; exact low_mute (hm e he) _
    · rw [hD 0 (by omega)]; exact h.hears
    · rw [hD k'.j (hno p k' hk)]; exact h.deaf p k' hk
    · exact h.perm0.other fun op hop x hx => by rw [hnt op hop] at hx; cases hx
    · exact (h.perm p k' hk).other fun op hop x hx => by rw [hnt op hop] at hx; cases hx
    · rcases touchAt_app hx with ⟨hlt', h1⟩ | ⟨op, hop, _, h1⟩
      · rcases h.known i' x h1 hmem with h2 | ⟨p, k', h2, h3, h4⟩
        · exact .inl (h2.app _)
        · exact .inr ⟨p, k', h2, by simpa [Trace.g?, getElem?_append_old hlt'] using h3, h4⟩
      · rw [hnt op hop] at h1; cases h1
theorem Co.own0 {fr fr' : Frame} {cs cs' : List Frame} (h : Co n P C (G fr cs) V0 gs w t q ps) {sl : Option (Nat × Nat)} {w' : World} {es : Array Event} {V' : View} (hs : stepG P true (G fr cs) w = .go (G fr' cs') w' es) (hv : StepV n V0 w es w' V') :
    ∃ gs' u, runT P (crowd gs w sl) 0 = (.next (crowd gs' w' sl), u) ∧ Co n P C (G fr' cs') V' gs' w' (t ++ u) q ps := by
  have hrunT := runT_crowd_go (P := P) (sl := sl) (i := 0) h.main hs
  have hlt : 0 < gs.size := (Array.getElem?_eq_some_iff.1 h.main).1
  have hD : ∀ j, Deaf (t ++ MemOp.ofEvents 0 (G fr cs).frame.fn (G fr cs).frame.place es) j = Deaf t j := fun j => evV_deaf hv.ev j
  have hkeep : ∀ b o, w.heap[b]? = some o → (∀ o', V0 b ≠ some (true, o')) → w'.heap[b]? = some o := fun b o hb hn => by
    rw [hv.old b (Array.getElem?_eq_some_iff.1 hb).1 hn]; exact hb
  have hsat : ∀ (p : Nat) (k : Wk), ps[p]? = some k → Sat k.V w' := fun p k hk b m o hb => hkeep b o (h.sat p k hk b m o hb) fun o' hn => by
    rw [h.ap0 p k hk b o' hn] at hb; cases hb
  have hopen : OpenC C w' := fun c hc => by
    obtain ⟨s, tm, h1⟩ := h.chan c hc
    exact ⟨s, tm, hkeep c _ h1 fun o' hn => by rw [h.noc0 c hc] at hn; cases hn⟩
  have hfresh : ∀ (p : Nat) (k : Wk), ps[p]? = some k → ∀ b, w.heap.size ≤ b → k.V b = none := fun p k hk b hb => by
    cases hv : k.V b with
    | none => rfl
    | some r =>
      have := (Array.getElem?_eq_some_iff.1 (h.sat p k hk b r.1 r.2 hv)).1
      omega
  have hnew : ∀ b, V0 b = none → V' b ≠ none → w.heap.size ≤ b := hv.dom
  refine ⟨_, _, hrunT, ?_⟩
  refine ⟨by rw [Array.getElem?_setIfInBounds_self_of_lt (by simpa using hlt)], fun p k hk => ⟨(h.ok p k hk).1.woken (by have := (h.ok p k hk).2.1; omega) (hopen _ (h.ok p k hk).2.2), (h.ok p k hk).2⟩, h.inj, fun j x hj hx hjn => ?_, fun j hj => ?_, hv.low, hv.sat, hsat, hopen, fun c hc => ?_, h.noc, fun p k hk b o hb => ?_, fun p k hk b o hb => ?_, h.app, fun p k hk b hb hkb => ?_, own_clean hv h.perm0 h.seen h.clean, ?_, by rw [hD]; exact h.hears, fun p k hk => by rw [hD]; exact h.deaf p k hk, own_perm hv h.perm0 h.seen, fun p k hk => ?_, fun i x hx hmem => ?_⟩
  · rw [Array.getElem?_setIfInBounds_ne (by omega), Array.getElem?_map] at hx
    obtain ⟨y, hy, rfl⟩ := Option.map_eq_some_iff.1 hx
    have hqj := h.old j y hj hy hjn
    rw [woken_quitsD hqj, hD j]
    exact hqj
  · rw [hD j]; exact h.above j (by simpa using hj)
  · cases hvc : V' c with
    | none => rfl
    | some r =>
      have h1 := hnew c (h.noc0 c hc) (by rw [hvc]; simp)
      obtain ⟨s, tm, h2⟩ := h.chan c hc
      have := (Array.getElem?_eq_some_iff.1 h2).1
      omega
  · rcases hv.was hb with ⟨o', h1⟩ | h1
    · exact h.ap0 p k hk b o' h1
    · exact hfresh p k hk b h1
  · have h1 := h.apk p k hk b o hb
    cases hvb : V' b with
    | none => rfl
    | some r =>
      have h2 := hnew b h1 (by rw [hvb]; simp)
      rw [hfresh p k hk b h2] at hb; cases hb
  · by_cases h1 : V0 b = none
    · exact absurd (hfresh p k hk b (hnew b h1 hb)) hkb
    · exact h.dom p k hk b h1 hkb
  · exact seen_app (fun op hop => MemAct.low_mono hv.kept.size (h.seen op hop)) fun op hop => evV_low hv.ev hv.sat hop
  · refine (h.perm p k hk).other fun op hop x hx b hb => ?_
    obtain ⟨ad, m, o, h1, h2, h3⟩ := (evV_touch hv.ev hop).2.1 x hx
    rw [h1] at hb
    simp only [blk, Option.some.injEq] at hb
    subst hb
    refine ⟨fun o' h4 => ?_, fun hw => ?_⟩
    · have h5 := h.apk p k hk _ o' h4
      rcases hv.was h2 with ⟨o2, h6⟩ | h6
      · rw [h5] at h6; cases h6
      · rw [hfresh p k hk _ h6] at h4; cases h4
    · have hm := h3 hw
      subst hm
      rcases hv.was h2 with ⟨o2, h6⟩ | h6
      · exact h.ap0 p k hk _ o2 h6
      · exact hfresh p k hk _ h6
  · rcases touchAt_app hx with ⟨hlt', h1⟩ | ⟨op, hop, h0, h1⟩
    · rcases h.known i x h1 hmem with h2 | ⟨p, k', h2, h3, h4⟩
      · exact .inl (h2.app _)
      · exact .inr ⟨p, k', h2, by simpa [Trace.g?, getElem?_append_old hlt'] using h3, h4⟩
    · have := knows_own h0
      rw [(evV_touch hv.ev hop).1] at this
      exact .inl this
theorem set_get {ps : List Wk} {p : Nat} {k k1 k' : Wk} (hp : ps[p]? = some k) {p' : Nat} (h : (ps.set p k1)[p']? = some k') : (p' = p ∧ k' = k1) ∨ (p' ≠ p ∧ ps[p']? = some k') := by
  rw [List.getElem?_set] at h
  split at h
  · next e => subst e; split at h
              · exact .inl ⟨rfl, (Option.some.inj h).symm⟩
              · cases h
  · next e => exact .inr ⟨fun x => e x.symm, h⟩
theorem Co.ownW (h : Co n P C g0 V0 gs w t q ps) (hst : Stays P C g0) {p : Nat} {k : Wk} (hk : ps[p]? = some k) {fr fr' : Frame} {X X' : List Frame} (hg : gs[k.j]? = some (G fr X)) {sl : Option (Nat × Nat)} {w' : World} {es : Array Event} {V' : View} {r : Rk}
    (hs : stepG P false (G fr X) w = .go (G fr' X') w' es) (hv : StepV n k.V w es w' V') (hkw : KW n P k.e.c k.e.v r V' fr' X') :
    ∃ gs' u, runT P (crowd gs w sl) k.j = (.next (crowd gs' w' sl), u) ∧ gs'.size = gs.size ∧ Co n P C g0 V0 gs' w' (t ++ u) q (ps.set p { k with V := V', m := some r }) := by
  have hj0 := (h.ok p k hk).2.1
  have hi0 : (k.j == 0) = false := by simp; omega
  have hrunT := runT_crowd_go (P := P) (sl := sl) (i := k.j) hg (by rw [hi0]; exact hs)
  have hlt : k.j < gs.size := (Array.getElem?_eq_some_iff.1 hg).1
  have hD : ∀ j, Deaf (t ++ MemOp.ofEvents k.j (G fr X).frame.fn (G fr X).frame.place es) j = Deaf t j := fun j => evV_deaf hv.ev j
  have hkeep : ∀ b o, w.heap[b]? = some o → (∀ o', k.V b ≠ some (true, o')) → w'.heap[b]? = some o := fun b o hb hn => by
    rw [hv.old b (Array.getElem?_eq_some_iff.1 hb).1 hn]; exact hb
  have hsat0 : Sat V0 w' := fun b m o hb => hkeep b o (h.sat0 b m o hb) fun o' hn => by rw [h.apk p k hk b o' hn] at hb; cases hb
  have hopen : OpenC C w' := fun c hc => by
    obtain ⟨s, tm, h1⟩ := h.chan c hc
    exact ⟨s, tm, hkeep c _ h1 fun o' hn => by rw [h.noc p k hk c hc] at hn; cases hn⟩
  have hfr0 : ∀ b, w.heap.size ≤ b → V0 b = none := fun b hb => by
    cases hv : V0 b with
    | none => rfl
    | some r => have := (Array.getElem?_eq_some_iff.1 (h.sat0 b r.1 r.2 hv)).1; omega
  have hfr : ∀ (p : Nat) (k : Wk), ps[p]? = some k → ∀ b, w.heap.size ≤ b → k.V b = none := fun p k hk b hb => by
    cases hv : k.V b with
    | none => rfl
    | some r => have := (Array.getElem?_eq_some_iff.1 (h.sat p k hk b r.1 r.2 hv)).1; omega
  have hnew : ∀ b, k.V b = none → V' b ≠ none → w.heap.size ≤ b := hv.dom
  have hw_ : ∀ b o, V' b = some (true, o) → (∃ o', k.V b = some (true, o')) ∨ w.heap.size ≤ b := fun b o hb => hv.was hb
  have hupd : ∀ (p' : Nat) (k' : Wk), (ps.set p { k with V := V', m := some r })[p']? = some k' → (p' = p ∧ k' = { k with V := V', m := some r }) ∨ (p' ≠ p ∧ ps[p']? = some k') := fun p' k' hk' => set_get hk hk'
  have hjk : ∀ (p' : Nat) (k' : Wk), ps[p']? = some k' → p' ≠ p → k'.j ≠ k.j := fun p' k' hk' hne e => hne (h.inj p' p k' k hk' hk e)
  refine ⟨_, _, hrunT, by simp, ?_⟩
  refine ⟨?_, fun p' k' hk' => ?_, fun p1 p2 k1 k2 h1 h2 e => ?_, fun j x hj hx hjn => ?_, fun j hj => ?_, hv.low, hsat0, fun p' k' hk' => ?_, hopen, h.noc0, fun p' k' hk' c hc => ?_, fun p' k' hk' b o hb => ?_, fun p' k' hk' b o hb => ?_, fun p1 p2 k1 k2 hne h1 h2 b o hb => ?_, fun p' k' hk' b hb hkb => ?_,
    own_clean hv (h.perm p k hk) h.seen h.clean, ?_, by rw [hD]; exact h.hears, fun p' k' hk' => ?_, ?_, fun p' k' hk' => ?_, fun i x hx hmem => ?_⟩
  · rw [Array.getElem?_setIfInBounds_ne (by omega), Array.getElem?_map, h.main]
    simp [hst _ _ w' hopen]
  · rcases hupd p' k' hk' with ⟨rfl, rfl⟩ | ⟨hne, h1⟩
    · refine ⟨?_, hj0, (h.ok p' k hk).2.2⟩
      unfold WkOk
      exact ⟨fr', X', by rw [Array.getElem?_setIfInBounds_self_of_lt (by simpa using hlt)], hkw⟩
    · exact ⟨(h.ok p' k' h1).1.woken (hjk p' k' h1 hne) (hopen _ (h.ok p' k' h1).2.2), (h.ok p' k' h1).2⟩
  · rcases hupd p1 k1 h1 with ⟨rfl, rfl⟩ | ⟨n1, g1⟩ <;> rcases hupd p2 k2 h2 with ⟨rfl, rfl⟩ | ⟨n2, g2⟩
    · rfl
    · exact absurd e.symm (hjk p2 k2 g2 n2)
    · exact absurd e (hjk p1 k1 g1 n1)
    · exact h.inj p1 p2 k1 k2 g1 g2 e
  · have hjk2 : ∀ (p : Nat) (k : Wk), ps[p]? = some k → k.j ≠ j := fun p' k' hk' e => by
      by_cases hpp : p' = p
      · subst hpp
        rw [hk] at hk'
        obtain rfl := Option.some.inj hk'
        exact hjn p' { k with V := V', m := some r } (by rw [List.getElem?_set]; simp [(List.getElem?_eq_some_iff.1 hk).1]) e
      · exact hjn p' k' (by rw [List.getElem?_set, if_neg (fun x => hpp x.symm)]; exact hk') e
    have hne : k.j ≠ j := hjk2 p k hk
    rw [Array.getElem?_setIfInBounds_ne hne, Array.getElem?_map] at hx
    obtain ⟨y, hy, rfl⟩ := Option.map_eq_some_iff.1 hx
    have hqj := h.old j y hj hy hjk2
    rw [woken_quitsD hqj, hD j]
    exact hqj
  · rw [hD j]; exact h.above j (by simpa using hj)
  · rcases hupd p' k' hk' with ⟨rfl, rfl⟩ | ⟨hne, h1⟩
    · exact hv.sat
    · exact fun b m o hb => hkeep b o (h.sat p' k' h1 b m o hb) fun o' hn => by rw [h.app p p' k k' (Ne.symm hne) hk h1 b o' hn] at hb; cases hb
  · rcases hupd p' k' hk' with ⟨rfl, rfl⟩ | ⟨hne, h1⟩
    · show V' c = none
      cases hvc : V' c with
      | none => rfl
      | some r =>
        have h1 := hnew c (h.noc p' k hk c hc) (by rw [hvc]; simp)
        obtain ⟨s, tm, h2⟩ := h.chan c hc
        have := (Array.getElem?_eq_some_iff.1 h2).1
        omega
    · exact h.noc p' k' h1 c hc
  · rcases hupd p' k' hk' with ⟨rfl, rfl⟩ | ⟨hne, h1⟩
    · show V' b = none
      cases hvb : V' b with
      | none => rfl
      | some r =>
        have h2 := hnew b (h.ap0 p' k hk b o hb) (by rw [hvb]; simp)
        rw [hfr0 b h2] at hb; cases hb
    · exact h.ap0 p' k' h1 b o hb
  · rcases hupd p' k' hk' with ⟨rfl, rfl⟩ | ⟨hne, h1⟩
    · rcases hw_ b o hb with ⟨o', h2⟩ | h2
      · exact h.apk p' k hk b o' h2
      · exact hfr0 b h2
    · exact h.apk p' k' h1 b o hb
  · rcases hupd p1 k1 h1 with ⟨rfl, rfl⟩ | ⟨n1, g1⟩ <;> rcases hupd p2 k2 h2 with ⟨rfl, rfl⟩ | ⟨n2, g2⟩
    · exact absurd rfl hne
    · rcases hw_ b o hb with ⟨o', h3⟩ | h3
      · exact h.app p1 p2 k k2 hne hk g2 b o' h3
      · exact hfr p2 k2 g2 b h3
    · show V' b = none
      cases hvb : V' b with
      | none => rfl
      | some r =>
        have h3 := hnew b (h.app p1 p2 k1 k hne g1 hk b o hb) (by rw [hvb]; simp)
        rw [hfr p1 k1 g1 b h3] at hb; cases hb
    · exact h.app p1 p2 k1 k2 hne g1 g2 b o hb
  · rcases hupd p' k' hk' with ⟨rfl, rfl⟩ | ⟨hne, h1⟩
    · by_cases hkv : k.V b = none
      · exact absurd (hfr0 b (hnew b hkv hkb)) hb
      · exact h.dom p' k hk b hb hkv
    · exact h.dom p' k' h1 b hb hkb
  · exact seen_app (fun op hop => MemAct.low_mono hv.kept.size (h.seen op hop)) fun op hop => evV_low hv.ev hv.sat hop
  · rw [hD]
    rcases hupd p' k' hk' with ⟨rfl, rfl⟩ | ⟨hne, h1⟩
    · exact h.deaf p' k hk
    · exact h.deaf p' k' h1
  · refine h.perm0.other fun op hop x hx b hb => ?_
    obtain ⟨ad, m, o, h1, h2, h3⟩ := (evV_touch hv.ev hop).2.1 x hx
    rw [h1] at hb
    simp only [blk, Option.some.injEq] at hb
    subst hb
    refine ⟨fun o' h4 => ?_, fun hw => ?_⟩
    · have h5 := h.ap0 p k hk _ o' h4
      rcases hv.was h2 with ⟨o2, h6⟩ | h6
      · rw [h5] at h6; cases h6
      · rw [hfr0 _ h6] at h4; cases h4
    · have hm := h3 hw
      subst hm
      rcases hw_ _ o h2 with ⟨o2, h6⟩ | h6
      · exact h.apk p k hk _ o2 h6
      · exact hfr0 _ h6
  · rcases hupd p' k' hk' with ⟨rfl, rfl⟩ | ⟨hne, g1⟩
    · exact own_perm hv (h.perm p' k hk) h.seen
    · refine (h.perm p' k' g1).other fun op hop x hx b hb => ?_
      obtain ⟨ad, m, o, h1, h2, h3⟩ := (evV_touch hv.ev hop).2.1 x hx
      rw [h1] at hb
      simp only [blk, Option.some.injEq] at hb
      subst hb
      refine ⟨fun o' h4 => ?_, fun hw => ?_⟩
      · have h5 := h.app p' p k' k hne g1 hk _ o' h4
        rcases hv.was h2 with ⟨o2, h6⟩ | h6
        · rw [h5] at h6; cases h6
        · rw [hfr p' k' g1 _ h6] at h4; cases h4
      · have hm := h3 hw
        subst hm
        rcases hw_ _ o h2 with ⟨o2, h6⟩ | h6
        · exact h.app p p' k k' (Ne.symm hne) hk g1 _ o2 h6
        · exact hfr p' k' g1 _ h6
  · have hself : ∀ k', (ps.set p k')[p]? = some k' := fun k' => by rw [List.getElem?_set]; simp [(List.getElem?_eq_some_iff.1 hk).1]
    rcases touchAt_app hx with ⟨hlt', h1⟩ | ⟨op, hop, h0, h1⟩
    · rcases h.known i x h1 hmem with h2 | ⟨p', k', h2, h3, b, h4, h5⟩
      · exact .inl (h2.app _)
      · have h3' : (t ++ MemOp.ofEvents k.j (G fr X).frame.fn (G fr X).frame.place es).g? i = some k'.j := by simpa [Trace.g?, getElem?_append_old hlt'] using h3
        by_cases hpp : p' = p
        · subst hpp
          rw [hk] at h2
          obtain rfl := Option.some.inj h2
          refine .inr ⟨p', _, hself _, h3', b, h4, ?_⟩
          show V' b ≠ none
          cases hvb : k.V b with
          | none => exact absurd hvb h5
          | some r =>
            obtain ⟨m, o⟩ := r
            cases m with
            | false => rw [hv.ro b o hvb]; simp
            | true => obtain ⟨o', h6⟩ := hv.rw_ b o hvb; rw [h6]; simp
        · exact .inr ⟨p', k', by rw [List.getElem?_set, if_neg (fun x => hpp x.symm)]; exact h2, h3', b, h4, h5⟩
    · obtain ⟨ad, m, o, g1, g2, _⟩ := (evV_touch hv.ev hop).2.1 x h1
      refine .inr ⟨p, _, hself _, ?_, ad.block, by rw [g1]; rfl, ?_⟩
      · simp only [Trace.g?, h0, Option.map_some]
        rw [(evV_touch hv.ev hop).1]
      · show V' ad.block ≠ none
        rw [g2]; simp
end
end Go.Co
end

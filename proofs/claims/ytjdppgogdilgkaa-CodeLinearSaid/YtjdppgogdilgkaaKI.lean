import Derived.Test.YtjdppgogdilgkaaKC
section
namespace Go.Co
open Go.Conc
set_option linter.unusedVariables false
set_option linter.unusedSimpArgs false
section
variable {n : Nat} {P : Program} {Q : Exit → Act → World → Prop} {a : Act} {w : World} {ops : Array Oper}
theorem opsB.tape {todo : List Nat} (T : Tape) (D : Nat) (h : opsB n P ops todo Q a w) : opsB n P ops todo Q a (tp w T D) := fun Post b k cs hb hc => (h Post b k cs hb hc).tape T D
theorem wpB.tape {c : Code} (T : Tape) (D : Nat) (h : wpB n P c Q a w) : wpB n P c Q a (tp w T D) := fun Post b k cs hb hc => (h Post b k cs hb hc).tape T D
theorem opsB.re {todo : List Nat} {w' : World} (T : Tape) (D : Nat) (hw : w' = tp w T D) (h : opsB n P ops todo Q a w) : opsB n P ops todo Q a w' := by subst hw; exact h.tape T D
theorem opsB_k {F : FuncId → Bool} (hB : Bodied true P F) {j : Nat} {rest : List Nat} {o : Oper} (ho : ops[j]? = some o) (hw : Region.wanted o (yielded ops a.tmps) = true) (hop : opT true F o.op = true)
    (h : ∀ T D, ∀ K : Act → World → Prop, (∀ a' w', opsB n P ops rest Q a' w' → K a' w') → uponK o a K ((execOp a.eval o).run P (tp w T D))) : opsB n P ops (j :: rest) Q a w := fun Post b k cs hb hc gs sl t q T D hl =>
  (bw_own true).step _ _ _ hl (fun T D => by
    have h1 := h T D _ fun _ _ x => x
    cases hr : (execOp a.eval o).run P (tp w T D) with
    | ok nx w' =>
      rw [hr] at h1
      obtain ⟨l1, l2, l3, l4⟩ := listed_ok (a := a) hB (fn := b.fn) hop (w := tp w T D) hl hr
      cases nx <;> simp only [uponK] at h1
      case value v => exact ⟨_, _, _, _, stepG_value ho hw (by rw [hb]; simp) hr, l1, l2, l3, l4, h1 Post b k cs hb hc⟩
      case skip => exact ⟨_, _, _, _, stepG_none ho hw (by rw [hb]; simp) hr, l1, l2, l3, l4, h1 Post b k cs hb hc⟩
    | halt x w' => rw [hr] at h1; simp only [uponK] at h1) gs sl t q T D hl
theorem opsB_callOf {j : Nat} {rest : List Nat} {o : Oper} {f : FuncId} {args : Array Operand} {ts : Array TypeId} {fn : Func} (ho : ops[j]? = some o) (hw : Region.wanted o (yielded ops a.tmps) = true) (hop : o.op = .call ⟨.value (.func f), args, ts⟩)
    (hf : P.funcs[f]? = some fn) (hbd : fn.body.isSome = true) (hnm : (fn.name == "runtime.NumGoroutine") = false) {av : Array Value} (ha : args.map a.eval = av) {R : Value → World → Prop} (hC : CallsB n P f av w R)
    (h : ∀ v w', R v w' → opsB n P ops rest Q (a.put o.dst v) w') : opsB n P ops (j :: rest) Q a w :=
  opsB_call ho hw hop hf hbd hnm (by rw [ha]; exact hC) h
variable {md : Region.Mode} {S : World → Prop} {F : FuncId → Bool}
def OpB (n : Nat) (P : Program) (F : FuncId → Bool) (ops : Array Oper) (i : Nat) (K : Act → World → Prop) (a : Act) (w : World) : Prop :=
  match ops[i]? with
  | none => False
  | some o => if Region.wanted o (yielded ops a.tmps) then
      (opT true F o.op = true ∧ ∀ T D, uponK o a K ((execOp a.eval o).run P (tp w T D))) ∨
      (∃ f av fn R, (∀ w : World, (execOp a.eval o).runT P w #[] = (.ok (.enter f av) w, #[])) ∧ P.funcs[f]? = some fn ∧ CallsB n P f av w R ∧ ∀ v w', R v w' → K (a.put o.dst v) w')
    else K (a.put o.dst undef) w
theorem OpB_mono {i : Nat} {a : Act} {w : World} {K K' : Act → World → Prop} (h : ∀ a w, K a w → K' a w) (hh : OpB n P F ops i K a w) : OpB n P F ops i K' a w := by
  unfold OpB at *
  split
  · simp_all
  · rename_i o ho
    simp only [ho] at hh
    split
    · rename_i hw
      simp only [hw, if_true] at hh
      rcases hh with ⟨h1, h2⟩ | ⟨f, av, fn, R, h1, h2, h3, h4⟩
      · exact .inl ⟨h1, fun T D => uponK_mono (fun a' w' x => h _ _ x) (h2 T D)⟩
      · exact .inr ⟨f, av, fn, R, h1, h2, h3, fun v w' r => h _ _ (h4 v w' r)⟩
    · rename_i hw; simp only [hw] at hh; exact h _ _ hh
theorem opsB_enter {j : Nat} {rest : List Nat} {o : Oper} {f : FuncId} {av : Array Value} (ho : ops[j]? = some o) (hw : Region.wanted o (yielded ops a.tmps) = true) (hen : ∀ w : World, (execOp a.eval o).runT P w #[] = (.ok (.enter f av) w, #[])) {R : Value → World → Prop} (hC : CallsB n P f av w R)
    (h : ∀ v w', R v w' → opsB n P ops rest Q (a.put o.dst v) w') : opsB n P ops (j :: rest) Q a w := fun Post b k cs hb hc gs sl t q T D hl => by
  have hst : ∀ w : World, stepG P true (G (b.at a (.inRegion ops (j :: rest) :: k)) cs) w = .go (G (Frame.enter P f av .normal) (b.at a (.inRegion ops (j :: rest) :: k) :: cs)) w #[] := by
    intro w
    rw [stepG_oper ho hw]
    have hke : ((b.at a (.inRegion ops (j :: rest) :: k)).kind == CallKind.early) = false := by
      show (b.kind == CallKind.early) = false
      rw [hb]; rfl
    rw [stepG.apply]
    simp only [if_true]
    rw [hen]
    simp only [hke, Bool.false_eq_true, if_false, GStep.after, seen_none, Array.append_empty, G]
    rfl
  refine bw_ctl hst (hC Post _ fun v w' fr hR h1 h2 => ?_) gs sl t q T D hl
  refine bw_ret h2 ?_
  rw [Frame.finish_at, ho]
  exact h v w' hR Post b k cs hb hc
theorem opsB_of_opB (hB : Bodied true P F) {i : Nat} {rest : List Nat} {a : Act} {w : World} (h : OpB n P F ops i (fun a' w' => opsB n P ops rest Q a' w') a w) : opsB n P ops (i :: rest) Q a w := by
  unfold OpB at h
  split at h
  · exact h.elim
  · rename_i o ho
    split at h
    · rename_i hw
      rcases h with ⟨h1, h2⟩ | ⟨f, av, fn, R, h1, h2, h3, h4⟩
      · exact opsB_k hB ho hw h1 fun T D K hK => uponK_mono (fun a' w' x => hK a' w' x) (h2 T D)
      · exact opsB_enter ho hw h1 h3 h4
    · rename_i hw; exact opsB_unwanted ho (by simpa using hw) h
def YieldsB (P : Program) (F : FuncId → Bool) (ops : Array Oper) (S : World → Prop) (o : Oper) (v : Value) (a : Act) : Prop :=
  (Region.wanted o (yielded ops a.tmps) = true ∧ opT true F o.op = true ∧ ∀ w, S w → (execOp a.eval o).run P w = .ok (.value v) w) ∨
  (Region.wanted o (yielded ops a.tmps) = false ∧ v = undef)
theorem YieldsB.of_same {o : Oper} {v : Value} {a a' : Act} (hy : YieldsB P F ops S o v a) (he : execOp a'.eval o = execOp a.eval o)
    (hw : Region.wanted o (yielded ops a'.tmps) = Region.wanted o (yielded ops a.tmps)) : YieldsB P F ops S o v a' := by
  unfold YieldsB at *
  rw [he, hw]
  exact hy
def AnyB (n : Nat) (P : Program) (F : FuncId → Bool) (md : Region.Mode) (ops : Array Oper) (Q : Exit → Act → World → Prop) (S : World → Prop) : Nat → Array Bool → Act → World → Prop
  | 0, listed, a, w => Region.ready md ops listed = [] ∧ Q .normal a w
  | fuel + 1, listed, a, w =>
    (Region.ready md ops listed = [] → Q .normal a w) ∧
    ∀ i ∈ Region.ready md ops listed, OpB n P F ops i (fun a' w' => S w' ∧ AnyB n P F md ops Q S fuel (listed.setIfInBounds i true) a' w') a w
theorem anyB_sound (hB : Bodied true P F) : ∀ (fuel t : Nat) (listed : Array Bool) (a : Act) (w : World), AnyB n P F md ops Q S fuel listed a w →
    opsB n P ops (Region.linearise.go md ops fuel t listed []) Q a w := by
  intro fuel
  induction fuel with
  | zero => intro t listed a w h; simpa [Region.linearise.go] using opsB_nil h.2
  | succ fuel ih =>
    intro t listed a w h
    obtain ⟨h₀, h₁⟩ := h
    simp only [Region.linearise.go]
    change opsB n P ops (match (Region.ready md ops listed)[t % (Region.ready md ops listed).length]? with
      | some i => Region.linearise.go md ops fuel (t / (Region.ready md ops listed).length) (listed.setIfInBounds i true) [i]
      | none => [].reverse) Q a w
    cases hi : (Region.ready md ops listed)[t % (Region.ready md ops listed).length]? with
    | none =>
      have hnil : Region.ready md ops listed = [] := by
        cases hr : Region.ready md ops listed with
        | nil => rfl
        | cons x xs =>
          rw [hr] at hi
          have hlt : t % (x :: xs).length < (x :: xs).length := Nat.mod_lt _ (by simp)
          simp at hi
          simp at hlt
          omega
      exact (by simpa using opsB_nil (h₀ hnil))
    | some i =>
      simp only []
      rw [linearise_go_acc, List.reverse_singleton, List.singleton_append]
      exact opsB_of_opB hB (OpB_mono (fun a' w' x => ih _ _ a' w' x.2) (h₁ i (List.mem_of_getElem? hi)))
theorem YieldsB.opB {i : Nat} {o : Oper} {v : Value} {a : Act} {w : World} (hi : ops[i]? = some o) (hy : YieldsB P F ops S o v a) {K : Act → World → Prop} (hS : ∀ T D, S (tp w T D)) (h : ∀ T D, K (a.put o.dst v) (tp w T D)) : OpB n P F ops i K a w := by
  unfold OpB
  simp only [hi]
  rcases hy with ⟨hw, ht, hv⟩ | ⟨hw, rfl⟩
  · simp only [hw, if_true]
    refine .inl ⟨ht, fun T D => ?_⟩
    rw [hv _ (hS T D)]
    exact h T D
  · simp only [hw, Bool.false_eq_true, if_false]; exact h w.tape w.drawn
theorem OpB_putIf {j : Nat} {oi oj : Oper} {v : Value} (hj : ops[j]? = some oj) (hap : oi.apart ops oj = true)
    (hsi : ∀ cs b, oi.op ≠ .select cs b) (hsj : ∀ cs b, oj.op ≠ .select cs b) {K : Act → World → Prop} {a : Act} {w : World}
    (hy : YieldsB P F ops S oi v a) (h : OpB n P F ops j K (a.put oi.dst v) w) :
    OpB n P F ops j (fun a' w' => YieldsB P F ops S oi v a' ∧ K (a'.put oi.dst v) w') a w := by
  obtain ⟨h1, h2, h3⟩ := Oper.apart_spec hap
  have keep : ∀ (a : Act), YieldsB P F ops S oi v a → ∀ u, YieldsB P F ops S oi v (a.put oj.dst u) := fun a hy u =>
    hy.of_same (execOp_put oi hsi a oj.dst u h3) (wanted_put oi a oj.dst u h3)
  unfold OpB at *
  simp only [hj] at *
  rw [wanted_put oj a oi.dst v h1] at h
  split
  · rename_i hw
    simp only [hw, if_true] at h
    rw [execOp_put oj hsj a oi.dst v h1] at h
    rcases h with ⟨g1, g2⟩ | ⟨f, av, fn, R, g1, g2, g3, g4⟩
    · refine .inl ⟨g1, fun T D => ?_⟩
      have g2 := g2 T D
      generalize (execOp a.eval oj).run P (tp w T D) = r at *
      cases r with
      | ok nx w' =>
        cases nx <;> simp only [uponK] at g2 ⊢
        case value u => exact ⟨keep a hy u, by rw [← Act.put_comm a v u h2]; exact g2⟩
        case skip => exact ⟨keep a hy _, by rw [← Act.put_comm a v undef h2]; exact g2⟩
      | halt x w' => simp only [uponK] at g2
    · exact .inr ⟨f, av, fn, R, g1, g2, g3, fun u w' r => ⟨keep a hy u, by rw [← Act.put_comm a v u h2]; exact g4 u w' r⟩⟩
  · rename_i hw
    simp only [hw] at h
    exact ⟨keep a hy _, by rw [← Act.put_comm a v undef h2]; exact h⟩
theorem CallsB.tape {f : FuncId} {args : Array Value} {R : Value → World → Prop} (T : Tape) (D : Nat) (h : CallsB n P f args w R) : CallsB n P f args (tp w T D) R := fun Post cs k => (h Post cs k).tape T D
theorem OpB.tape {i : Nat} {K : Act → World → Prop} (T : Tape) (D : Nat) (hK : ∀ a w T D, K a w → K a (tp w T D)) (h : OpB n P F ops i K a w) : OpB n P F ops i K a (tp w T D) := by
  unfold OpB at *
  split
  · simp_all
  · rename_i o ho
    simp only [ho] at h
    split
    · rename_i hw
      simp only [hw, if_true] at h
      rcases h with ⟨h1, h2⟩ | ⟨f, av, fn, R, h1, h2, h3, h4⟩
      · exact .inl ⟨h1, fun T' D' => h2 T' D'⟩
      · exact .inr ⟨f, av, fn, R, h1, h2, h3.tape T D, h4⟩
    · rename_i hw; simp only [hw] at h; exact hK _ _ _ _ h
theorem AnyB.tape (hQ : ∀ a w T D, Q .normal a w → Q .normal a (tp w T D)) (hS : ∀ w T D, S w → S (tp w T D)) : ∀ (fuel : Nat) (listed : Array Bool) (a : Act) (w : World) (T : Tape) (D : Nat), AnyB n P F md ops Q S fuel listed a w → AnyB n P F md ops Q S fuel listed a (tp w T D)
  | 0, listed, a, w, T, D, h => ⟨h.1, hQ _ _ _ _ h.2⟩
  | fuel + 1, listed, a, w, T, D, h => ⟨fun h0 => hQ _ _ _ _ (h.1 h0), fun i hi => (h.2 i hi).tape T D fun a' w' T' D' x => ⟨hS _ _ _ x.1, AnyB.tape hQ hS fuel _ _ _ T' D' x.2⟩⟩
theorem anyB_first (hQ : ∀ a w T D, Q .normal a w → Q .normal a (tp w T D)) (hST : ∀ w T D, S w → S (tp w T D)) {i : Nat} {oi : Oper} {v : Value} (hi : ops[i]? = some oi)
    (hsel : ∀ (j : Nat) (o : Oper) cs b, ops[j]? = some o → o.op ≠ .select cs b) :
    ∀ (fuel : Nat) (listed : Array Bool) (a : Act) (w : World),
      (∀ j oj, ops[j]? = some oj → j ≠ i → listed.getD j true = false → (∀ e ∈ oj.after, Region.binds md e = true → e.on ≠ i) → oi.apart ops oj = true) →
      i ∈ Region.ready md ops listed → YieldsB P F ops S oi v a → S w →
      AnyB n P F md ops Q S fuel (listed.setIfInBounds i true) (a.put oi.dst v) w → AnyB n P F md ops Q S (fuel + 1) listed a w := by
  intro fuel
  induction fuel with
  | zero =>
    intro listed a w _ hr hy hS H
    refine ⟨fun h => (by rw [h] at hr; cases hr), fun j hj => ?_⟩
    by_cases hji : j = i
    · subst hji; exact hy.opB hi (fun T D => hST _ _ _ hS) fun T D => ⟨hST _ _ _ hS, AnyB.tape hQ hST _ _ _ _ T D H⟩
    · have := ready_mono hj hji
      rw [H.1] at this
      cases this
  | succ fuel ih =>
    intro listed a w hfree hr hy hS H
    refine ⟨fun h => (by rw [h] at hr; cases hr), fun j hj => ?_⟩
    by_cases hji : j = i
    · subst hji; exact hy.opB hi (fun T D => hST _ _ _ hS) fun T D => ⟨hST _ _ _ hS, AnyB.tape hQ hST _ _ _ _ T D H⟩
    · have h1 := H.2 j (ready_mono hj hji)
      obtain ⟨hjun, oj, hoj, hall⟩ := mem_ready.1 hj
      have hnot : ∀ e ∈ oj.after, Region.binds md e = true → e.on ≠ i := fun e he hb heq => by
        have h1 := hall e he hb
        have h0 := (mem_ready.1 hr).1
        rw [heq] at h1
        rcases Nat.lt_or_ge i listed.size with h' | h'
        · simp [h'] at h0 h1; rw [h0] at h1; cases h1
        · simp [Array.getElem?_eq_none h'] at h1
      have hfj := hfree j oj hoj hji hjun hnot
      have h2 := OpB_putIf hoj hfj (fun cs b => hsel i oi cs b hi) (fun cs b => hsel j oj cs b hoj) hy h1
      have hfree' : ∀ k ok, ops[k]? = some ok → k ≠ i → (listed.setIfInBounds j true).getD k true = false →
          (∀ e ∈ ok.after, Region.binds md e = true → e.on ≠ i) → oi.apart ops ok = true := fun k ok hk hki hun hno => by
        refine hfree k ok hk hki ?_ hno
        by_cases hjk : j = k
        · subst hjk; exact hjun
        · rw [getD_set_ne true hjk] at hun; exact hun
      refine OpB_mono (fun a' w' h3 => ⟨h3.2.1, ih (listed.setIfInBounds j true) a' w' hfree' (ready_mono hr (Ne.symm hji)) h3.1 h3.2.1 ?_⟩) h2
      rw [Array.setIfInBounds_comm _ _ hji]
      exact h3.2.2
theorem anyB_take (hQ : ∀ a w T D, Q .normal a w → Q .normal a (tp w T D)) (hST : ∀ w T D, S w → S (tp w T D)) {i : Nat} {oi : Oper} {v : Value} {fuel : Nat} {listed : Array Bool} {a : Act} {w : World} (hi : ops[i]? = some oi)
    (hs : Region.noSelect ops = true) (hf : Region.free md ops listed i = true) (hr : (Region.ready md ops listed).contains i = true)
    (hy : YieldsB P F ops S oi v a) (hS : S w) (h : AnyB n P F md ops Q S fuel (listed.setIfInBounds i true) (a.put oi.dst v) w) : AnyB n P F md ops Q S (fuel + 1) listed a w :=
  anyB_first hQ hST hi (Region.noSelect_spec hs) fuel listed a w (fun j oj hj hji hl ha => Region.free_spec hi hf j oj hj hji hl ha) (by simpa using hr) hy hS h
def stepsOkB (md : Region.Mode) (ops : Array Oper) : List Nat → Array Bool → Bool
  | [], _ => true
  | i :: is, listed => Region.free md ops listed i && (Region.ready md ops listed).contains i && stepsOkB md ops is (listed.setIfInBounds i true)
def listedB : List Nat → Array Bool → Array Bool
  | [], l => l
  | i :: is, l => listedB is (l.setIfInBounds i true)
def StepsB (P : Program) (F : FuncId → Bool) (ops : Array Oper) (S : World → Prop) : List (Nat × Value) → Act → Act → Prop
  | [], a, b => a = b
  | (i, v) :: l, a, b => ∃ o, ops[i]? = some o ∧ YieldsB P F ops S o v a ∧ StepsB P F ops S l (a.put o.dst v) b
theorem anyB_steps (hQ : ∀ a w T D, Q .normal a w → Q .normal a (tp w T D)) (hST : ∀ w T D, S w → S (tp w T D)) (hs : Region.noSelect ops = true) {b : Act} (hS : S w) {fuel : Nat} : ∀ (l : List (Nat × Value)) (N : Nat) (listed : Array Bool) (a : Act), N = fuel + l.length → StepsB P F ops S l a b → stepsOkB md ops (l.map (·.1)) listed = true →
    AnyB n P F md ops Q S fuel (listedB (l.map (·.1)) listed) b w → AnyB n P F md ops Q S N listed a w
  | [], N, listed, a, hN, hst, hok, h => by
    simp only [StepsB] at hst
    subst hst
    simp only [List.length_nil, Nat.add_zero] at hN
    subst hN
    exact h
  | (i, v) :: l, N, listed, a, hN, hst, hok, h => by
    obtain ⟨o, h1, h2, h3⟩ := hst
    simp only [List.map_cons, stepsOkB, Bool.and_eq_true] at hok
    subst hN
    exact anyB_take hQ hST h1 hs hok.1.1 hok.1.2 h2 hS (anyB_steps hQ hST hs hS l (fuel + l.length) _ _ rfl h3 hok.2 h)
theorem StepsB.cons {i : Nat} {v : Value} {l : List (Nat × Value)} {T : Array Value} {ds : List Deferred} {b : Act} {o : Oper} {d : Tmp} (h1 : ops[i]? = some o) (hd : o.dst = some d) (h2 : YieldsB P F ops S o v ⟨T, ds⟩) (h3 : StepsB P F ops S l ⟨T.setIfInBounds d v, ds⟩ b) : StepsB P F ops S ((i, v) :: l) ⟨T, ds⟩ b :=
  ⟨o, h1, h2, by rw [hd]; exact h3⟩
theorem StepsB.nil {a : Act} : StepsB P F ops S [] a a := rfl
theorem anyB_all {rs : List Nat} {fuel : Nat} {listed : Array Bool} {a : Act} {w : World} (hr : Region.ready md ops listed = rs) (hne : rs ≠ [])
    (h : ∀ i ∈ rs, OpB n P F ops i (fun a' w' => S w' ∧ AnyB n P F md ops Q S fuel (listed.setIfInBounds i true) a' w') a w) : AnyB n P F md ops Q S (fuel + 1) listed a w :=
  ⟨fun h0 => absurd (hr ▸ h0) hne, hr ▸ h⟩
theorem anyB_done {listed : Array Bool} {a : Act} {w : World} (hr : Region.ready md ops listed = []) (h : Q .normal a w) : ∀ fuel, AnyB n P F md ops Q S fuel listed a w
  | 0 => ⟨hr, h⟩
  | _ + 1 => ⟨fun _ => h, fun i hi => by rw [hr] at hi; cases hi⟩
theorem wpB_any (hB : Bodied true P F) {id : Nat} {a : Act} {w : World} (hm : P.follows .mixedOrders = true) (S : World → Prop)
    (h : AnyB n P F .any ops Q S ops.size (Array.replicate ops.size false) a w) : wpB n P (.region id ops true) Q a w :=
  wpB_draw fun d => by
    have e : Region.schedule (P.follows .mixedOrders) ops d = Region.linearise.go .any ops ops.size d (Array.replicate ops.size false) [] := by
      simp only [Region.schedule, hm, Bool.true_or, if_true]
      rfl
    rw [e]
    exact anyB_sound hB ops.size _ _ a w h
end
end Go.Co
end
section
namespace Go.Co
open Go.Conc
set_option linter.unusedVariables false
set_option linter.unusedSimpArgs false
def nt (w w' : World) : World := tp w' w.tape w'.drawn
section
variable {n : Nat} {P : Program} {Q : Exit → Act → World → Prop} {a : Act} {w : World} {ops : Array Oper}
theorem ThenZ.back {Post : Value → World → Prop} {b : Frame} {k : List Item} {cs : List Frame} {e : Exit} {a : Act} {w : World} (T : Tape) (D : Nat) (h : ThenZ (BW n P Post) b k cs e a (tp w T D)) : ThenZ (BW n P Post) b k cs e a w := by
  cases e with
  | normal => exact BW.tape (w := tp w T D) w.tape w.drawn h
  | exit id => obtain ⟨k', hk, hz⟩ := h; exact ⟨k', hk, BW.tape (w := tp w T D) w.tape w.drawn hz⟩
  | ret => exact fun todo => BW.tape (w := tp w T D) w.tape w.drawn (h todo)
  | goto l => exact h
  | panic ch => exact h
  | outgrown => exact h
theorem wpB_nt {c : Code} (w0 : World) (h : wpB n P c (fun e a' w' => Q e a' (nt w0 w')) a w) : wpB n P c Q a w := fun Post b k cs hb hc => h Post b k cs hb fun e a' w' q => (hc e a' _ q).back w0.tape w'.drawn
theorem callsB_nt {f : FuncId} {args : Array Value} {R : Value → World → Prop} (w0 : World) (h : CallsB n P f args w (fun v w' => R v (nt w0 w'))) : CallsB n P f args w R := fun Post cs k => h Post cs fun v w' fr hR h1 h2 =>
  BW.tape (w := nt w0 w') w'.tape w'.drawn (k v (nt w0 w') fr hR h1 (leaving_tp h2 w0.tape w'.drawn))
theorem callsB_of {F : FuncId → Bool} (hT : TameP true P F) (hE : NoEarly P n) {f : FuncId} {args : Array Value} {R : Value → World → Prop} (hF : F f = true) (hbd : ∃ fn, P.funcs[f]? = some fn ∧ fn.body.isSome = true)
    (hC : ∀ T D, Calls P f args (tp w T D) fun e w' => ∃ v, e = .returned v ∧ R v (nt w w')) : CallsB n P f args w R :=
  callsB_nt w (callsB_lone hT hE hF hbd hC)
theorem callsB_same {F : FuncId → Bool} (hT : TameP true P F) (hE : NoEarly P n) {f : FuncId} {args : Array Value} {u : Value} (hF : F f = true) (hbd : ∃ fn, P.funcs[f]? = some fn ∧ fn.body.isSome = true)
    (hC : ∀ T D, Calls P f args (tp w T D) fun e w' => e = .returned u ∧ tp w T D = w') : CallsB n P f args w (fun v w' => v = u ∧ w' = w) := fun Post cs k =>
  callsB_lone (R := fun v w' => v = u ∧ ∃ T D, w' = tp w T D) hT hE hF hbd (fun T D => (hC T D).mono fun e w' ⟨h1, h2⟩ => ⟨_, h1, rfl, T, D, h2.symm⟩) Post cs fun v w' fr ⟨h1, T, D, h2⟩ h3 h4 => by
    subst h2
    exact (k v w fr ⟨h1, rfl⟩ h3 (leaving_tp h4 w.tape w.drawn)).tape T D
theorem wpB_of {F : FuncId → Bool} (hT : TameP true P F) (hE : NoEarly P n) {c : Code} (hc : codeT true F c = true) (hd : a.defers = []) (hw : ∀ T D, c.wp P (fun e a' w' => (e = .normal ∨ e = .ret ∨ ∃ id, e = .exit id) ∧ Q e a' (nt w w')) a (tp w T D)) : wpB n P c Q a w := by
  refine wpB_nt w ?_
  exact wpB_mono (wpB_lone (Q := fun e a' w' => (e = .normal ∨ e = .ret ∨ ∃ id, e = .exit id) ∧ Q e a' (nt w w')) hT hE hc hd hw fun e a' w' q => q.1) fun e a w q => q.2
theorem wpB_rest {F : FuncId → Bool} (hT : TameP true P F) (hE : NoEarly P n) {c : Code} (hc : codeT true F c = true) (hd : a.defers = []) {fn : Func} {R : Value → World → Prop}
    (hw : ∀ T D, c.wp P (bodyPost P fn fun e w' => ∃ v, e = .returned v ∧ R v w') a (tp w T D)) : wpB n P c (bodyB P fn R) a w := by
  refine wpB_lone hT hE hc hd (fun T D => Code.wp_mono (fun e a' w' q => ?_) (hw T D)) (fun e a' w' q => ?_)
  · cases e with
    | normal => obtain ⟨h1, v, h2, v', h3, h4⟩ := q; injection h3 with h3; subst h3; exact ⟨h1, v, h2, h4⟩
    | ret => obtain ⟨h1, v, h2, v', h3, h4⟩ := q; injection h3 with h3; subst h3; exact ⟨h1, v, h2, h4⟩
    | panic ch => obtain ⟨_, v', h3, _⟩ := q; cases h3
    | outgrown => obtain ⟨v', h3, _⟩ := q; cases h3
    | exit id => exact q.elim
    | goto l => exact q.elim
  · cases e with
    | normal => exact .inl rfl
    | ret => exact .inr (.inl rfl)
    | _ => exact q.elim
theorem wpB_scope {c : Code} (h : wpB n P c Q a w) : wpB n P (.scope c) Q a w := fun Post b k cs hb hc =>
  bw_ctl (fr' := b.at a (.code c :: .inScope c :: k)) (fun w => by simp [G, stepG, stepG.exec, Frame.at]) (h Post b (.inScope c :: k) cs hb fun e a' w' q => by
    cases e with
    | normal => exact bw_ctl (fr' := b.at a' k) (fun w => by simp [G, stepG, stepG.exec, Frame.at]) (hc _ _ _ q)
    | exit id' =>
      obtain ⟨k', hk', hg⟩ := hc _ _ _ q
      exact ⟨k', by simp [exitTo, hk'], hg⟩
    | ret => exact fun todo => hc _ _ _ q todo
    | goto l => exact hc _ _ _ q
    | panic ch => exact hc _ _ _ q
    | outgrown => exact hc _ _ _ q)
theorem opsB_end {fn : Func} {R : Value → World → Prop} (h : bodyB P fn R .normal a w) : opsB n P ops [] (bodyB P fn R) a w := opsB_nil h
theorem bodyB_ret {fn : Func} {R : Value → World → Prop} {v : Value} (hd : a.defers = []) (hr : (results fn a.tmps).run P w = .ok v w) (h : R v w) : bodyB P fn R .ret a w := ⟨hd, v, hr, h⟩
end
end Go.Co
end
section
namespace Go.Co
open Go.Conc
set_option linter.unusedVariables false
set_option linter.unusedSimpArgs false
section
variable {n : Nat} {P : Program} {F : FuncId → Bool} {ops : Array Oper} {a : Act} {w : World} {K : Act → World → Prop}
theorem opB_k {i : Nat} {o : Oper} (ho : ops[i]? = some o) (hw : Region.wanted o (yielded ops a.tmps) = true) (hop : opT true F o.op = true)
    (h : ∀ T D, ∀ K' : Act → World → Prop, (∀ a' w', K a' w' → K' a' w') → uponK o a K' ((execOp a.eval o).run P (tp w T D))) : OpB n P F ops i K a w := by
  unfold OpB
  simp only [ho, hw, if_true]
  exact .inl ⟨hop, fun T D => h T D K fun _ _ x => x⟩
theorem opB_callOf {i : Nat} {o : Oper} {f : FuncId} {args : Array Operand} {ts : Array TypeId} {fn : Func} (ho : ops[i]? = some o) (hw : Region.wanted o (yielded ops a.tmps) = true) (hop : o.op = .call ⟨.value (.func f), args, ts⟩)
    (hf : P.funcs[f]? = some fn) (hbd : fn.body.isSome = true) (hnm : (fn.name == "runtime.NumGoroutine") = false) {av : Array Value} (ha : args.map a.eval = av) {R : Value → World → Prop} (hC : CallsB n P f av w R)
    (h : ∀ v w', R v w' → K (a.put o.dst v) w') : OpB n P F ops i K a w := by
  unfold OpB
  simp only [ho, hw, if_true]
  refine .inr ⟨f, av, fn, R, fun w => ?_, hf, hC, h⟩
  subst ha
  have e1 : execOp a.eval o = callFunc f (#[] ++ args.map a.eval ++ #[]) := by
    obtain ⟨dst, op, ty, pos, af, gd⟩ := o
    simp only at hop
    subst hop
    rfl
  have hb0 : fn.body.isNone = false := by cases hb : fn.body <;> simp_all
  rw [e1]
  show (Sem.program fun p => _).runT P w #[] = _
  simp only [Sem.runT, Sem.bind]
  rw [hf]
  simp only [hnm, hb0]
  simp [Sem.runT, pure]
end
end Go.Co
end

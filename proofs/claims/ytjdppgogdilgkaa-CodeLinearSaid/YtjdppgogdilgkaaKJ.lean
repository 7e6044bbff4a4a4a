import Derived.Test.YtjdppgogdilgkaaKI
import Derived.Conc.LeavingOf
import Derived.ChangeAlike
section
namespace Go.Co
open Go.Conc
set_option linter.unusedVariables false
theorem noEarly_of {P : Program} (h : (P.funcs.all fun f => (f.body.map readies).all (·.isEmpty)) = true) : NoEarly P 0 := by
  intro g _
  unfold Program.stepOf
  rw [Array.findIdx?_eq_none_iff]
  intro f hf
  have h1 := (Array.all_eq_true_iff_forall_mem.1 h) f hf
  cases hb : f.body.map readies with
  | none => rfl
  | some l =>
    rw [hb] at h1
    simp only [Option.all_some, List.isEmpty_iff] at h1
    subst h1
    rfl
theorem low_zero (w : World) : Low 0 w := fun g hg => absurd hg (by omega)
theorem finB_of_B {P : Program} {f : FuncId} {args : Array Value} {w : World} {R Post : Value → World → Prop} (hni : P.inits.idxOf? f = none) (h : CallsB 0 P f args w R) (hp : ∀ v w' T D, R v w' → Post v (tp w' T D)) :
    FinB P Post (solo (G (Frame.enter P f args .normal) []) w) #[] := by
  have hB : BW 0 P Post (Frame.enter P f args .normal) [] w := h Post [] fun v w' fr hR hfn hlv => bw_end hlv (by rw [hfn]; exact hni) fun T D => hp v w' T D hR
  have hP : Past NoShun w.heap.size #[] := past_nil.mono (Nat.zero_le _)
  exact hB #[G (Frame.enter P f args .normal) []] none #[] (fun _ => 0) w.tape w.drawn (low_zero w) rfl (leavers_one P _) hP
section
variable {H : Type} {enc : TypeId × Value → H}
theorem returnsInLeavingWide_of_B {a : Assume} {C : Checked} {os : Os} {f : FuncId} {fn : Func} {s : ChangeSpec} {conds : List PathCond} {apart fresh handsOn again : Bool}
    (own : ownKnob C.prog.godebug = none) (started : os.Started) (hni : C.prog.inits.idxOf? f = none) (hfn : C.prog.funcs[f]? = some fn)
    (witness : ∃ (w : World) (tape : Tape) (i : Input), w.os = os ∧ (w.forCall tape i).Shaped C.prog ∧ i.vars = [] ∧ Input.okWide C.prog (w.forCall tape i) .any w.heap.size f i ∧
      s.pre6 enc C.prog fn conds apart (w.forCall tape i).memory i.args ∧ a.holds C.prog (lone (Frame.enter C.prog f i.args .normal) [] (w.forCall tape i)))
    (contract : ∀ (W : World) (base : Nat) (args : Array Value) (ds gs : List (DataW H)) (before : List MemPlace),
      (∀ (j : Nat) t v, fn.params[j]? = some t → args[j]? = some v → Value.okWide C.prog W .any base t v) →
      DataW.Whole enc C.prog fn.params.toList s.vars apart W args.toList ds gs before →
      conds.all (PathCond.test C.prog ⟨fn.params.toList, ds, s.plain.varTypes C.prog, gs⟩) = true →
      (DataW.weightsEach C.prog (fn.params.toList ++ s.plain.varTypes C.prog) (ds ++ gs)).all (· ≤ reachBytes) = true →
      CallsB 0 C.prog f args W fun v W' => s.post enc C.prog fn apart fresh handsOn again W args v W') :
    ReturnsInLeavingWide a C os f .any (s.pre6 enc C.prog fn conds apart) (s.post enc C.prog fn apart fresh handsOn again) :=
  returnsInLeavingWide_of_change_sized own started hfn witness fun W base args ds gs before h1 h2 h3 h4 _ =>
    finB_of_B hni (contract W base args ds gs before h1 h2 h3 h4) fun v w' T D hR => ChangeSpec.post_alike hR ⟨rfl, rfl, rfl⟩
end
end Go.Co
end
section
namespace Go.Co
open Go.Conc
set_option linter.unusedVariables false
section
variable {n : Nat} {P : Program} {Q : Exit → Act → World → Prop} {a : Act} {w : World}
def Nm (K : Act → World → Prop) : Exit → Act → World → Prop
  | .normal, a, w => K a w
  | _, _, _ => False
theorem wpB_loneK {F : FuncId → Bool} (hT : TameP true P F) (hE : NoEarly P n) {x y : Code} (hc : codeT true F x = true) (hd : a.defers = [])
    (hw : ∀ T D, ∀ K : Act → World → Prop, (∀ a' w', wpB n P y Q a' (nt w w') → K a' w') → x.wp P (Nm K) a (tp w T D)) : wpB n P (.seq x y) Q a w :=
  wpB_seq (wpB_of hT hE hc hd fun T D => Code.wp_mono (fun e a' w' h => by cases e with | normal => exact ⟨.inl rfl, h⟩ | _ => exact (h : False).elim) (hw T D (fun a' w' => wpB n P y Q a' (nt w w')) fun _ _ h => h))
end
end Go.Co
end

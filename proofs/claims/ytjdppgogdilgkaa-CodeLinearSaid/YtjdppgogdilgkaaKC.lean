import Derived.Test.YtjdppgogdilgkaaKB
import Derived.Conc.CompanyMem
section
namespace Go.Co
open Go.Conc
set_option linter.unusedVariables false
set_option linter.unusedSimpArgs false
def View : Type := Nat → Option (Bool × Obj)
def Sat (V : View) (w : World) : Prop := ∀ b m o, V b = some (m, o) → w.heap[b]? = some o
def View.set (V : View) (b : Nat) (m : Bool) (o : Obj) : View := fun c => if c = b then some (m, o) else V c
theorem View.set_same (V : View) (b : Nat) (m : Bool) (o : Obj) : V.set b m o b = some (m, o) := by simp [View.set]
theorem View.set_ne (V : View) {b c : Nat} (m : Bool) (o : Obj) (h : c ≠ b) : V.set b m o c = V c := by simp [View.set, h]
def EvV (V : View) (es : Array Event) : Prop := ∀ e ∈ es, e.loc = .mark .noRoom ∨ ∃ a m o, e.loc = .cell a ∧ e.sync = false ∧ V a.block = some (m, o) ∧ (e.write = true → m = true)
theorem EvV.nil {V : View} : EvV V #[] := fun e h => by simp at h
structure StepV (n : Nat) (V : View) (w : World) (es : Array Event) (w' : World) (V' : View) : Prop where
  kept : Kept w w'
  low : Low n w'
  ev : EvV V' es
  sat : Sat V' w'
  old : ∀ b, b < w.heap.size → (∀ o, V b ≠ some (true, o)) → w'.heap[b]? = w.heap[b]?
  dom : ∀ b, V b = none → V' b ≠ none → w.heap.size ≤ b
  ro : ∀ b o, V b = some (false, o) → V' b = some (false, o)
  rw_ : ∀ b o, V b = some (true, o) → ∃ o', V' b = some (true, o')
theorem StepV.same {n : Nat} {V : View} {w : World} (hs : Sat V w) (hl : Low n w) {w' : World} (hw : w' = tp w w.tape w'.drawn) : StepV n V w #[] w' V := by
  rw [hw]
  exact ⟨⟨rfl, rfl, rfl, Nat.le_refl _⟩, hl, EvV.nil, hs, fun _ _ _ => rfl, fun b h h' => absurd h h', fun _ _ h => h, fun _ o h => ⟨o, h⟩⟩
theorem StepV.rest {n : Nat} {V : View} {w : World} (hs : Sat V w) (hl : Low n w) {es : Array Event} (he : EvV V es) : StepV n V w es w V :=
  ⟨⟨rfl, rfl, rfl, Nat.le_refl _⟩, hl, he, hs, fun _ _ _ => rfl, fun b h h' => absurd h h', fun _ _ h => h, fun _ o h => ⟨o, h⟩⟩
section
variable (n : Nat) (P : Program) (main : Bool)
def OwnV (Z : View → Frame → List Frame → Prop) : Prop :=
  ∀ V fr cs, (∀ w, Sat V w → Low n w → ∃ fr' cs' w' es V', stepG P main (G fr cs) w = .go (G fr' cs') w' es ∧ StepV n V w es w' V' ∧ Z V' fr' cs') → Z V fr cs
def ThenV (Z : View → Frame → List Frame → Prop) (b : Frame) (k : List Item) (cs : List Frame) : Exit → Act → View → Prop
  | .normal, a, V => Z V (b.at a k) cs
  | .exit id, a, V => ∃ k', exitTo id k = some k' ∧ Z V (b.at a k') cs
  | .ret, a, V => ∀ todo, Z V { b.at a todo with mode := .returning } cs
  | _, _, _ => False
def wpV (Z : View → Frame → List Frame → Prop) (c : Code) (Q : Exit → Act → View → Prop) (a : Act) (V : View) : Prop :=
  ∀ (b : Frame) (k : List Item) (cs : List Frame), b.kind ≠ .early → (∀ e a' V', Q e a' V' → ThenV Z b k cs e a' V') → Z V (b.at a (.code c :: k)) cs
def opsV (Z : View → Frame → List Frame → Prop) (ops : Array Oper) (todo : List Nat) (Q : Exit → Act → View → Prop) (a : Act) (V : View) : Prop :=
  ∀ (b : Frame) (k : List Item) (cs : List Frame), b.kind ≠ .early → (∀ e a' V', Q e a' V' → ThenV Z b k cs e a' V') → Z V (b.at a (.inRegion ops todo :: k)) cs
def LeavesV (P : Program) (V : View) (fr : Frame) (v : Value) : Prop := fr.mode = .returning ∧ fr.defers = [] ∧ fr.kind = .normal ∧ ∃ fn, P.funcs[fr.fn]? = some fn ∧
  ∀ w, Sat V w → ∃ es, (results fn fr.tmps).runT P w #[] = (.ok v w, es) ∧ EvV V es
def CallsV (Z : View → Frame → List Frame → Prop) (f : FuncId) (args : Array Value) (V : View) (R : Value → View → Prop) : Prop :=
  ∀ cs, (∀ v V' fr, R v V' → fr.fn = f → LeavesV P V' fr v → Z V' fr cs) → Z V (Frame.enter P f args .normal) cs
end
section
variable {n : Nat} {P : Program} {main : Bool} {Z : View → Frame → List Frame → Prop} {Q : Exit → Act → View → Prop} {a : Act} {V : View}
theorem OwnV.ctl (hZ : OwnV n P main Z) {fr fr' : Frame} {cs cs' : List Frame} (h : ∀ w : World, stepG P main (G fr cs) w = .go (G fr' cs') w #[]) (h' : Z V fr' cs') : Z V fr cs :=
  hZ V fr cs fun w hs hl => ⟨_, _, _, #[], V, h w, StepV.same hs hl rfl, h'⟩
theorem wpV_mono {c : Code} {Q' : Exit → Act → View → Prop} (h : wpV Z c Q a V) (hq : ∀ e a w, Q e a w → Q' e a w) : wpV Z c Q' a V := fun b k cs hb hc => h b k cs hb fun e a' w' q => hc e a' w' (hq _ _ _ q)
theorem wpV_skip (hZ : OwnV n P main Z) (h : Q .normal a V) : wpV Z .skip Q a V := fun b k cs hb hc => hZ.ctl (fun w => stepG_skip) (hc _ _ _ h)
theorem wpV_label (hZ : OwnV n P main Z) {l : Nat} (h : Q .normal a V) : wpV Z (.label l) Q a V := fun b k cs hb hc => hZ.ctl (fun w => stepG_label) (hc _ _ _ h)
theorem wpV_ret (hZ : OwnV n P main Z) (h : Q .ret a V) : wpV Z .ret Q a V := fun b k cs hb hc => hZ.ctl (fr' := { b.at a (.code .ret :: k) with mode := .returning }) (fun w => by simp [G, stepG, stepG.exec, Frame.at]) (hc _ _ _ h (.code .ret :: k))
theorem wpV_exit (hZ : OwnV n P main Z) {id : Nat} (h : Q (.exit id) a V) : wpV Z (.exit id) Q a V := fun b k cs hb hc => by
  obtain ⟨k', hk, hz⟩ := hc _ _ _ h
  exact hZ.ctl (fun w => stepG_exit hk) hz
theorem ThenV.push {b : Frame} {x : Item} {k : List Item} {cs : List Frame} {e : Exit} {a : Act} {V : View} (hx : x.plain = true) (he : e ≠ .normal) (h : ThenV Z b k cs e a V) : ThenV Z b (x :: k) cs e a V := by
  cases e with
  | normal => exact absurd rfl he
  | exit id => obtain ⟨k', hk, hg⟩ := h; exact ⟨k', by cases x <;> simp_all [exitTo, Item.plain], hg⟩
  | ret => exact h
  | goto l => exact h
  | panic ch => exact h
  | outgrown => exact h
def NxV (next : Act → View → Prop) (Q : Exit → Act → View → Prop) : Exit → Act → View → Prop
  | .normal, a, V => next a V
  | e, a, V => Q e a V
theorem wpV_seq (hZ : OwnV n P main Z) {x y : Code} (h : wpV Z x (NxV (fun a' V' => wpV Z y Q a' V') Q) a V) : wpV Z (.seq x y) Q a V := fun b k cs hb hc =>
  hZ.ctl (fun w => stepG_seq) (h b (.code y :: k) cs hb fun e a' w' q => by
    cases e with
    | normal => exact q b k cs hb hc
    | _ => exact ThenV.push (x := .code y) rfl (by simp) (hc _ _ _ q))
theorem wpV_cond (hZ : OwnV n P main Z) {c : Operand} {x y : Code} {t : Bool} (hc : a.eval c = .bool t) (h : wpV Z (if t then x else y) Q a V) : wpV Z (.cond c x y) Q a V := fun b k cs hb hq =>
  hZ.ctl (fun w => stepG_cond hc) (h b k cs hb hq)
def BlV (id : Nat) (Q : Exit → Act → View → Prop) : Exit → Act → View → Prop
  | .exit id', a, V => if id' = id then Q .normal a V else Q (.exit id') a V
  | e, a, V => Q e a V
theorem wpV_block (hZ : OwnV n P main Z) {id : Nat} {c : Code} (h : wpV Z c (BlV id Q) a V) : wpV Z (.block id c) Q a V := fun b k cs hb hc =>
  hZ.ctl (fun w => stepG_block) (h b (.inBlock id :: k) cs hb fun e a' w' q => by
    cases e with
    | normal => exact hZ.ctl (fun w => stepG_inBlock) (hc _ _ _ q)
    | exit id' =>
      by_cases hid : id' = id
      · simp only [BlV, hid, if_true] at q
        exact ⟨k, by simp [exitTo, hid], hc _ _ _ q⟩
      · simp only [BlV, hid, if_false] at q
        obtain ⟨k', hk', hg⟩ := hc _ _ _ q
        have : (id == id') = false := by simp; exact fun h => hid h.symm
        exact ⟨k', by simp [exitTo, this, hk'], hg⟩
    | ret => exact fun todo => hc _ _ _ q todo
    | goto l => exact hc _ _ _ q
    | panic ch => exact hc _ _ _ q
    | outgrown => exact hc _ _ _ q)
theorem wpV_scope (hZ : OwnV n P main Z) {c : Code} (h : wpV Z c Q a V) : wpV Z (.scope c) Q a V := fun b k cs hb hc =>
  hZ.ctl (fr' := b.at a (.code c :: .inScope c :: k)) (fun w => by simp [G, stepG, stepG.exec, Frame.at]) (h b (.inScope c :: k) cs hb fun e a' w' q => by
    cases e with
    | normal => exact hZ.ctl (fr' := b.at a' k) (fun w => by simp [G, stepG, stepG.exec, Frame.at]) (hc _ _ _ q)
    | exit id' =>
      obtain ⟨k', hk', hg⟩ := hc _ _ _ q
      exact ⟨k', by simp [exitTo, hk'], hg⟩
    | ret => exact fun todo => hc _ _ _ q todo
    | goto l => exact hc _ _ _ q
    | panic ch => exact hc _ _ _ q
    | outgrown => exact hc _ _ _ q)
theorem wpV_loop (hZ : OwnV n P main Z) {c : Code} (I : Nat → Act → View → Prop) (m : Nat) (h0 : I m a V) (round : ∀ m a V, I m a V → wpV Z c (NxV (fun a' V' => ∃ m', m' < m ∧ I m' a' V') Q) a V) : wpV Z (.loop c) Q a V := by
  intro b k cs hb hc
  have key : ∀ N m a V, m ≤ N → I m a V → Z V (b.at a (.code c :: .inLoop c :: k)) cs := by
    intro N
    induction N with
    | zero =>
      intro m a V hμ hI
      refine round m a V hI b (.inLoop c :: k) cs hb fun e a' V' q => ?_
      cases e with
      | normal => obtain ⟨m', h1, _⟩ := q; omega
      | _ => exact ThenV.push (x := .inLoop c) rfl (by simp) (hc _ _ _ q)
    | succ N ih =>
      intro m a V hμ hI
      refine round m a V hI b (.inLoop c :: k) cs hb fun e a' V' q => ?_
      cases e with
      | normal => obtain ⟨m', h1, h2⟩ := q; exact hZ.ctl (fun w => stepG_inLoop) (ih m' a' V' (by omega) h2)
      | _ => exact ThenV.push (x := .inLoop c) rfl (by simp) (hc _ _ _ q)
  exact hZ.ctl (fun w => stepG_loop) (key _ m a V (Nat.le_refl _) h0)
theorem wpV_region (hZ : OwnV n P main Z) {id : Nat} {ops : Array Oper} (h : opsV Z ops (List.range ops.size) Q a V) : wpV Z (.region id ops false) Q a V := fun b k cs hb hc => hZ.ctl (fun w => stepG_region) (h b k cs hb hc)
theorem opsV_nil (hZ : OwnV n P main Z) {ops : Array Oper} (h : Q .normal a V) : opsV Z ops [] Q a V := fun b k cs hb hc => hZ.ctl (fun w => stepG_region_end) (hc _ _ _ h)
theorem opsV_unwanted (hZ : OwnV n P main Z) {ops : Array Oper} {j : Nat} {rest : List Nat} {o : Oper} (ho : ops[j]? = some o) (hw : Region.wanted o (yielded ops a.tmps) = false) (h : opsV Z ops rest Q (a.put o.dst undef) V) : opsV Z ops (j :: rest) Q a V := fun b k cs hb hc =>
  hZ.ctl (fun w => stepG_unwanted ho hw) (h b k cs hb hc)
def AfterV (n : Nat) (P : Program) (V : View) (w : World) (o : Oper) (a : Act) (w' : World) (next : View → Prop) : Prop :=
  ∃ V', StepV n V w ((execOp a.eval o).events P w #[]) w' V' ∧ next V'
theorem StepV.seen {w w' : World} {es : Array Event} {V' : View} (h : StepV n V w es w' V') (fn : FuncId) : StepV n V w (Go.seen P fn es) w' V' :=
  ⟨h.kept, h.low, fun e he => h.ev e (mem_seen he), h.sat, h.old, h.dom, h.ro, h.rw_⟩
theorem opsV_k (hZ : OwnV n P main Z) {ops : Array Oper} {j : Nat} {rest : List Nat} {o : Oper} (ho : ops[j]? = some o) (hw : Region.wanted o (yielded ops a.tmps) = true)
    (h : ∀ w, Sat V w → Low n w → ∀ K : Act → World → Prop, (∀ a' w', AfterV n P V w o a w' (fun V' => opsV Z ops rest Q a' V') → K a' w') → uponK o a K ((execOp a.eval o).run P w)) : opsV Z ops (j :: rest) Q a V := fun b k cs hb hc =>
  hZ _ _ _ fun w hs hl => by
    have h1 := h w hs hl _ fun _ _ x => x
    have hke : b.kind ≠ .early := hb
    cases hr : (execOp a.eval o).run P w with
    | ok nx w' =>
      rw [hr] at h1
      cases nx <;> simp only [uponK] at h1
      case value v =>
        obtain ⟨V', h2, h3⟩ := h1
        exact ⟨_, _, _, _, V', stepG_value ho hw hke hr, h2.seen _, h3 b k cs hb hc⟩
      case skip =>
        obtain ⟨V', h2, h3⟩ := h1
        exact ⟨_, _, _, _, V', stepG_none ho hw hke hr, h2.seen _, h3 b k cs hb hc⟩
    | halt x w' => rw [hr] at h1; simp only [uponK] at h1
theorem AfterV.quiet {w : World} {o : Oper} {next : View → Prop} (hs : Sat V w) (hl : Low n w) (he : (execOp a.eval o).events P w #[] = #[]) (h : next V) : AfterV n P V w o a w next := ⟨V, by rw [he]; exact StepV.same hs hl rfl, h⟩
theorem opsV_call (hZ : OwnV n P main Z) {ops : Array Oper} {j : Nat} {rest : List Nat} {o : Oper} {f : FuncId} {args : Array Operand} {ts : Array TypeId} {fn : Func} (ho : ops[j]? = some o) (hw : Region.wanted o (yielded ops a.tmps) = true) (hop : o.op = .call ⟨.value (.func f), args, ts⟩)
    (hf : P.funcs[f]? = some fn) (hbd : fn.body.isSome = true) (hnm : (fn.name == "runtime.NumGoroutine") = false) {R : Value → View → Prop} (hC : CallsV P Z f (args.map a.eval) V R)
    (h : ∀ v V', R v V' → opsV Z ops rest Q (a.put o.dst v) V') : opsV Z ops (j :: rest) Q a V := fun b k cs hb hc => by
  have hst : ∀ w : World, stepG P main (G (b.at a (.inRegion ops (j :: rest) :: k)) cs) w = .go (G (Frame.enter P f (args.map a.eval) .normal) (b.at a (.inRegion ops (j :: rest) :: k) :: cs)) w #[] := by
    intro w
    rw [stepG_oper ho hw]
    have e1 : execOp a.eval o = callFunc f (#[] ++ args.map a.eval ++ #[]) := by
      obtain ⟨dst, op, ty, pos, af, gd⟩ := o
      simp only at hop
      subst hop
      rfl
    have hb0 : fn.body.isNone = false := by cases hb : fn.body <;> simp_all
    have e2 : (callFunc f (#[] ++ args.map a.eval ++ #[])).runT P w #[] = (.ok (.enter f (args.map a.eval)) w, #[]) := by
      show (Sem.program fun p => _).runT P w #[] = _
      simp only [Sem.runT, Sem.bind]
      rw [hf]
      simp only [hnm, hb0]
      simp [Sem.runT, pure]
    have hke : ((b.at a (.inRegion ops (j :: rest) :: k)).kind == CallKind.early) = false := by
      show (b.kind == CallKind.early) = false
      simpa using hb
    rw [stepG.apply, e1]
    simp only [if_true]
    rw [e2]
    simp only [hke, Bool.false_eq_true, if_false, GStep.after, seen_none, Array.append_empty, G]
    rfl
  refine hZ.ctl hst (hC _ fun v V' fr hR h1 h2 => ?_)
  obtain ⟨g1, g2, g3, fn', g4, g5⟩ := h2
  refine hZ _ _ _ fun w hs hl => ?_
  obtain ⟨es, g6, g7⟩ := g5 w hs
  refine ⟨_, _, w, Go.seen P fr.fn es, V', ?_, (StepV.rest hs hl g7).seen fr.fn, h v V' hR b k cs hb hc⟩
  have e3 : (b.at a (.inRegion ops (j :: rest) :: k)).finish v = b.at (a.put o.dst v) (.inRegion ops rest :: k) := by rw [Frame.finish_at, ho]; rfl
  rw [← e3]
  obtain ⟨fn', tmps, todo, defers, mode, kind, roundOf⟩ := fr
  simp only at g1 g2 g3 g4 g5
  subst g1 g2 g3
  simp only [G, stepG, unwind, g4, g6, GStep.after, doReturn]
  simp
def bodyV (P : Program) (fn : Func) (R : Value → View → Prop) : Exit → Act → View → Prop
  | .normal, a, V | .ret, a, V => a.defers = [] ∧ ∃ v, (∀ w, Sat V w → ∃ es, (results fn a.tmps).runT P w #[] = (.ok v w, es) ∧ EvV V es) ∧ R v V
  | _, _, _ => False
theorem callsV_of_wp (hZ : OwnV n P main Z) {f : FuncId} {fn : Func} {c : Code} {args : Array Value} {R : Value → View → Prop} (hf : P.funcs[f]? = some fn) (hb : fn.body = some c)
    (h : wpV Z c (bodyV P fn R) { tmps := args ++ Array.replicate (fn.ntmps - args.size) undef, defers := [] } V) : CallsV P Z f args V R := fun cs k => by
  let b : Frame := { (default : Frame) with fn := f, kind := .normal }
  have henter : Frame.enter P f args .normal = b.at { tmps := args ++ Array.replicate (fn.ntmps - args.size) undef, defers := [] } [.code c] := by
    simp [Frame.enter, Frame.at, hf, hb, b]
  rw [henter]
  refine h b [] cs (by simp [b]) fun e a' V' q => ?_
  have fin : ∀ todo, (a'.defers = [] ∧ ∃ v, (∀ w, Sat V' w → ∃ es, (results fn a'.tmps).runT P w #[] = (.ok v w, es) ∧ EvV V' es) ∧ R v V') → Z V' { b.at a' todo with mode := .returning } cs := fun todo ⟨h1, v, h2, h3⟩ =>
    k v V' _ h3 rfl ⟨rfl, h1, rfl, fn, hf, h2⟩
  cases e with
  | normal => exact hZ.ctl (fun w => stepG_end) (fin [] q)
  | ret => exact fun todo => fin todo q
  | _ => exact q.elim
end
end Go.Co
end
section
namespace Go.Co
open Go.Conc
set_option linter.unusedVariables false
set_option linter.unusedSimpArgs false
section
variable {n : Nat} {P : Program} {main : Bool} {Z : View → Frame → List Frame → Prop} {ops : Array Oper} {Q : Exit → Act → View → Prop} {md : Region.Mode} {S : View → Prop} {fin : Nat → Bool}
def OpV (n : Nat) (P : Program) (ops : Array Oper) (i : Nat) (K : Act → View → Prop) (a : Act) (V : View) : Prop :=
  match ops[i]? with
  | none => False
  | some o => if Region.wanted o (yielded ops a.tmps) then ∀ w, Sat V w → Low n w → uponK o a (fun a' w' => AfterV n P V w o a w' (fun V' => K a' V')) ((execOp a.eval o).run P w) else K (a.put o.dst undef) V
theorem AfterV.mono {w w' : World} {o : Oper} {a : Act} {V : View} {K K' : View → Prop} (h : ∀ V', K V' → K' V') (x : AfterV n P V w o a w' K) : AfterV n P V w o a w' K' := x.imp fun V' y => ⟨y.1, h _ y.2⟩
theorem OpV_mono {i : Nat} {a : Act} {V : View} {K K' : Act → View → Prop} (h : ∀ a V, K a V → K' a V) (hh : OpV n P ops i K a V) : OpV n P ops i K' a V := by
  unfold OpV at *
  split
  · simp_all
  · rename_i o ho
    simp only [ho] at hh
    split
    · rename_i hw; simp only [hw, if_true] at hh; exact fun w h₁ hl => uponK_mono (fun a' w' x => x.mono (h _)) (hh w h₁ hl)
    · rename_i hw; simp only [hw] at hh; exact h _ _ hh
theorem opsV_of_opV (hZ : OwnV n P main Z) {i : Nat} {rest : List Nat} {a : Act} {V : View} (h : OpV n P ops i (fun a' V' => opsV Z ops rest Q a' V') a V) : opsV Z ops (i :: rest) Q a V := by
  unfold OpV at h
  split at h
  · exact h.elim
  · rename_i o ho
    split at h
    · rename_i hw; exact opsV_k hZ ho hw fun w hs hl K hK => uponK_mono (fun a' w' x => hK a' w' x) (h w hs hl)
    · rename_i hw; exact opsV_unwanted hZ ho (by simpa using hw) h
def YieldsV (P : Program) (ops : Array Oper) (S : View → Prop) (o : Oper) (v : Value) (a : Act) : Prop :=
  (Region.wanted o (yielded ops a.tmps) = true ∧ ∀ V w, S V → Sat V w → (execOp a.eval o).run P w = .ok (.value v) w ∧ EvV V ((execOp a.eval o).events P w #[])) ∨
  (Region.wanted o (yielded ops a.tmps) = false ∧ v = undef)
theorem YieldsV.of_same {o : Oper} {v : Value} {a a' : Act} (hy : YieldsV P ops S o v a) (he : execOp a'.eval o = execOp a.eval o)
    (hw : Region.wanted o (yielded ops a'.tmps) = Region.wanted o (yielded ops a.tmps)) : YieldsV P ops S o v a' := by
  unfold YieldsV at *
  rw [he, hw]
  exact hy
def AnyV (n : Nat) (P : Program) (md : Region.Mode) (ops : Array Oper) (Q : Exit → Act → View → Prop) (S : View → Prop) (fin : Nat → Bool) : Nat → Array Bool → Act → View → Prop
  | 0, listed, a, V => Region.ready md ops listed = [] ∧ Q .normal a V
  | fuel + 1, listed, a, V =>
    (Region.ready md ops listed = [] → Q .normal a V) ∧
    ∀ i ∈ Region.ready md ops listed, OpV n P ops i (fun a' V' => (fin i = false → S V') ∧ AnyV n P md ops Q S fin fuel (listed.setIfInBounds i true) a' V') a V
theorem anyV_sound (hZ : OwnV n P main Z) : ∀ (fuel t : Nat) (listed : Array Bool) (a : Act) (V : View), AnyV n P md ops Q S fin fuel listed a V →
    opsV Z ops (Region.linearise.go md ops fuel t listed []) Q a V := by
  intro fuel
  induction fuel with
  | zero => intro t listed a V h; simpa [Region.linearise.go] using opsV_nil hZ h.2
  | succ fuel ih =>
    intro t listed a V h
    obtain ⟨h₀, h₁⟩ := h
    simp only [Region.linearise.go]
    change opsV Z ops (match (Region.ready md ops listed)[t % (Region.ready md ops listed).length]? with
      | some i => Region.linearise.go md ops fuel (t / (Region.ready md ops listed).length) (listed.setIfInBounds i true) [i]
      | none => [].reverse) Q a V
    cases hi : (Region.ready md ops listed)[t % (Region.ready md ops listed).length]? with
    | none =>
      have hnil : Region.ready md ops listed = [] := by
        cases hr : Region.ready md ops listed with
        | nil => rfl
        | cons x xs =>
          rw [hr] at hi
          have hlt : t % (x :: xs).length < (x :: xs).length := Nat.mod_lt _ (by simp)
          simp at hi
          simp at hlt
          omega
      exact (by simpa using opsV_nil hZ (h₀ hnil))
    | some i =>
      simp only []
      rw [linearise_go_acc, List.reverse_singleton, List.singleton_append]
      exact opsV_of_opV hZ (OpV_mono (fun a' V' x => ih _ _ a' V' x.2) (h₁ i (List.mem_of_getElem? hi)))
theorem YieldsV.opV {i : Nat} {o : Oper} {v : Value} {a : Act} {V : View} (hi : ops[i]? = some o) (hy : YieldsV P ops S o v a) {K : Act → View → Prop} (hS : S V) (h : K (a.put o.dst v) V) : OpV n P ops i K a V := by
  unfold OpV
  simp only [hi]
  rcases hy with ⟨hw, hv⟩ | ⟨hw, rfl⟩
  · simp only [hw, if_true]
    intro w hs hl
    rw [(hv V w hS hs).1]
    exact ⟨V, ⟨Kept.refl w, hl, (hv V w hS hs).2, hs, fun _ _ _ => rfl, fun b h h' => absurd h h', fun _ _ h => h, fun _ o h => ⟨o, h⟩⟩, h⟩
  · simp only [hw, Bool.false_eq_true, if_false]; exact h
theorem OpV_putIf {j : Nat} {oi oj : Oper} {v : Value} (hj : ops[j]? = some oj) (hap : oi.apart ops oj = true)
    (hsi : ∀ cs b, oi.op ≠ .select cs b) (hsj : ∀ cs b, oj.op ≠ .select cs b) {K : Act → View → Prop} {a : Act} {V : View}
    (hy : YieldsV P ops S oi v a) (h : OpV n P ops j K (a.put oi.dst v) V) :
    OpV n P ops j (fun a' V' => YieldsV P ops S oi v a' ∧ K (a'.put oi.dst v) V') a V := by
  obtain ⟨h1, h2, h3⟩ := Oper.apart_spec hap
  have keep : ∀ (a : Act), YieldsV P ops S oi v a → ∀ u, YieldsV P ops S oi v (a.put oj.dst u) := fun a hy u =>
    hy.of_same (execOp_put oi hsi a oj.dst u h3) (wanted_put oi a oj.dst u h3)
  unfold OpV at *
  simp only [hj] at *
  rw [wanted_put oj a oi.dst v h1] at h
  split
  · rename_i hw
    simp only [hw, if_true] at h
    intro w hs hl
    have h := h w hs hl
    unfold AfterV at *
    rw [execOp_put oj hsj a oi.dst v h1] at h
    generalize (execOp a.eval oj).run P w = r at *
    cases r with
    | ok nx w' =>
      cases nx <;> simp only [uponK] at h ⊢
      case value u => obtain ⟨V', g1, g2⟩ := h; exact ⟨V', g1, keep a hy u, by rw [← Act.put_comm a v u h2]; exact g2⟩
      case skip => obtain ⟨V', g1, g2⟩ := h; exact ⟨V', g1, keep a hy _, by rw [← Act.put_comm a v undef h2]; exact g2⟩
    | halt x w' => simp only [uponK] at h
  · rename_i hw
    simp only [hw] at h
    exact ⟨keep a hy _, by rw [← Act.put_comm a v undef h2]; exact h⟩
theorem anyV_first {i : Nat} {oi : Oper} {v : Value} (hi : ops[i]? = some oi) (hfi : fin i = false)
    (hsel : ∀ (j : Nat) (o : Oper) cs b, ops[j]? = some o → o.op ≠ .select cs b) :
    ∀ (fuel : Nat) (listed : Array Bool) (a : Act) (V : View),
      (∀ j oj, ops[j]? = some oj → j ≠ i → listed.getD j true = false → (∀ e ∈ oj.after, Region.binds md e = true → e.on ≠ i) → oi.apart ops oj = true ∧ fin j = false) →
      i ∈ Region.ready md ops listed → YieldsV P ops S oi v a → S V →
      AnyV n P md ops Q S fin fuel (listed.setIfInBounds i true) (a.put oi.dst v) V → AnyV n P md ops Q S fin (fuel + 1) listed a V := by
  intro fuel
  induction fuel with
  | zero =>
    intro listed a V _ hr hy hS H
    refine ⟨fun h => (by rw [h] at hr; cases hr), fun j hj => ?_⟩
    by_cases hji : j = i
    · subst hji; exact hy.opV hi hS ⟨fun _ => hS, H⟩
    · have := ready_mono hj hji
      rw [H.1] at this
      cases this
  | succ fuel ih =>
    intro listed a V hfree hr hy hS H
    refine ⟨fun h => (by rw [h] at hr; cases hr), fun j hj => ?_⟩
    by_cases hji : j = i
    · subst hji; exact hy.opV hi hS ⟨fun _ => hS, H⟩
    · have h1 := H.2 j (ready_mono hj hji)
      obtain ⟨hjun, oj, hoj, hall⟩ := mem_ready.1 hj
      have hnot : ∀ e ∈ oj.after, Region.binds md e = true → e.on ≠ i := fun e he hb heq => by
        have h1 := hall e he hb
        have h0 := (mem_ready.1 hr).1
        rw [heq] at h1
        rcases Nat.lt_or_ge i listed.size with h' | h'
        · simp [h'] at h0 h1; rw [h0] at h1; cases h1
        · simp [Array.getElem?_eq_none h'] at h1
      have hfj := hfree j oj hoj hji hjun hnot
      have h2 := OpV_putIf hoj hfj.1 (fun cs b => hsel i oi cs b hi) (fun cs b => hsel j oj cs b hoj) hy h1
      have hfree' : ∀ k ok, ops[k]? = some ok → k ≠ i → (listed.setIfInBounds j true).getD k true = false →
          (∀ e ∈ ok.after, Region.binds md e = true → e.on ≠ i) → oi.apart ops ok = true ∧ fin k = false := fun k ok hk hki hun hno => by
        refine hfree k ok hk hki ?_ hno
        by_cases hjk : j = k
        · subst hjk; exact hjun
        · rw [getD_set_ne true hjk] at hun; exact hun
      refine OpV_mono (fun a' V' h3 => ⟨h3.2.1, ih (listed.setIfInBounds j true) a' V' hfree' (ready_mono hr (Ne.symm hji)) h3.1 (h3.2.1 hfj.2) ?_⟩) h2
      rw [Array.setIfInBounds_comm _ _ hji]
      exact h3.2.2
def finFree (md : Region.Mode) (ops : Array Oper) (fin : Nat → Bool) (listed : Array Bool) (i : Nat) : Bool :=
  !fin i && (List.range ops.size).all fun j => j == i || listed.getD j true || ((ops[j]?).map fun o => o.after.any fun e => Region.binds md e && e.on == i).getD true || !fin j
theorem finFree_spec {i : Nat} {listed : Array Bool} (h : finFree md ops fin listed i = true) : fin i = false ∧ ∀ j oj, ops[j]? = some oj → j ≠ i → listed.getD j true = false → (∀ e ∈ oj.after, Region.binds md e = true → e.on ≠ i) → fin j = false := by
  simp only [finFree, Bool.and_eq_true, Bool.not_eq_true', List.all_eq_true, List.mem_range, Bool.or_eq_true, beq_iff_eq] at h
  refine ⟨h.1, fun j oj hj hji hl ha => ?_⟩
  have hlt : j < ops.size := (Array.getElem?_eq_some_iff.1 hj).1
  rcases h.2 j hlt with ((h1 | h1) | h1) | h1
  · exact absurd h1 hji
  · rw [hl] at h1; cases h1
  · rw [hj] at h1
    simp only [Option.map_some, Option.getD_some, Array.any_eq_true'] at h1
    obtain ⟨e, he, h2⟩ := h1
    simp only [Bool.and_eq_true, beq_iff_eq] at h2
    exact absurd h2.2 (ha e he h2.1)
  · exact h1
theorem anyV_take {i : Nat} {oi : Oper} {v : Value} {fuel : Nat} {listed : Array Bool} {a : Act} {V : View} (hi : ops[i]? = some oi)
    (hs : Region.noSelect ops = true) (hf : Region.free md ops listed i = true) (hff : finFree md ops fin listed i = true) (hr : (Region.ready md ops listed).contains i = true)
    (hy : YieldsV P ops S oi v a) (hS : S V) (h : AnyV n P md ops Q S fin fuel (listed.setIfInBounds i true) (a.put oi.dst v) V) : AnyV n P md ops Q S fin (fuel + 1) listed a V :=
  anyV_first hi (finFree_spec hff).1 (Region.noSelect_spec hs) fuel listed a V (fun j oj hj hji hl ha => ⟨Region.free_spec hi hf j oj hj hji hl ha, (finFree_spec hff).2 j oj hj hji hl ha⟩) (by simpa using hr) hy hS h
theorem anyV_all {rs : List Nat} {fuel : Nat} {listed : Array Bool} {a : Act} {V : View} (hr : Region.ready md ops listed = rs) (hne : rs ≠ [])
    (h : ∀ i ∈ rs, OpV n P ops i (fun a' V' => (fin i = false → S V') ∧ AnyV n P md ops Q S fin fuel (listed.setIfInBounds i true) a' V') a V) : AnyV n P md ops Q S fin (fuel + 1) listed a V :=
  ⟨fun h0 => absurd (hr ▸ h0) hne, hr ▸ h⟩
theorem anyV_done {listed : Array Bool} {a : Act} {V : View} (hr : Region.ready md ops listed = []) (h : Q .normal a V) : ∀ fuel, AnyV n P md ops Q S fin fuel listed a V
  | 0 => ⟨hr, h⟩
  | _ + 1 => ⟨fun _ => h, fun i hi => by rw [hr] at hi; cases hi⟩
theorem wpV_draw (hZ : OwnV n P main Z) {id : Nat} {a : Act} {V : View} (hm : P.follows .mixedOrders = true) (S : View → Prop) (fin : Nat → Bool)
    (h : AnyV n P .any ops Q S fin ops.size (Array.replicate ops.size false) a V) : wpV Z (.region id ops true) Q a V := fun b k cs hb hc =>
  hZ _ _ _ fun w hs hl => by
    refine ⟨b.at a (.inRegion ops (Region.schedule (P.follows .mixedOrders) ops (w.tape w.drawn (.order b.fn id))) :: k), cs, { w with drawn := w.drawn + 1 }, #[], V, stepG_region_draw, StepV.same hs hl rfl, ?_⟩
    have e : Region.schedule (P.follows .mixedOrders) ops (w.tape w.drawn (.order b.fn id)) = Region.linearise.go .any ops ops.size (w.tape w.drawn (.order b.fn id)) (Array.replicate ops.size false) [] := by
      simp only [Region.schedule, hm, Bool.true_or, if_true]
      rfl
    rw [e]
    exact anyV_sound hZ ops.size _ _ a V h b k cs hb hc
end
end Go.Co
end

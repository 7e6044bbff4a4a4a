import Derived.Test.YtjdppgogdilgkaaLA
section
namespace Go.Co
open Go.Conc
set_option linter.unusedVariables false
set_option linter.unusedSimpArgs false
variable {wr : Bool}
theorem f_makeMap (t : TypeId) (r : Option Value) : Fine wr (Instr.makeMap t r) := by
  unfold Instr.makeMap
  repeat' (first | with_reducible (first | exact f_pure _ | exact f_newObj _ | exact f_stuck _ | assumption | apply f_underlying | apply f_asInt | apply Fine.bind) | split | with_reducible intro _ | dsimp only)
theorem f_checkKey (b : Bool) : ∀ (d : Nat) (t : TypeId) (v : Value), Fine wr (Instr.checkKey b d t v)
  | 0, t, v => rfl
  | d + 1, t, v => by
    have ih := f_checkKey b d
    unfold Instr.checkKey
    repeat' (first | with_reducible (first | exact f_pure _ | exact f_stuck _ | assumption | apply ih | apply f_underlying | apply f_sizeOf | apply f_part | apply f_typeInfo | apply f_rtp | apply f_typeStr | apply Fine.bind | apply f_arrFor | apply f_rangeFor | apply f_ite) | split | with_reducible intro _ | dsimp only)
theorem f_findAsking (t : TypeId) (k : Value) : ∀ (es : List MapEntry) (i : Nat), Fine wr (Instr.findAsking t k es i)
  | [], i => f_pure _
  | e :: es, i => Fine.bind (f_equal _ _ _) fun _ => f_ite (f_pure _) (f_findAsking t k es (i + 1))
theorem f_findKey (t : TypeId) (k : Value) (es : List MapEntry) : Fine wr (Instr.findKey t k es) := by
  unfold Instr.findKey
  repeat' (first | with_reducible (first | exact f_pure _ | assumption | apply f_findAsking | apply f_underlying | apply Fine.bind) | split | with_reducible intro _ | dsimp only)
theorem f_lookup (t : TypeId) (x i : Value) (b : Bool) : Fine wr (Instr.lookup t x i b) := by
  unfold Instr.lookup
  repeat' (first | with_reducible (first | exact f_pure _ | exact f_getObj _ | exact f_stuck _ | assumption | apply f_checkKey | apply f_findKey | apply f_underlying | apply f_zeroValue | apply Fine.bind) | split | with_reducible intro _ | dsimp only)
theorem f_keyStays (o n : Value) : Fine wr (Instr.keyThatStays o n) := by
  unfold Instr.keyThatStays
  repeat' (first | with_reducible (first | exact f_pure _ | exact f_choose _ | assumption | apply Fine.bind | apply f_ite) | split | with_reducible intro _ | dsimp only)
theorem f_mapUpdate (t : TypeId) (m k v : Value) : Fine true (Instr.mapUpdate t m k v) := by
  unfold Instr.mapUpdate
  repeat' (first | with_reducible (first | exact f_getObj _ | exact f_setObj _ _ | exact f_stuck _ | assumption | apply f_checkKey | apply f_findKey | apply f_keyStays | apply f_underlying | apply f_rtp | apply Fine.bind) | split | with_reducible intro _ | dsimp only)
theorem f_sysEnv : Fine true (sys .env) := ⟨rfl, rfl, fun _ => trivial⟩
theorem f_panicnil : Fine true Instr.panicnil := by
  unfold Instr.panicnil
  refine Fine.bind f_sysEnv fun r => ?_
  cases r <;> first | exact Fine.bind f_program fun _ => f_pure _ | exact f_stuck _
theorem f_panic (v : Value) : Fine true (Instr.panic v) := by
  unfold Instr.panic
  cases v <;> first
    | exact f_goPanic _
    | exact f_stuck _
    | exact Fine.bind f_panicnil fun _ => f_ite (f_goPanic _) (f_rtp _)
theorem f_followBlind : ∀ (l : List FieldStep) (t : TypeId) (x : Option Value), Fine wr (followBlind l t x)
  | [], t, x => f_pure _
  | s :: l, t, x => by
    have ih := f_followBlind l
    unfold followBlind
    repeat' (first | with_reducible (first | exact f_pure _ | exact f_stuck _ | assumption | apply ih | apply f_underlying | apply f_part | apply Fine.bind) | split | with_reducible intro _ | dsimp only)
theorem f_nilAhead : ∀ (d : Nat) (t : TypeId) (v : Value) (s : String), Fine wr (nilAhead d t v s)
  | 0, t, v, s => f_pure _
  | d + 1, t, v, s => by
    have ih := f_nilAhead d
    unfold nilAhead
    repeat' (first | with_reducible (first | exact f_pure _ | exact f_stuck _ | assumption | apply ih | apply f_followBlind | apply f_underlying | apply f_typeInfo | apply Fine.bind) | split | with_reducible intro _ | dsimp only)
def nilCk (x : Value) : Sem Value := match x with
    | .pointer none | .nilIface | .nilFunc => runtimePanic .nilDeref
    | .func (.method name) first captured =>
      match (first[0]? : Option Value) with
      | some .nilIface => runtimePanic .nilDeref
      | some (.iface t w) => do
        if (← nilAhead ((← program).types.size + Made.depth) t w name) != some false then
          unsupported (.noEntry "op/nilCheck.the method's receiver behind this interface value is a nil pointer, or cannot be seen to be none, and the arguments act or may panic (ledger 612)")
        pure (.func (.method name) first captured)
      | _ => pure (.func (.method name) first captured)
    | x => pure x
theorem f_nilCk (x : Value) : Fine wr (nilCk x) := by
  unfold nilCk
  repeat' (first | with_reducible (first | exact f_pure _ | exact f_program | exact f_u1 _ | assumption | apply f_nilAhead | apply f_rtp | apply Fine.bind | apply f_ite) | split | with_reducible intro _ | dsimp only)
theorem sem_assoc {α β γ : Type} (f : α → Sem β) (g : β → Sem γ) : ∀ s : Sem α, Sem.bind (Sem.bind s f) g = Sem.bind s fun a => Sem.bind (f a) g
  | .pure a => rfl
  | .load m a k => congrArg (Sem.load m a) (funext fun v => sem_assoc f g (k v))
  | .store m a v k => congrArg (Sem.store m a v) (sem_assoc f g k)
  | .new o k => congrArg (Sem.new o) (funext fun v => sem_assoc f g (k v))
  | .shape r k => congrArg (Sem.shape r) (funext fun v => sem_assoc f g (k v))
  | .freeze a n k => congrArg (Sem.freeze a n) (sem_assoc f g k)
  | .frozen a k => congrArg (Sem.frozen a) (funext fun v => sem_assoc f g (k v))
  | .getObj r k => congrArg (Sem.getObj r) (funext fun v => sem_assoc f g (k v))
  | .setObj r o k => congrArg (Sem.setObj r o) (sem_assoc f g k)
  | .choose q k => congrArg (Sem.choose q) (funext fun v => sem_assoc f g (k v))
  | .sys c k => congrArg (Sem.sys c) (funext fun v => sem_assoc f g (k v))
  | .program k => congrArg Sem.program (funext fun v => sem_assoc f g (k v))
  | .mark m k => congrArg (Sem.mark m) (sem_assoc f g k)
  | .halt h => rfl
theorem rtp_bind {α β : Type} (f : α → Sem β) : (runtimePanic .nilDeref : Sem β) = Sem.bind (runtimePanic .nilDeref : Sem α) f := by
  unfold runtimePanic
  show Sem.program _ = Sem.bind (Sem.program _) f
  simp only [Sem.bind]
  congr 1
theorem nilCk_eq (dst : Option Tmp) (x : Operand) (ty : TypeId) (pos : String) (af : Array Edge) (gd : Option (Nat × Bool)) (ρ : Operand → Value) : execOp ρ ⟨dst, .nilCheck x, ty, pos, af, gd⟩ = (do pure (Next.value (← nilCk (ρ x))) : Sem Next) := by
  show _ = Sem.bind (nilCk (ρ x)) _
  unfold execOp nilCk
  dsimp only
  generalize ρ x = v
  cases v with
  | func f first captured =>
    cases f with
    | method name =>
      try dsimp only
      generalize first[0]? = o
      cases o with
      | none => rfl
      | some u =>
        cases u <;> first
          | rfl
          | exact rtp_bind _
          | (show Sem.bind _ _ = Sem.bind (Sem.bind _ _) _
             rw [sem_assoc]
             congr 1
             funext p
             show Sem.bind _ _ = Sem.bind (Sem.bind _ _) _
             rw [sem_assoc]
             congr 1
             funext r
             try dsimp only
             split <;> rfl)
    | _ => rfl
  | pointer a => cases a <;> first | rfl | exact rtp_bind _
  | nilIface => exact rtp_bind _
  | nilFunc => exact rtp_bind _
  | _ => rfl
theorem f_unsafeSliceData1 (ts : Array TypeId) (t : TypeId) (v : Value) : Fine wr (Builtin.unsafeSliceData_ ts t #[v]) := by
  unfold Builtin.unsafeSliceData_
  cases v with
  | slice a n c =>
    cases a with
    | none => exact f_pure _
    | some a =>
      exact f_ite (f_pure _) (Fine.bind (f_viewAt _) fun _ => f_ite (f_pure _) (Fine.bind (f_elemOf _) fun _ => Fine.bind (f_newObj _) fun _ => f_pure _))
  | _ => exact f_stuck _
theorem f_unsafeSliceData (ts : Array TypeId) (t : TypeId) (vs : Array Value) : Fine wr (Builtin.unsafeSliceData_ ts t vs) := by
  obtain ⟨l⟩ := vs
  match l with
  | [] => exact f_stuck _
  | [v] => exact f_unsafeSliceData1 ts t v
  | _ :: _ :: _ => exact f_stuck _
theorem f_loadBytes : ∀ (n : Nat) (a : Addr) (acc : ByteArray), Fine wr (loadBytes a acc n)
  | 0, a, acc => f_pure _
  | n + 1, a, acc => by
    have ih := f_loadBytes n
    unfold loadBytes
    repeat' (first | with_reducible (first | exact f_pure _ | exact f_load _ _ | exact f_stuck _ | assumption | apply ih | apply Fine.bind) | split | with_reducible intro _ | dsimp only)
theorem f_unsafeString2 (ts : Array TypeId) (t : TypeId) (p : Option Addr) (x : Value) : Fine wr (Builtin.unsafeString_ ts t #[.pointer p, x]) := by
  refine Fine.bind (s := asInt x) (f_asInt x) fun n => ?_
  cases ts[0]? with
  | none => exact f_stuck _
  | some pt =>
    repeat' (first | with_reducible (first | exact f_pure _ | exact f_freeze _ _ | exact f_stuck _ | exact f_u3 _ | assumption | apply f_loadBytes | apply f_rtp | apply f_elemOf | apply f_asInt | apply f_variablesAt | apply Fine.bind | apply f_ite) | split | with_reducible intro _ | dsimp only)
theorem f_unsafeString (ts : Array TypeId) (t : TypeId) (vs : Array Value) : Fine wr (Builtin.unsafeString_ ts t vs) := by
  obtain ⟨l⟩ := vs
  match l with
  | [] => exact f_stuck _
  | [_] => exact f_stuck _
  | [.pointer p, x] => exact f_unsafeString2 ts t p x
  | [a, b] => cases a <;> first | exact f_unsafeString2 ts t _ b | exact f_stuck _
  | _ :: _ :: _ :: _ => exact f_stuck _
def bT (wr : Bool) : Builtin → Bool
  | .append | .clear | .copy => wr
  | .cap | .len | .max | .min | .unsafeSliceData | .unsafeString => true
  | _ => false
def opT (wr : Bool) (F : FuncId → Bool) : Op → Bool
  | .move _ | .assign _ | .pick .. | .alloc _ | .box .. | .build .. | .buildSlice .. | .load .. | .binOp .. | .unOp .. | .convert .. | .sliceToArrayPointer .. | .makeInterface .. | .makeFunc .. | .makeSlice .. | .slice .. | .fieldAddr .. | .field .. | .indexAddr .. | .index .. | .extract .. | .makeMap .. | .lookup .. | .nilCheck _ => true
  | .store .. | .mapUpdate .. | .panic _ => wr
  | .call { callee := .builtin b, .. } => bT wr b
  | .call { callee := .value (.func k), .. } => F k
  | _ => false
inductive Yields (P : Program) (F : FuncId → Bool) : Next → Prop
  | value (v : Value) : Yields P F (.value v)
  | skip : Yields P F .skip
  | enter (k : FuncId) (args : Array Value) (h : F k = true) (hb : ∃ fn, P.funcs[k]? = some fn ∧ fn.body.isSome = true) : Yields P F (.enter k args)
def ExtFine (wr : Bool) (P : Program) (k : FuncId) : Prop := ∃ fn e, P.funcs[k]? = some fn ∧ fn.body = none ∧ (fn.name == "runtime.NumGoroutine") = false ∧ Extern.findNext fn = none ∧ Extern.find fn = some e ∧ ∀ args, Fine wr (e args)
def Bodied (wr : Bool) (P : Program) (F : FuncId → Bool) : Prop := ∀ k, F k = true → (∃ fn, P.funcs[k]? = some fn ∧ fn.body.isSome = true ∧ (fn.name == "runtime.NumGoroutine") = false) ∨ ExtFine wr P k
theorem ext_run {wr : Bool} {P : Program} {k : FuncId} (args : Array Value) (h : ExtFine wr P k) : ∃ s : Sem Value, Fine wr s ∧ ∀ w, (callFunc k args).runT P w #[] = (do pure (Next.value (← s)) : Sem Next).runT P w #[] := by
  obtain ⟨fn, e, h1, h2, h3, h4, h5, h6⟩ := h
  refine ⟨Sem.mark (.extern k) (e args), ⟨rfl, h6 args⟩, fun w => ?_⟩
  show (Sem.program fun p => _).runT P w #[] = _
  simp only [Sem.runT, Sem.bind]
  rw [h1]
  simp only [h3, h2, h4, h5]
  rfl
theorem fine_value {s : Sem Value} (h : Fine wr s) : Fine wr (do pure (Next.value (← s)) : Sem Next) := Fine.bind h fun _ => trivial
def OpOk (wr : Bool) (P : Program) (F : FuncId → Bool) (n : Nat) (r : Result Next × Array Event) : Prop := EvOk wr r.2 ∧ match r.1 with
  | .ok nx w => Yields P F nx ∧ Low n w
  | .halt h w => HOk n h ∧ Low n w
theorem opOk_value {F : FuncId → Bool} {P : Program} {n : Nat} {s : Sem Value} (h : Fine wr s) {w : World} (hl : Low n w) : OpOk wr P F n ((do pure (Next.value (← s)) : Sem Next).runT P w #[]) := by
  obtain ⟨us, e1, e2, e3⟩ := Fine.runT P n s h w #[] hl
  show OpOk wr P F n (Sem.runT P (Sem.bind s fun v => Sem.pure (Next.value v)) w #[])
  rw [Sem.runT_bind']
  generalize s.runT P w #[] = r at e1 e3
  obtain ⟨r1, r2⟩ := r
  simp only at e1
  subst e1
  rw [Array.empty_append]
  cases r1 with
  | ok v w' => exact ⟨e2, .value v, e3⟩
  | halt hh w' => exact ⟨e2, e3⟩
theorem opOk_bindv {F : FuncId → Bool} {P : Program} {n : Nat} {β : Type} {s : Sem β} {f : β → Value} (h : Fine wr s) {w : World} (hl : Low n w) : OpOk wr P F n ((Sem.bind s fun v => Sem.pure (Next.value (f v))).runT P w #[]) := by
  obtain ⟨us, e1, e2, e3⟩ := Fine.runT P n s h w #[] hl
  rw [Sem.runT_bind']
  generalize s.runT P w #[] = r at e1 e3
  obtain ⟨r1, r2⟩ := r
  simp only at e1
  subst e1
  rw [Array.empty_append]
  cases r1 with
  | ok v w' => exact ⟨e2, .value _, e3⟩
  | halt hh w' => exact ⟨e2, e3⟩
theorem opOk_skip {F : FuncId → Bool} {P : Program} {n : Nat} {s : Sem Unit} (h : Fine wr s) {w : World} (hl : Low n w) : OpOk wr P F n ((do s; pure Next.skip : Sem Next).runT P w #[]) := by
  obtain ⟨us, e1, e2, e3⟩ := Fine.runT P n s h w #[] hl
  show OpOk wr P F n (Sem.runT P (Sem.bind s fun _ => Sem.pure Next.skip) w #[])
  rw [Sem.runT_bind']
  generalize s.runT P w #[] = r at e1 e3
  obtain ⟨r1, r2⟩ := r
  simp only at e1
  subst e1
  rw [Array.empty_append]
  cases r1 with
  | ok v w' => exact ⟨e2, .skip, e3⟩
  | halt hh w' => exact ⟨e2, e3⟩
theorem opOk_pure {F : FuncId → Bool} {P : Program} {n : Nat} (v : Value) {w : World} (hl : Low n w) : OpOk wr P F n ((pure (Next.value v) : Sem Next).runT P w #[]) := ⟨EvOk.nil, .value v, hl⟩
theorem opOk_enter {F : FuncId → Bool} {P : Program} {n : Nat} {k : FuncId} (hk : F k = true) (hb : ∃ fn, P.funcs[k]? = some fn ∧ fn.body.isSome = true) (args : Array Value) {w : World} (hl : Low n w) : OpOk wr P F n ((pure (Next.enter k args) : Sem Next).runT P w #[]) := ⟨EvOk.nil, .enter k args hk hb, hl⟩
theorem exec_tame {F : FuncId → Bool} {P : Program} (hB : Bodied wr P F) {n : Nat} {ρ : Operand → Value} (hρ : ∀ k, ρ (.func k) = .func (.func k) #[] #[]) {o : Oper} (ho : opT wr F o.op = true) {w : World} (hl : Low n w) : OpOk wr P F n ((execOp ρ o).runT P w #[]) := by
  obtain ⟨dst, op, ty, pos, af, gd⟩ := o
  simp only at ho
  cases op with
  | move x => exact opOk_pure _ hl
  | assign x => exact opOk_pure _ hl
  | pick c a b => exact opOk_bindv (f := fun t : Bool => if t = true then ρ a else ρ b) (f_asBool (ρ c)) hl
  | alloc e => exact opOk_value (f_alloc _) hl
  | box e x => exact opOk_value (f_box _ _) hl
  | build t ps => exact opOk_value (f_build _ _) hl
  | buildSlice t l ps => exact opOk_value (f_buildSlice _ _ _) hl
  | load t a => exact opOk_value (f_loadAt _ _) hl
  | store t a x =>
    have hwr : wr = true := ho
    subst hwr
    exact opOk_skip (f_storeAt (wr := true) _ _ _) hl
  | binOp b t x y yt => exact opOk_value (Fine.bind (f_eqGuard _ _ _ _ _ _) fun _ => f_binOp _ _ _ _) hl
  | unOp u t x => exact opOk_value (f_unary _ _) hl
  | convert s d x => exact opOk_value (f_convert _ _ _) hl
  | sliceToArrayPointer a x => exact opOk_value (f_arrayAt _ _) hl
  | makeInterface t x => exact opOk_value (f_makeInterface _ _) hl
  | makeFunc f a c => exact opOk_value (f_makeFunc _ _ _) hl
  | makeSlice t l c => exact opOk_value (f_makeSlice _ _ _) hl
  | slice t x a b c => exact opOk_value (f_sliceAt _ _ _ _ _) hl
  | fieldAddr t x f => exact opOk_value (f_fieldAt _ _ _) hl
  | field t x f => exact opOk_value (f_field _ _ _) hl
  | indexAddr t x i => exact opOk_value (f_indexAt _ _ _) hl
  | index t x i => exact opOk_value (f_index _ _ _) hl
  | extract x i => exact opOk_value (f_extract _ _) hl
  | nilCheck x =>
    rw [nilCk_eq]
    exact opOk_value (f_nilCk _) hl
  | panic x =>
    have hwr : wr = true := ho
    subst hwr
    exact opOk_value (f_panic _) hl
  | makeMap t r => exact opOk_value (f_makeMap _ _) hl
  | lookup t x i b => exact opOk_value (f_lookup _ _ _ _) hl
  | mapUpdate t m k x =>
    have hwr : wr = true := ho
    subst hwr
    exact opOk_skip (f_mapUpdate _ _ _ _) hl
  | call c =>
    obtain ⟨callee, args, argTypes⟩ := c
    cases callee with
    | builtin b =>
      cases b <;> first
        | (simp [opT, bT] at ho; done)
        | (have hwr : wr = true := ho; subst hwr; exact opOk_value (f_append _ _ _) hl)
        | exact opOk_value (f_cap _ _ _) hl
        | (have hwr : wr = true := ho; subst hwr; exact opOk_value (f_clear (wr := true) _ _ _) hl)
        | (have hwr : wr = true := ho; subst hwr; exact opOk_value (f_copy (wr := true) _ _ _) hl)
        | exact opOk_value (f_len _ _ _) hl
        | exact opOk_value (f_max _ _ _) hl
        | exact opOk_value (f_min _ _ _) hl
        | exact opOk_value (f_unsafeSliceData _ _ _) hl
        | exact opOk_value (f_unsafeString _ _ _) hl
    | value x =>
      cases x with
      | func k =>
        have hk : F k = true := ho
        have e : execOp ρ ⟨dst, .call ⟨.value (.func k), args, argTypes⟩, ty, pos, af, gd⟩ = callFunc k (#[] ++ args.map ρ ++ #[]) := by
          show (do let d ← Deferred.ofValue (ρ (.func k)) (args.map ρ); invoke d.target d.args : Sem Next) = _
          rw [hρ]
          rfl
        rw [e]
        rcases hB k hk with ⟨fn, h1, h2, h3⟩ | hX
        · have hb : fn.body.isNone = false := by cases hb : fn.body <;> simp_all
          have e2 : (callFunc k (#[] ++ args.map ρ ++ #[])).runT P w #[] = (pure (Next.enter k (#[] ++ args.map ρ ++ #[])) : Sem Next).runT P w #[] := by
            show (Sem.program fun p => _).runT P w #[] = _
            simp only [Sem.runT, Sem.bind]
            rw [h1]
            simp only [h3, hb]
            rfl
          rw [e2]
          exact opOk_enter hk ⟨fn, h1, h2⟩ _ hl
        · obtain ⟨s, hs, he⟩ := ext_run (#[] ++ args.map ρ ++ #[]) hX
          rw [he]
          exact opOk_value hs hl
      | _ => simp [opT] at ho
    | invoke _ _ => simp [opT] at ho
  | _ => simp [opT] at ho
end Go.Co
end
section
namespace Go.Co
open Go.Conc
set_option linter.unusedVariables false
set_option linter.unusedSimpArgs false
variable {wr : Bool}
def codeT (wr : Bool) (F : FuncId → Bool) : Code → Bool
  | .region _ ops _ => ops.all fun o => opT wr F o.op
  | .seq a b | .cond _ a b => codeT wr F a && codeT wr F b
  | .block _ c | .loop c | .scope c => codeT wr F c
  | .skip | .ret | .label _ | .exit _ | .goto _ | .refuse _ => true
  | _ => false
def itemT (wr : Bool) (F : FuncId → Bool) : Item → Bool
  | .code c | .inLoop c | .inScope c => codeT wr F c
  | .inBlock _ => true
  | .inRegion ops _ => ops.all fun o => opT wr F o.op
  | _ => false
structure TF (wr : Bool) (F : FuncId → Bool) (fr : Frame) : Prop where
  kind : fr.kind = .normal
  defers : fr.defers = []
  round : fr.roundOf = none
  todo : ∀ it ∈ fr.todo, itemT wr F it = true
theorem exitTo_sub {id : Nat} : ∀ {k k' : List Item}, exitTo id k = some k' → ∀ x ∈ k', x ∈ k
  | [], _, h, _, _ => by simp [exitTo] at h
  | it :: k, k', h, x, hx => by
    cases it <;> simp only [exitTo] at h
    case inBlock id' =>
      split at h
      · injection h with h; subst h; exact List.mem_cons_of_mem _ hx
      · exact List.mem_cons_of_mem _ (exitTo_sub h x hx)
    all_goals exact List.mem_cons_of_mem _ (exitTo_sub h x hx)
theorem findLabel_tame {F : FuncId → Bool} {l : Nat} : ∀ {c r : Code}, codeT wr F c = true → findLabel c l = some r → codeT wr F r = true
  | .seq a b, r, hc, h => by
    simp only [codeT, Bool.and_eq_true] at hc
    simp only [findLabel] at h
    cases ha : findLabel a l with
    | some r' =>
      rw [ha] at h
      injection h with h
      subst h
      simp only [codeT, Bool.and_eq_true]
      exact ⟨findLabel_tame hc.1 ha, hc.2⟩
    | none => rw [ha] at h; exact findLabel_tame hc.2 h
  | .label l', r, hc, h => by
    simp only [findLabel] at h
    split at h
    · injection h with h; subst h; rfl
    · cases h
  | .skip, _, _, h | .region .., _, _, h | .cond .., _, _, h | .block .., _, _, h | .loop .., _, _, h | .rangeFunc .., _, _, h | .exit .., _, _, h | .scope .., _, _, h | .goto .., _, _, h | .ret, _, _, h | .refuse .., _, _, h => by simp [findLabel] at h
theorem gotoIn_tame {F : FuncId → Bool} {l : Nat} : ∀ {k k' : List Item}, (∀ x ∈ k, itemT wr F x = true) → gotoIn l k = some k' → ∀ x ∈ k', itemT wr F x = true
  | [], _, _, h => by simp [gotoIn] at h
  | it :: k, k', hk, h => by
    have hk2 : ∀ x ∈ k, itemT wr F x = true := fun x hx => hk x (List.mem_cons_of_mem _ hx)
    have h0 := hk it List.mem_cons_self
    cases it <;> simp only [gotoIn] at h
    case inScope body =>
      cases hf : findLabel body l with
      | some r =>
        rw [hf] at h
        injection h with h
        subst h
        intro x hx
        rcases List.mem_cons.1 hx with rfl | hx
        · exact findLabel_tame (c := body) h0 hf
        · rcases List.mem_cons.1 hx with rfl | hx
          · exact h0
          · exact hk2 x hx
      | none => rw [hf] at h; exact gotoIn_tame hk2 h
    all_goals exact gotoIn_tame hk2 h
theorem seen_ok {P : Program} {fn : FuncId} {es : Array Event} (h : EvOk wr es) : EvOk wr (seen P fn es) := fun e he => h e (mem_seen he)
section
variable (wr : Bool) (P : Program) (F : FuncId → Bool) (n : Nat)
def Run1 (fr : Frame) (X : List Frame) (w : World) : Prop := ∃ fr' X' w' es, TF wr F fr' ∧ (∀ x ∈ X', TF wr F x ∧ x.mode = .run) ∧ Low n w' ∧ EvOk wr es ∧ ∀ main tail, stepG P main (G fr (X ++ tail)) w = .go (G fr' (X' ++ tail)) w' es
def End1 (fr : Frame) (X : List Frame) (w : World) : Prop := ∀ main tail, ∃ o w' es, stepG P main (G fr (X ++ tail)) w = .ended o w' es
end
def NoEarly (P : Program) (n : Nat) : Prop := ∀ g, n ≤ g → P.stepOf g = none
section
variable {P : Program} {F : FuncId → Bool} {n : Nat}
theorem tame_tail {F : FuncId → Bool} {it : Item} {k : List Item} (h : ∀ x ∈ it :: k, itemT wr F x = true) : ∀ x ∈ k, itemT wr F x = true := fun x hx => h x (List.mem_cons_of_mem _ hx)
theorem tame_cons {F : FuncId → Bool} {it : Item} {k : List Item} (h0 : itemT wr F it = true) (h : ∀ x ∈ k, itemT wr F x = true) : ∀ x ∈ it :: k, itemT wr F x = true := fun x hx => by
  rcases List.mem_cons.1 hx with rfl | hx
  · exact h0
  · exact h x hx
theorem run1_to {fn : FuncId} {tmps : Array Value} {todo : List Item} {fr' : Frame} {X : List Frame} {w w' : World} (hX : ∀ x ∈ X, TF wr F x ∧ x.mode = .run) (hf : TF wr F fr') (hl : Low n w')
    (h : ∀ main tail, stepG P main (G { fn, tmps, todo, defers := [], mode := .run, kind := .normal } (X ++ tail)) w = .go (G fr' (X ++ tail)) w' #[]) : Run1 wr P F n { fn, tmps, todo, defers := [], mode := .run, kind := .normal } X w :=
  ⟨fr', X, w', #[], hf, hX, hl, EvOk.nil, h⟩
theorem raise_TF {F : FuncId → Bool} {fr : Frame} (h : TF wr F fr) (c : List PanicEntry) : TF wr F (fr.raise c) := by
  unfold Frame.raise
  split <;> exact ⟨h.kind, h.defers, h.round, h.todo⟩
theorem enter_TF {F : FuncId → Bool} {P : Program} {k : FuncId} {fn : Func} {c : Code} (hf : P.funcs[k]? = some fn) (hb : fn.body = some c) (hc : codeT wr F c = true) (args : Array Value) : TF wr F (Frame.enter P k args .normal) := by
  refine ⟨rfl, rfl, rfl, fun it hit => ?_⟩
  simp only [Frame.enter, hf, Option.bind_some, hb, Option.getD_some, List.mem_singleton] at hit
  subst hit
  exact hc
def TameP (wr : Bool) (P : Program) (F : FuncId → Bool) : Prop := ∀ k, F k = true → (∃ fn c, P.funcs[k]? = some fn ∧ fn.body = some c ∧ codeT wr F c = true ∧ (fn.name == "runtime.NumGoroutine") = false) ∨ ExtFine wr P k
theorem TameP.body {wr : Bool} {P : Program} {F : FuncId → Bool} (h : TameP wr P F) {k : FuncId} (hk : F k = true) (hb : ∃ fn, P.funcs[k]? = some fn ∧ fn.body.isSome = true) : ∃ fn c, P.funcs[k]? = some fn ∧ fn.body = some c ∧ codeT wr F c = true ∧ (fn.name == "runtime.NumGoroutine") = false := by
  rcases h k hk with h | ⟨fn, e, h1, h2, _⟩
  · exact h
  · obtain ⟨fn', h3, h4⟩ := hb
    rw [h1] at h3
    injection h3 with h3
    subst h3
    rw [h2] at h4; cases h4
theorem TameP.bodied (h : TameP wr P F) : Bodied wr P F := fun k hk => by
  rcases h k hk with ⟨fn, c, h1, h2, h3, h4⟩ | h
  · exact .inl ⟨fn, h1, by rw [h2]; rfl, h4⟩
  · exact .inr h
theorem early_step (hE : NoEarly P n) {fr : Frame} {X : List Frame} {g : Nat} {w : World} (hg : n ≤ g) (hl : Low n w) (hf : TF wr F fr) (hX : ∀ x ∈ X, TF wr F x ∧ x.mode = .run) :
    (∃ w', Low n w' ∧ ∀ tail, early P fr (X ++ tail) none g w = .go { frame := fr, callers := X ++ tail, status := .running, dying := none } w' #[]) ∨ ∀ tail, ∃ o w', early P fr (X ++ tail) none g w = .ended o w' #[] := by
  unfold early
  simp only [hE g hg]
  split
  · split
    · next c e he => exact .inl ⟨_, hl.cells _ _ _ _, fun tail => rfl⟩
    · exact .inr fun tail => ⟨_, _, rfl⟩
  · exact .inr fun tail => ⟨_, _, rfl⟩
theorem oper_step (hT : TameP wr P F) (hE : NoEarly P n) {b : Frame} {a : Act} {ops : Array Oper} {i : Nat} {rest : List Nat} {k : List Item} {o : Oper} {X : List Frame} {w : World} (hb : b.kind = .normal) (ha : a.defers = [])
    (ho : ops[i]? = some o) (hops : (ops.all fun o => opT wr F o.op) = true) (hw : Region.wanted o (yielded ops a.tmps) = true) (hk : ∀ x ∈ k, itemT wr F x = true) (hX : ∀ x ∈ X, TF wr F x ∧ x.mode = .run) (hl : Low n w) :
    Run1 wr P F n (b.at a (.inRegion ops (i :: rest) :: k)) X w ∨ End1 P (b.at a (.inRegion ops (i :: rest) :: k)) X w := by
  have hop : opT wr F o.op = true := by
    have := Array.all_eq_true_iff_forall_mem.1 hops o (Array.mem_of_getElem? ho)
    exact this
  have hfr : TF wr F (b.at a (.inRegion ops (i :: rest) :: k)) := ⟨hb, ha, rfl, tame_cons (by exact hops) hk⟩
  have hfin : ∀ v, TF wr F ((b.at a (.inRegion ops (i :: rest) :: k)).finish v) := fun v => ⟨hb, ha, rfl, tame_cons (F := F) (it := .inRegion ops rest) (by exact hops) hk⟩
  have hke : ((b.at a (.inRegion ops (i :: rest) :: k)).kind == CallKind.early) = false := by
    show (b.kind == CallKind.early) = false
    rw [hb]; rfl
  obtain ⟨hev, hr⟩ := exec_tame (n := n) hT.bodied (ρ := a.eval) (fun _ => rfl) hop hl
  have hst : ∀ main tail, stepG P main (G (b.at a (.inRegion ops (i :: rest) :: k)) (X ++ tail)) w = stepG.apply P true (b.at a (.inRegion ops (i :: rest) :: k)) (X ++ tail) none (execOp a.eval o) w := fun main tail => stepG_oper ho hw
  generalize he : (execOp a.eval o).runT P w #[] = r at hev hr
  obtain ⟨res, es⟩ := r
  cases res with
  | ok nx w' =>
    obtain ⟨hy, hl'⟩ := hr
    cases hy with
    | value v =>
      refine .inl ⟨_, X, w', seen P b.fn es, hfin v, hX, hl', seen_ok hev, fun main tail => ?_⟩
      rw [hst, stepG.apply]
      simp only [if_true, he, hke, Bool.false_eq_true, if_false, GStep.after, Array.append_empty, G]
      rfl
    | skip =>
      refine .inl ⟨_, X, w', seen P b.fn es, hfin undef, hX, hl', seen_ok hev, fun main tail => ?_⟩
      rw [hst, stepG.apply]
      simp only [if_true, he, hke, Bool.false_eq_true, if_false, GStep.after, Array.append_empty, G]
      rfl
    | enter k' args hk' hb' =>
      obtain ⟨fn, c, h1, h2, h3, h4⟩ := hT.body hk' hb'
      refine .inl ⟨_, b.at a (.inRegion ops (i :: rest) :: k) :: X, w', seen P b.fn es, enter_TF h1 h2 h3 args, ?_, hl', seen_ok hev, fun main tail => ?_⟩
      · intro x hx
        rcases List.mem_cons.1 hx with rfl | hx
        · exact ⟨hfr, rfl⟩
        · exact hX x hx
      · rw [hst, stepG.apply]
        simp only [if_true, he, hke, Bool.false_eq_true, if_false, GStep.after, Array.append_empty, G]
        rfl
  | halt h w' =>
    obtain ⟨hh, hl'⟩ := hr
    rcases hh with hh | ⟨g, rfl, hg⟩
    · cases h with
      | panic v =>
        refine .inl ⟨_, X, w', seen P b.fn es, raise_TF hfr [{ v, recovered := false }], hX, hl', seen_ok hev, fun main tail => ?_⟩
        rw [hst, stepG.apply]
        simp only [if_true, he, hke, Bool.false_eq_true, if_false, GStep.after, Array.append_empty, G]
        rfl
      | stuck s =>
        refine .inr fun main tail => ⟨.stuck s ((b.at a (.inRegion ops (i :: rest) :: k)).pos P), w', seen P b.fn es, ?_⟩
        rw [hst, stepG.apply]
        simp only [if_true, he, hke, Bool.false_eq_true, if_false, GStep.after, Array.append_empty, G]
        rfl
      | unsupported u =>
        refine .inr fun main tail => ⟨.unsupported u ((b.at a (.inRegion ops (i :: rest) :: k)).pos P), w', seen P b.fn es, ?_⟩
        rw [hst, stepG.apply]
        cases u <;> first
          | (simp [hOk] at hh; done)
          | (simp only [if_true, he, hke, Bool.false_eq_true, if_false, GStep.after, Array.append_empty, G]; rfl)
      | _ => simp [hOk] at hh
    · rcases early_step (P := P) (F := F) hE (fr := b.at a (.inRegion ops (i :: rest) :: k)) (X := X) hg hl' hfr hX with ⟨w2, h1, h2⟩ | h2
      · refine .inl ⟨_, X, w2, #[], hfr, hX, h1, EvOk.nil, fun main tail => ?_⟩
        rw [hst, stepG.apply]
        simp only [if_true, he, hke, Bool.false_eq_true, if_false, h2, GStep.after, Array.append_empty, G]
        rfl
      · refine .inr fun main tail => ?_
        obtain ⟨o', w2, h3⟩ := h2 tail
        refine ⟨o', w2, #[], ?_⟩
        rw [hst, stepG.apply]
        simp only [if_true, he, hke, Bool.false_eq_true, if_false, h3, GStep.after, Array.append_empty, G]
        rfl
theorem drew_low {w : World} (h : Low n w) (k : Nat) : Low n { w with drawn := k } := h
theorem run_step (hT : TameP wr P F) (hE : NoEarly P n) {b : Frame} {a : Act} {todo : List Item} {X : List Frame} {w : World} (hb : b.kind = .normal) (ha : a.defers = [])
    (hk : ∀ x ∈ todo, itemT wr F x = true) (hX : ∀ x ∈ X, TF wr F x ∧ x.mode = .run) (hl : Low n w) :
    Run1 wr P F n (b.at a todo) X w ∨ End1 P (b.at a todo) X w := by
  have tf : ∀ t : List Item, (∀ x ∈ t, itemT wr F x = true) → TF wr F (b.at a t) := fun t h => ⟨hb, ha, rfl, h⟩
  have go : ∀ t : List Item, (∀ x ∈ t, itemT wr F x = true) → (∀ main tail, stepG P main (G (b.at a todo) (X ++ tail)) w = .go (G (b.at a t) (X ++ tail)) w #[]) → Run1 wr P F n (b.at a todo) X w := fun t h1 h2 => ⟨_, X, w, #[], tf t h1, hX, hl, EvOk.nil, h2⟩
  have tr : ∀ t : List Item, (∀ x ∈ t, itemT wr F x = true) → TF wr F { b.at a t with mode := .returning } := fun t h => ⟨hb, ha, rfl, h⟩
  cases todo with
  | nil => exact .inl ⟨{ b.at a [] with mode := .returning }, X, w, #[], tr _ hk, hX, hl, EvOk.nil, fun main tail => stepG_end⟩
  | cons it k =>
    have h0 := hk it List.mem_cons_self
    have hk2 := tame_tail hk
    cases it with
    | code c =>
      cases c with
      | skip => exact .inl (go k hk2 fun main tail => stepG_skip)
      | label l => exact .inl (go k hk2 fun main tail => stepG_label)
      | seq x y =>
        simp only [itemT, codeT, Bool.and_eq_true] at h0
        exact .inl (go _ (tame_cons (it := .code x) h0.1 (tame_cons (it := .code y) h0.2 hk2)) fun main tail => stepG_seq)
      | cond c x y =>
        simp only [itemT, codeT, Bool.and_eq_true] at h0
        cases hc : a.eval c with
        | bool t =>
          refine .inl (go (.code (if t then x else y) :: k) (tame_cons ?_ hk2) fun main tail => stepG_cond hc)
          cases t
          · exact h0.2
          · exact h0.1
        | _ =>
          refine .inr fun main tail => ⟨.stuck "cond: bool expected" ((b.at a (.code (.cond c x y) :: k)).pos P), w, #[], ?_⟩
          have h' : (b.at a (.code (.cond c x y) :: k)).eval c = a.eval c := Frame.eval_at b a _ c
          simp only [Frame.at] at h'
          simp only [G, stepG, stepG.exec, Frame.at]
          rw [h', hc]
      | block id c => exact .inl (go _ (tame_cons (by exact h0) (tame_cons rfl hk2)) fun main tail => stepG_block)
      | loop c => exact .inl (go _ (tame_cons (by exact h0) (tame_cons (by exact h0) hk2)) fun main tail => stepG_loop)
      | scope c => exact .inl (go (.code c :: .inScope c :: k) (tame_cons (by exact h0) (tame_cons (by exact h0) hk2)) fun main tail => by simp [G, stepG, stepG.exec, Frame.at])
      | exit id =>
        cases he : exitTo id k with
        | some k' => exact .inl (go k' (fun x hx => hk2 x (exitTo_sub he x hx)) fun main tail => stepG_exit he)
        | none => exact .inr fun main tail => ⟨.stuck "exit, goto: no such block or label" ((b.at a (.code (.exit id) :: k)).pos P), w, #[], by simp [G, stepG, stepG.exec, Frame.at, he]⟩
      | goto l =>
        cases he : gotoIn l k with
        | some k' => exact .inl (go k' (gotoIn_tame hk2 he) fun main tail => by simp [G, stepG, stepG.exec, Frame.at, he])
        | none => exact .inr fun main tail => ⟨.stuck "exit, goto: no such block or label" ((b.at a (.code (.goto l) :: k)).pos P), w, #[], by simp [G, stepG, stepG.exec, Frame.at, he]⟩
      | ret => exact .inl ⟨{ b.at a (.code .ret :: k) with mode := .returning }, X, w, #[], tr _ hk, hX, hl, EvOk.nil, fun main tail => by simp [G, stepG, stepG.exec, Frame.at]⟩
      | region id ops draw =>
        cases draw with
        | false => exact .inl (go (.inRegion ops (List.range ops.size) :: k) (tame_cons (by exact h0) hk2) fun main tail => stepG_region)
        | true =>
          refine .inl ⟨b.at a (.inRegion ops (Region.schedule (P.follows .mixedOrders) ops (w.tape w.drawn (.order b.fn id))) :: k), X, { w with drawn := w.drawn + 1 }, #[], tf _ (tame_cons (by exact h0) hk2), hX, hl, EvOk.nil, fun main tail => ?_⟩
          simp [G, stepG, stepG.exec, Frame.at, choose, Sem.run, Question.forced, Question.cut]
      | rangeFunc f ps as body => simp [itemT, codeT] at h0
      | refuse why => exact .inr fun main tail => ⟨_, _, _, by simp only [G, stepG, stepG.exec, Frame.at]; rfl⟩
    | inBlock id => exact .inl (go k hk2 fun main tail => stepG_inBlock)
    | inLoop c => exact .inl (go _ (tame_cons (by exact h0) (tame_cons (by exact h0) hk2)) fun main tail => stepG_inLoop)
    | inScope c => exact .inl (go k hk2 fun main tail => by simp [G, stepG, stepG.exec, Frame.at])
    | inRegion ops l =>
      cases l with
      | nil => exact .inl (go k hk2 fun main tail => stepG_region_end)
      | cons i rest =>
        cases ho : ops[i]? with
        | none =>
          refine .inl ⟨(b.at a (.inRegion ops (i :: rest) :: k)).finish undef, X, w, #[], ⟨hb, ha, rfl, tame_cons (F := F) (it := .inRegion ops rest) (by exact h0) hk2⟩, hX, hl, EvOk.nil, fun main tail => ?_⟩
          simp [G, stepG, stepG.exec, Frame.at, ho]
        | some o =>
          cases hw : Region.wanted o (yielded ops a.tmps) with
          | true => exact oper_step hT hE hb ha ho (by exact h0) hw hk2 hX hl
          | false =>
            refine .inl ⟨(b.at a (.inRegion ops (i :: rest) :: k)).finish undef, X, w, #[], ⟨hb, ha, rfl, tame_cons (F := F) (it := .inRegion ops rest) (by exact h0) hk2⟩, hX, hl, EvOk.nil, fun main tail => ?_⟩
            simp [G, stepG, stepG.exec, Frame.at, ho, hw]
    | _ => simp [itemT] at h0
end
end Go.Co
end
section
namespace Go.Co
open Go.Conc
set_option linter.unusedVariables false
set_option linter.unusedSimpArgs false
variable {wr : Bool}
section
variable {P : Program} {F : FuncId → Bool} {n : Nat}
theorem f_results (fn : Func) (tmps : Array Value) : Fine wr (results fn tmps) := by
  unfold results
  refine Fine.bind (f_arrMapM (fun r => ?_) _) fun vs => f_pure _
  cases r with
  | tmp t => exact f_pure _
  | cell a t => exact Fine.bind (f_asAddr _) fun _ => f_loadVar _ _
theorem unwind_step {fr : Frame} {c : Frame} {X : List Frame} {w : World} (hf : TF wr F fr) (hm : ∀ _ : fr.mode = .run, False) (hc : TF wr F c) (hX : ∀ x ∈ X, TF wr F x ∧ x.mode = .run) (hl : Low n w) :
    Run1 wr P F n fr (c :: X) w ∨ End1 P fr (c :: X) w := by
  obtain ⟨fn, tmps, todo, defers, mode, kind, roundOf⟩ := fr
  obtain ⟨hk, hd, hr, ht⟩ := hf
  simp only at hk hd hr ht hm
  subst hk hd hr
  have hcf : ∀ v, TF wr F (c.finish v) := fun v => by
    obtain ⟨cfn, ctmps, ctodo, cdefers, cmode, ckind, croundOf⟩ := c
    obtain ⟨k1, k2, k3, k4⟩ := hc
    simp only at k1 k2 k3 k4
    subst k1 k2 k3
    cases ctodo with
    | nil => exact ⟨rfl, rfl, rfl, k4⟩
    | cons it k =>
      have h0 := k4 it List.mem_cons_self
      have hk2 := tame_tail k4
      cases it <;> first
        | (simp [itemT] at h0; done)
        | exact ⟨rfl, rfl, rfl, k4⟩
        | skip
      case inRegion ops l =>
        cases l with
        | nil => exact ⟨rfl, rfl, rfl, k4⟩
        | cons i rest => exact ⟨rfl, rfl, rfl, tame_cons (F := F) (it := .inRegion ops rest) (by exact h0) hk2⟩
  cases mode with
  | run => exact (hm rfl).elim
  | panicking chain =>
    have hcat : Frame.catches P { fn, tmps, todo, defers := [], mode := .panicking chain, kind := .normal, roundOf := none } = false := by
      unfold Frame.catches
      split
      · next d wr rs sv k hn hh =>
        simp only at hh
        have := ht (.call d wr rs sv) (by rw [hh]; exact List.mem_cons_self)
        simp [itemT] at this
      · rfl
    exact .inl ⟨c.raise chain, X, w, #[], raise_TF hc chain, hX, hl, EvOk.nil, fun main tail => by simp [G, stepG, unwind, hcat]⟩
  | returning =>
    cases hfn : P.funcs[fn]? with
    | none => exact .inl ⟨c.finish (tmps.getD 0 undef), X, w, #[], hcf _, hX, hl, EvOk.nil, fun main tail => by simp [G, stepG, unwind, doReturn, hfn]⟩
    | some f =>
      obtain ⟨us, e1, e2, e3⟩ := Fine.runT (wr := wr) P n (results f tmps) (f_results f tmps) w #[] hl
      generalize he : (results f tmps).runT P w #[] = r at e1 e3
      obtain ⟨r1, r2⟩ := r
      simp only at e1
      subst e1
      cases r1 with
      | ok v w' =>
        refine .inl ⟨c.finish v, X, w', seen P fn (#[] ++ us), hcf v, hX, e3, seen_ok (by simpa using e2), fun main tail => ?_⟩
        simp only [G, stepG, unwind, hfn, he, GStep.after, doReturn, List.cons_append]
        simp
      | halt h w' =>
        refine .inr fun main tail => ?_
        cases h <;> exact ⟨_, _, _, by simp only [G, stepG, unwind, hfn, he, GStep.after]; rfl⟩
end
end Go.Co
end
section
namespace Go.Co
open Go.Conc
set_option linter.unusedVariables false
set_option linter.unusedSimpArgs false
variable {wr : Bool}
inductive Own (wr : Bool) (P : Program) : Frame → List Frame → World → Frame → List Frame → World → Prop
  | refl (fr : Frame) (X : List Frame) (w : World) : Own wr P fr X w fr X w
  | step {fr : Frame} {X : List Frame} {w : World} {fr1 : Frame} {X1 : List Frame} {w1 : World} {fr2 : Frame} {X2 : List Frame} {w2 : World} {es : Array Event}
      (h : ∀ main tail, stepG P main (G fr (X ++ tail)) w = .go (G fr1 (X1 ++ tail)) w1 es) (he : EvOk wr es) (r : Own wr P fr1 X1 w1 fr2 X2 w2) : Own wr P fr X w fr2 X2 w2
section
variable {P : Program} {F : FuncId → Bool} {n : Nat}
def stopper : Frame := { fn := 0, tmps := #[], todo := [.code (.refuse "")], defers := [{ target := .nil, args := #[] }], mode := .run, kind := .normal }
theorem step_ended_of {fr : Frame} {cs : List Frame} {w w' : World} {o : Outcome} {es : Array Event} (h : stepG P true (G fr cs) w = .ended o w' es) : step P (lone fr cs w) = .ended o w' :=
  step_lone_ended (by rw [show ({ frame := fr, callers := cs, status := .running, dying := none } : Goroutine) = G fr cs from rfl, h]; rfl)
theorem step_go_of {fr fr' : Frame} {cs cs' : List Frame} {w w' : World} {es : Array Event} (h : stepG P true (G fr cs) w = .go (G fr' cs') w' es) : step P (lone fr cs w) = .next (lone fr' cs' w') :=
  step_lone_go (by rw [show ({ frame := fr, callers := cs, status := .running, dying := none } : Goroutine) = G fr cs from rfl, h]; rfl)
theorem step_stopper {w : World} : ∃ o, step P (lone stopper [] w) = .ended o w := ⟨_, step_ended_of (es := #[]) (by simp only [stopper, G, stepG, stepG.exec]; rfl)⟩
theorem step_stopper_panic {c : List PanicEntry} {w : World} : ∃ o w', step P (lone (stopper.raise c) [] w) = .ended o w' := ⟨_, _, step_ended_of (es := #[]) (by simp [stopper, Frame.raise, G, stepG, unwind, callDeferred]; exact ⟨rfl, rfl⟩)⟩
theorem lift_run (hT : TameP wr P F) (hE : NoEarly P n) {fr1 : Frame} {w1 : World} {v : Value} (hlv : fr1.leaving P w1 (.returned v)) : ∀ (N : Nat) (fr : Frame) (X : List Frame) (w : World), TF wr F fr → (∀ x ∈ X, TF wr F x ∧ x.mode = .run) → Low n w →
    runN P N (lone fr (X ++ [stopper]) w) = .next (lone fr1 [stopper] w1) → Own wr P fr X w fr1 [] w1 ∧ TF wr F fr1 ∧ Low n w1
  | 0, fr, X, w, hf, hX, hl, h => by
    simp only [runN, Stepped.next.injEq] at h
    have h1 : fr = fr1 := by
      have := congrArg (fun m => (m.gs[0]?).map (·.frame)) h
      simpa [lone] using this
    have h2 : X ++ [stopper] = [stopper] := by
      have := congrArg (fun m => (m.gs[0]?).map (·.callers)) h
      simpa [lone] using this
    have h3 : w = w1 := by
      have := congrArg (fun m => m.world) h
      simpa [lone] using this
    have h4 : X = [] := by
      have := congrArg List.length h2
      simp at this
      exact this
    subst h1 h3 h4
    exact ⟨.refl _ _ _, hf, hl⟩
  | N + 1, fr, X, w, hf, hX, hl, h => by
    have key : Run1 wr P F n fr X w ∨ End1 P fr X w → Own wr P fr X w fr1 [] w1 ∧ TF wr F fr1 ∧ Low n w1 := by
      rintro (⟨fr', X', w', es, k1, k2, k3, k4, k5⟩ | k)
      · simp only [runN, step_go_of (k5 true [stopper])] at h
        obtain ⟨r1, r2, r3⟩ := lift_run hT hE hlv N fr' X' w' k1 k2 k3 h
        exact ⟨.step k5 k4 r1, r2, r3⟩
      · obtain ⟨o, w', es, k5⟩ := k true [stopper]
        simp only [runN, step_ended_of k5] at h
        cases h
    have last : ∀ {c : Frame} {w' : World}, step P (lone fr (X ++ [stopper]) w) = .next (lone c [] w') → (∃ o w'', step P (lone c [] w') = .ended o w'') → False := by
      intro c w' k1 ⟨o, w'', k2⟩
      simp only [runN, k1] at h
      cases N with
      | zero =>
        simp only [runN, Stepped.next.injEq] at h
        have := congrArg (fun m => (m.gs[0]?).map (·.callers)) h
        simp [lone] at this
      | succ N => simp only [runN, k2] at h; cases h
    cases hm : fr.mode with
    | run =>
      obtain ⟨fn, tmps, todo, defers, mode, kind, roundOf⟩ := fr
      obtain ⟨e1, e2, e3, e4⟩ := hf
      simp only at e1 e2 e3 e4 hm
      subst e1 e2 e3 hm
      exact key (run_step (b := { fn, tmps, todo, defers := [], mode := .run, kind := .normal }) (a := { tmps, defers := [] }) hT hE rfl rfl e4 hX hl)
    | returning =>
      cases X with
      | cons c X =>
        exact key (unwind_step hf (fun e => by rw [hm] at e; cases e) (hX c List.mem_cons_self).1 (fun x hx => hX x (List.mem_cons_of_mem _ hx)) hl)
      | nil =>
        exfalso
        obtain ⟨fn, tmps, todo, defers, mode, kind, roundOf⟩ := fr
        obtain ⟨e1, e2, e3, e4⟩ := hf
        simp only at e1 e2 e3 e4 hm
        subst e1 e2 e3 hm
        cases hfn : P.funcs[fn]? with
        | none =>
          refine last (c := stopper) (w' := w) (step_go_of (es := #[]) ?_) ⟨_, _, (step_stopper (P := P) (w := w)).choose_spec⟩
          simp [G, stepG, unwind, doReturn, hfn, stopper, Frame.finish]
        | some f =>
          obtain ⟨us, k1, k2, k3⟩ := Fine.runT (wr := wr) P n (results f tmps) (f_results f tmps) w #[] hl
          generalize he : (results f tmps).runT P w #[] = r at k1 k3
          obtain ⟨r1, r2⟩ := r
          simp only at k1
          subst k1
          cases r1 with
          | ok v w' =>
            refine last (c := stopper) (w' := w') (step_go_of (es := seen P fn (#[] ++ us)) ?_) ⟨_, _, (step_stopper (P := P) (w := w')).choose_spec⟩
            simp only [G, stepG, unwind, hfn, he, GStep.after, doReturn, List.nil_append, stopper, Frame.finish]
            simp
          | halt hh w' =>
            have : ∃ o w'' es, stepG P true (G { fn, tmps, todo, defers := [], mode := .returning, kind := .normal, roundOf := none } ([] ++ [stopper])) w = .ended o w'' es := by
              cases hh <;> exact ⟨_, _, _, by simp only [G, stepG, unwind, hfn, he, GStep.after]; rfl⟩
            obtain ⟨o, w'', es, k5⟩ := this
            simp only [runN, step_ended_of k5] at h
            cases h
    | panicking chain =>
      cases X with
      | cons c X =>
        exact key (unwind_step hf (fun e => by rw [hm] at e; cases e) (hX c List.mem_cons_self).1 (fun x hx => hX x (List.mem_cons_of_mem _ hx)) hl)
      | nil =>
        exfalso
        obtain ⟨fn, tmps, todo, defers, mode, kind, roundOf⟩ := fr
        obtain ⟨e1, e2, e3, e4⟩ := hf
        simp only at e1 e2 e3 e4 hm
        subst e1 e2 e3 hm
        have hcat : Frame.catches P { fn, tmps, todo, defers := [], mode := .panicking chain, kind := .normal, roundOf := none } = false := by
          unfold Frame.catches
          split
          · next d wr rs sv k hn hh =>
            simp only at hh
            have := e4 (.call d wr rs sv) (by rw [hh]; exact List.mem_cons_self)
            simp [itemT] at this
          · rfl
        exact last (c := stopper.raise chain) (w' := w) (step_go_of (es := #[]) (by simp [G, stepG, unwind, hcat])) step_stopper_panic
theorem lift_calls (hT : TameP wr P F) (hE : NoEarly P n) {f : FuncId} {args : Array Value} {w : World} {R : Ending → World → Prop} (hC : Calls P f args w R) (hF : F f = true) (hbd : ∃ fn, P.funcs[f]? = some fn ∧ fn.body.isSome = true) (hl : Low n w) (hR : ∀ e w', R e w' → ∃ v, e = .returned v) :
    ∃ v w' fr, R (.returned v) w' ∧ fr.fn = f ∧ fr.leaving P w' (.returned v) ∧ Own wr P (Frame.enter P f args .normal) [] w fr [] w' ∧ TF wr F fr ∧ Low n w' := by
  obtain ⟨e, w', fr, hr, hc, hfn, hlv⟩ := hC [stopper]
  obtain ⟨v, rfl⟩ := hR e w' hr
  obtain ⟨N, hN⟩ := hc
  obtain ⟨fn, c, h1, h2, h3, h4⟩ := hT.body hF hbd
  obtain ⟨k1, k2, k3⟩ := lift_run hT hE hlv N _ [] w (enter_TF h1 h2 h3 args) (fun x hx => by cases hx) hl hN
  exact ⟨v, w', fr, hr, hfn, hlv, k1, k2, k3⟩
end
end Go.Co
end

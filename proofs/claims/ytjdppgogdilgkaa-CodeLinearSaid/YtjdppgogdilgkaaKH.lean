import Derived.Test.YtjdppgogdilgkaaKG
import Derived.Conc.SmallLaws
section
namespace Go.Co
open Go.Conc
set_option linter.unusedVariables false
set_option linter.unusedSimpArgs false
section
variable {σ : Type} (Z : σ → View → Frame → List Frame → Prop)
def ThenK (b : Frame) (k : List Item) (cs : List Frame) (s : σ) (e : Exit) (a : Act) (V : View) : Prop := ThenV (Z s) b k cs e a V
def wpK (s : σ) (c : Code) (Q : σ → Exit → Act → View → Prop) (a : Act) (V : View) : Prop :=
  ∀ (b : Frame) (k : List Item) (cs : List Frame), b.kind ≠ .early → (∀ s' e a' V', Q s' e a' V' → ThenV (Z s') b k cs e a' V') → Z s V (b.at a (.code c :: k)) cs
def opsK (s : σ) (ops : Array Oper) (todo : List Nat) (Q : σ → Exit → Act → View → Prop) (a : Act) (V : View) : Prop :=
  ∀ (b : Frame) (k : List Item) (cs : List Frame), b.kind ≠ .early → (∀ s' e a' V', Q s' e a' V' → ThenV (Z s') b k cs e a' V') → Z s V (b.at a (.inRegion ops todo :: k)) cs
end
section
variable {σ : Type} {Z : σ → View → Frame → List Frame → Prop} {n : Nat} {P : Program} {main : Bool} {Q : σ → Exit → Act → View → Prop} {a : Act} {V : View} {s : σ}
theorem wpK_of_V {c : Code} (h : wpV (Z s) c (Q s) a V) : wpK Z s c Q a V := fun b k cs hb hc => h b k cs hb fun e a' V' q => hc s e a' V' q
theorem opsK_of_V {ops : Array Oper} {todo : List Nat} (h : opsV (Z s) ops todo (Q s) a V) : opsK Z s ops todo Q a V := fun b k cs hb hc => h b k cs hb fun e a' V' q => hc s e a' V' q
theorem wpK_mono {c : Code} {Q' : σ → Exit → Act → View → Prop} (h : wpK Z s c Q a V) (hq : ∀ s e a V, Q s e a V → Q' s e a V) : wpK Z s c Q' a V := fun b k cs hb hc => h b k cs hb fun s' e a' V' q => hc _ _ _ _ (hq _ _ _ _ q)
def NxK (next : σ → Act → View → Prop) (Q : σ → Exit → Act → View → Prop) : σ → Exit → Act → View → Prop
  | s, .normal, a, V => next s a V
  | s, e, a, V => Q s e a V
variable (hZ : ∀ s, OwnV n P main (Z s))
include hZ
theorem wpK_seq {x y : Code} (h : wpK Z s x (NxK (fun s' a' V' => wpK Z s' y Q a' V') Q) a V) : wpK Z s (.seq x y) Q a V := fun b k cs hb hc =>
  (hZ s).ctl (fun w => stepG_seq) (h b (.code y :: k) cs hb fun s' e a' w' q => by
    cases e with
    | normal => exact q b k cs hb hc
    | _ => exact ThenV.push (x := .code y) rfl (by simp) (hc _ _ _ _ q))
theorem wpK_cond {c : Operand} {x y : Code} {t : Bool} (hc : a.eval c = .bool t) (h : wpK Z s (if t then x else y) Q a V) : wpK Z s (.cond c x y) Q a V := fun b k cs hb hq =>
  (hZ s).ctl (fun w => stepG_cond hc) (h b k cs hb hq)
def BlK (id : Nat) (Q : σ → Exit → Act → View → Prop) : σ → Exit → Act → View → Prop
  | s, .exit id', a, V => if id' = id then Q s .normal a V else Q s (.exit id') a V
  | s, e, a, V => Q s e a V
theorem wpK_block {id : Nat} {c : Code} (h : wpK Z s c (BlK id Q) a V) : wpK Z s (.block id c) Q a V := fun b k cs hb hc =>
  (hZ s).ctl (fun w => stepG_block) (h b (.inBlock id :: k) cs hb fun s' e a' w' q => by
    cases e with
    | normal => exact (hZ s').ctl (fun w => stepG_inBlock) (hc _ _ _ _ q)
    | exit id' =>
      by_cases hid : id' = id
      · simp only [BlK, hid, if_true] at q
        exact ⟨k, by simp [exitTo, hid], hc _ _ _ _ q⟩
      · simp only [BlK, hid, if_false] at q
        obtain ⟨k', hk', hg⟩ := hc _ _ _ _ q
        have : (id == id') = false := by simp; exact fun h => hid h.symm
        exact ⟨k', by simp [exitTo, this, hk'], hg⟩
    | ret => exact fun todo => hc _ _ _ _ q todo
    | goto l => exact hc _ _ _ _ q
    | panic ch => exact hc _ _ _ _ q
    | outgrown => exact hc _ _ _ _ q)
theorem wpK_scope {c : Code} (h : wpK Z s c Q a V) : wpK Z s (.scope c) Q a V := fun b k cs hb hc =>
  (hZ s).ctl (fr' := b.at a (.code c :: .inScope c :: k)) (fun w => by simp [G, stepG, stepG.exec, Frame.at]) (h b (.inScope c :: k) cs hb fun s' e a' w' q => by
    cases e with
    | normal => exact (hZ s').ctl (fr' := b.at a' k) (fun w => by simp [G, stepG, stepG.exec, Frame.at]) (hc _ _ _ _ q)
    | exit id' =>
      obtain ⟨k', hk', hg⟩ := hc _ _ _ _ q
      exact ⟨k', by simp [exitTo, hk'], hg⟩
    | ret => exact fun todo => hc _ _ _ _ q todo
    | goto l => exact hc _ _ _ _ q
    | panic ch => exact hc _ _ _ _ q
    | outgrown => exact hc _ _ _ _ q)
theorem wpK_loop {c : Code} (I : Nat → σ → Act → View → Prop) (m : Nat) (h0 : I m s a V) (round : ∀ m s a V, I m s a V → wpK Z s c (NxK (fun s' a' V' => ∃ m', m' < m ∧ I m' s' a' V') Q) a V) : wpK Z s (.loop c) Q a V := by
  intro b k cs hb hc
  have key : ∀ N m s a V, m ≤ N → I m s a V → Z s V (b.at a (.code c :: .inLoop c :: k)) cs := by
    intro N
    induction N with
    | zero =>
      intro m s a V hμ hI
      refine round m s a V hI b (.inLoop c :: k) cs hb fun s' e a' V' q => ?_
      cases e with
      | normal => obtain ⟨m', h1, _⟩ := q; omega
      | _ => exact ThenV.push (x := .inLoop c) rfl (by simp) (hc _ _ _ _ q)
    | succ N ih =>
      intro m s a V hμ hI
      refine round m s a V hI b (.inLoop c :: k) cs hb fun s' e a' V' q => ?_
      cases e with
      | normal => obtain ⟨m', h1, h2⟩ := q; exact (hZ s').ctl (fun w => stepG_inLoop) (ih m' s' a' V' (by omega) h2)
      | _ => exact ThenV.push (x := .inLoop c) rfl (by simp) (hc _ _ _ _ q)
  exact (hZ s).ctl (fun w => stepG_loop) (key _ m s a V (Nat.le_refl _) h0)
theorem wpK_region {id : Nat} {ops : Array Oper} (h : opsK Z s ops (List.range ops.size) Q a V) : wpK Z s (.region id ops false) Q a V := fun b k cs hb hc => (hZ s).ctl (fun w => stepG_region) (h b k cs hb hc)
theorem opsK_nil {ops : Array Oper} (h : Q s .normal a V) : opsK Z s ops [] Q a V := fun b k cs hb hc => (hZ s).ctl (fun w => stepG_region_end) (hc _ _ _ _ h)
theorem opsK_yields {ops : Array Oper} {j : Nat} {rest : List Nat} {o : Oper} (ho : ops[j]? = some o) {v : Value} (hy : YieldsV P ops (· = V) o v a) (h : opsK Z s ops rest Q (a.put o.dst v) V) : opsK Z s ops (j :: rest) Q a V := fun b k cs hb hc =>
  at_yields (hZ s) hb ho hy (h b k cs hb hc)
end
section
variable {n : Nat} {P : Program} {Post : Value → World → Prop} {C : List Nat} {W : World} {Q : List SE → Exit → Act → View → Prop} {a : Act} {V : View} {spec : List SE} {ops : Array Oper} {j : Nat} {rest : List Nat} {o : Oper}
theorem opsK_go (ho : ops[j]? = some o) (hw : Region.wanted o (yielded ops a.tmps) = true) {f : FuncId} {caps : Array Value} (he : execOp a.eval o = (pure (.spawn { target := .fn (.func f) caps, args := #[] }) : Sem Next)) (e : SE) (hc : e.c ∈ C)
    (hwk : ZW n P e.c e.v (lend V e.D) (born P { target := .fn (.func f) caps, args := #[] }).frame [])
    (h : opsK (ZC n P Post C W) (spec ++ [e]) ops rest Q (a.put o.dst undef) (keep V e.D)) : opsK (ZC n P Post C W) spec ops (j :: rest) Q a V := fun b k cs hb hq =>
  zc_fork e hc (fun w hs => by
    have hr : (execOp a.eval o).run P w = .ok (.spawn { target := .fn (.func f) caps, args := #[] }) w := by rw [he]; rfl
    have hl : listed P b.fn a o w = #[] := by
      unfold listed
      rw [he]
      show seen P _ #[] = _
      rw [seen_none]
    have := stepG_spawn (rest := rest) (main := true) (b := b) (k := k) (cs := cs) ho hw hb hr rfl
    rw [hl] at this
    exact this) hwk (h b k cs hb hq)
theorem opsK_select (ho : ops[j]? = some o) (hw : Region.wanted o (yielded ops a.tmps) = true) {cases : Array CommCase} (hr : ∀ w, (execOp a.eval o).runT P w #[] = (.ok (.comm cases true .select) w, #[])) (hcs : SelC C cases)
    (huniq : ∀ (i j c : Nat) (z z' : Value), cases[i]? = some (rcase c z) → cases[j]? = some (rcase c z') → i = j) (hall : ∀ e ∈ spec, ∃ (i : Nat) (z : Value), cases[i]? = some (rcase e.c z)) (hne : spec ≠ [])
    (h : ∀ (p : Nat) (e : SE) (i : Nat) (z : Value), spec[p]? = some e → cases[i]? = some (rcase e.c z) → opsK (ZC n P Post C W) (spec.eraseIdx p) ops rest Q (a.put o.dst (commResult cases .select i e.v true)) V) : opsK (ZC n P Post C W) spec ops (j :: rest) Q a V := fun b k cs hb hq => by
  refine zc_select (fun w hs => ?_) hcs huniq hall hne fun p e i z h1 h2 => ?_
  · have h1 : (execOp a.eval o).run P w = .ok (.comm cases true .select) w := by rw [← Sem.runT_fst (es := #[]), hr]
    have hl : listed P b.fn a o w = #[] := by
      unfold listed Sem.events
      rw [hr]
      rw [seen_none]
    have := stepG_comm (rest := rest) (main := true) (b := b) (k := k) (cs := cs) ho hw hb h1
    rw [hl] at this
    exact this
  · rw [Frame.finish_at, ho]
    exact h p e i z h1 h2 b k cs hb hq
theorem wpK_regain {b : Nat} {ob : Obj} {c : Code} (hb : V b = some (false, ob)) (hno : ∀ e ∈ spec, b ∉ e.D) (h : wpK (ZC n P Post C W) spec c Q a (V.set b true ob)) : wpK (ZC n P Post C W) spec c Q a V := fun bb k cs hbb hc =>
  zc_regain hb hno (h bb k cs hbb hc)
end
end Go.Co
end
section
namespace Go.Co
open Go.Conc
set_option linter.unusedVariables false
set_option linter.unusedSimpArgs false
section
variable {n : Nat} {P : Program} {Post : Value → World → Prop} {W : World}
variable (n P Post W) in
def ZB (V : View) (fr : Frame) (cs : List Frame) : Prop := ∀ w, Sat V w → KeptO W w → BW n P Post fr cs w
theorem sat_tp {V : View} {w : World} {T : Tape} {D : Nat} (h : Sat V w) : Sat V (tp w T D) := h
theorem evV_ok {V : View} {es : Array Event} (h : EvV V es) : EvOk true es := fun e he => by
  rcases h e he with h1 | ⟨a, m, o, h1, _, _, _⟩
  · exact ⟨fun m hm => (by rw [h1] at hm; injection hm with hm; subst hm; rfl), fun _ => rfl⟩
  · exact ⟨fun m hm => (by rw [h1] at hm; cases hm), fun _ => rfl⟩
theorem evV_lowE {V : View} {w' : World} {es : Array Event} (h : EvV V es) (hs : Sat V w') : LowE w'.heap.size es := fun e he => by
  rcases h e he with h1 | ⟨a, m, o, h1, _, h3, _⟩
  · rw [h1]; trivial
  · rw [h1]; exact (Array.getElem?_eq_some_iff.1 (hs _ _ _ h3)).1
theorem zb_own : OwnV n P true (ZB n P Post W) := fun V fr cs hh w hs hk gs sl t q T D hl =>
  (bw_own true).step _ _ _ hl (fun T D => by
    obtain ⟨fr', cs', w', es, V', h1, h2, h3⟩ := hh (tp w T D) (sat_tp hs) hl
    exact ⟨fr', cs', w', es, h1, evV_ok h2.ev, evV_lowE h2.ev h2.sat, h2.kept, h2.low, h3 w' h2.sat ((hk.tp T D).step h2.kept)⟩) gs sl t q T D hl
def allV (w : World) : View := fun b => (w.heap[b]?).map fun o => (false, o)
theorem sat_all (w : World) : Sat (allV w) w := fun b m o h => by
  unfold allV at h
  cases hb : w.heap[b]? with
  | none => rw [hb] at h; cases h
  | some o' => rw [hb] at h; simp only [Option.map_some, Option.some.injEq, Prod.mk.injEq] at h; rw [h.2]
theorem allV_some {w : World} {b : Nat} {o : Obj} (h : w.heap[b]? = some o) : allV w b = some (false, o) := by unfold allV; rw [h]; rfl
theorem allV_none {w : World} {b : Nat} (h : w.heap.size ≤ b) : allV w b = none := by unfold allV; rw [Array.getElem?_eq_none h]; rfl
theorem below_of_sat {w w' : World} {V' : View} (hE : VExt (allV w) V') (hs : Sat V' w') (hk : KeptO w w') (ht : w'.tape = w.tape) : w'.os = w.os ∧ w'.tape = w.tape ∧ w'.output = w.output ∧ w.heap.size ≤ w'.heap.size ∧ ∀ b, b < w.heap.size → w'.heap[b]? = w.heap[b]? :=
  ⟨hk.os, ht, hk.out, hk.size, fun b hb => by
    have h1 : w.heap[b]? = some (w.heap[b]'hb) := Array.getElem?_eq_getElem hb
    rw [h1]
    exact hs b false _ (hE b _ (allV_some h1))⟩
theorem callsB_of_V {f : FuncId} {args : Array Value} {w : World} {R : Value → World → Prop}
    (h : ∀ Post, CallsV P (ZB n P Post w) f args (allV w) fun v V' => ∀ w', Sat V' w' → KeptO w w' → w'.tape = w.tape → R v w') : CallsB n P f args w R := fun Post cs k => by
  refine h Post cs (fun v V' fr hR hfn hL w' hs hk => ?_) w (sat_all w) (KeptO.refl w)
  obtain ⟨l1, l2, l3, fn, l4, l5⟩ := hL
  have hs2 : Sat V' (tp w' w.tape w'.drawn) := sat_tp hs
  obtain ⟨es, l6, _⟩ := l5 _ hs2
  have hk2 : KeptO w (tp w' w.tape w'.drawn) := hk.tp _ _
  have := k v (tp w' w.tape w'.drawn) fr (hR _ hs2 hk2 rfl) hfn ⟨l1, l2, l3, fn, l4, by rw [← Sem.runT_fst (es := #[]), l6]⟩
  exact this.tape w'.tape w'.drawn
variable {C : List Nat}
theorem then_company {b : Frame} {k : List Item} {cs : List Frame} {e : Exit} {a : Act} {V : View} (h : ThenV (ZB n P Post W) b k cs e a V) : ThenV (ZC n P Post C W []) b k cs e a V := by
  cases e with
  | normal => exact zc_done h
  | exit id => obtain ⟨k', hk, hz⟩ := h; exact ⟨k', hk, zc_done hz⟩
  | ret => exact fun todo => zc_done (h todo)
  | goto l => exact h
  | panic ch => exact h
  | outgrown => exact h
theorem wpV_company {c : Code} {Q : Exit → Act → View → Prop} {a : Act} {V V0 : View} (C : List Nat) (hle : ∀ b r, V0 b = some r → V b = some r) (hopen : ∀ c ∈ C, ∃ s tm m, V c = some (m, .chan 0 #[] false s s tm)) (hno : ∀ c ∈ C, V0 c = none)
    (h : wpK (ZC n P Post C W) [] c (fun s e a' V' => s = [] ∧ Q e a' V') a V0) : wpV (ZB n P Post W) c Q a V := fun b k cs hb hc w hs hk =>
  bw_company (C := C) (V0 := V0) hk (fun b m o hb => hs b m o (hle _ _ hb)) (fun c hc => by
    obtain ⟨s, tm, m, h1⟩ := hopen c hc
    exact ⟨s, tm, hs _ _ _ h1⟩) hno (h b k cs hb fun s e a' V' ⟨h1, q⟩ => by
    subst h1
    exact then_company (hc _ _ _ q))
theorem listed_done {md : Region.Mode} {ops : Array Oper} {listed : Array Bool} (h : listed.toList.count false = 0) : Region.ready md ops listed = [] := by
  cases hr : Region.ready md ops listed with
  | nil => rfl
  | cons i l =>
    exfalso
    have hi : i ∈ Region.ready md ops listed := by rw [hr]; exact List.mem_cons_self
    obtain ⟨h1, _⟩ := mem_ready.1 hi
    rw [List.count_eq_zero] at h
    have hlt : i < listed.size := by
      rcases Nat.lt_or_ge i listed.size with h' | h'
      · exact h'
      · rw [Array.getD_eq_getD_getElem?, Array.getElem?_eq_none h'] at h1; cases h1
    rw [Array.getD_eq_getD_getElem?, Array.getElem?_eq_getElem hlt] at h1
    exact h (by rw [← show listed[i] = false from h1]; simp)
theorem count_set {listed : Array Bool} {i : Nat} (h : listed.getD i true = false) : (listed.setIfInBounds i true).toList.count false < listed.toList.count false := by
  have hlt : i < listed.toList.length := by
    rcases Nat.lt_or_ge i listed.size with h' | h'
    · simpa using h'
    · rw [Array.getD_eq_getD_getElem?, Array.getElem?_eq_none h'] at h; cases h
  have h1 : listed.toList[i] = false := by
    rw [Array.getD_eq_getD_getElem?, Array.getElem?_eq_getElem (by simpa using hlt)] at h
    simpa using h
  rw [Array.toList_setIfInBounds, List.count_set hlt, h1]
  have : 0 < listed.toList.count false := List.count_pos_iff.2 (by rw [← h1]; exact List.getElem_mem _)
  have e1 : (true == false) = false := rfl
  simp only [beq_self_eq_true, if_true, e1, Bool.false_eq_true, if_false]
  omega
theorem anyV_inv {md : Region.Mode} {ops : Array Oper} {Q : Exit → Act → View → Prop} (I : Array Bool → Act → View → Prop)
    (step : ∀ listed a V, I listed a V → ∀ i ∈ Region.ready md ops listed, OpV n P ops i (fun a' V' => I (listed.setIfInBounds i true) a' V') a V) (done : ∀ listed a V, I listed a V → Region.ready md ops listed = [] → Q .normal a V) :
    ∀ (fuel : Nat) (listed : Array Bool) (a : Act) (V : View), listed.toList.count false ≤ fuel → I listed a V → AnyV n P md ops Q (fun _ => True) (fun _ => false) fuel listed a V
  | 0, listed, a, V, hf, hI => ⟨listed_done (by omega), done _ _ _ hI (listed_done (by omega))⟩
  | fuel + 1, listed, a, V, hf, hI => ⟨fun h0 => done _ _ _ hI h0, fun i hi => OpV_mono (fun a' V' h => ⟨fun _ => trivial, anyV_inv I step done fuel _ a' V' (by have := count_set (mem_ready.1 hi).1; omega) h⟩) (step _ _ _ hI i hi)⟩
end
end Go.Co
end
section
namespace Go.Co
open Go.Conc
set_option linter.unusedVariables false
set_option linter.unusedSimpArgs false
section
variable {n : Nat} {P : Program} {a : Act} {V : View} {ops : Array Oper} {j : Nat} {o : Oper}
theorem OpV.new (hj : ops[j]? = some o) (hw : Region.wanted o (yielded ops a.tmps) = true) {s : Sem Value} (he : execOp a.eval o = (do pure (.value (← s)) : Sem Next)) (hev : ∀ w, ∀ e ∈ (s.runT P w #[]).2, e.loc = .mark .noRoom) {R : Nat → Obj → Value → Prop}
    (hr : ∀ w, ∃ w' ob v, s.run P w = .ok v w' ∧ Kept w w' ∧ w'.heap = w.heap.push ob ∧ R w.heap.size ob v) {K : Act → View → Prop} (h : ∀ g ob v, V g = none → R g ob v → K (a.put o.dst v) (V.set g true ob)) : OpV n P ops j K a V := by
  unfold OpV
  simp only [hj, hw, if_true]
  intro w hs hl
  obtain ⟨w', ob, v, h1, h2, h3, h4⟩ := hr w
  have e1 : (execOp a.eval o).run P w = .ok (.value v) w' := by rw [he, Sem.run_bind, h1]; rfl
  rw [e1]
  refine AfterV.new hs hl h2 h3 (fun e he' => ?_) (h _ ob v (hs.none (Nat.le_refl _)) h4)
  unfold Sem.events at he'
  rw [he] at he'
  have e2 : (do pure (.value (← s)) : Sem Next) = Sem.bind s fun v => Sem.pure (Next.value v) := rfl
  rw [e2, events_bind_pure] at he'
  exact hev w e he'
theorem OpV.alloc (hj : ops[j]? = some o) (hw : Region.wanted o (yielded ops a.tmps) = true) {t : TypeId} (hop : o.op = .alloc t) {z : Value} (hz : ∀ w, (zeroValue t).run P w = .ok z w) {K : Act → View → Prop}
    (h : ∀ g, V g = none → K (a.put o.dst (.pointer (some ⟨g, 0, none⟩))) (V.set g true (.cells z.cells t (0, 0)))) : OpV n P ops j K a V := by
  refine OpV.new hj hw (s := Instr.alloc t true (.tuple #[])) ?_ (fun w => ev_of_nil ?_) (R := fun g ob v => ob = .cells z.cells t (0, 0) ∧ v = .pointer (some ⟨g, 0, none⟩)) (fun w => ?_) (by rintro g ob v hg ⟨rfl, rfl⟩; exact h g hg)
  · obtain ⟨dst, op, ty, ps, af, gd⟩ := o
    simp only at hop
    subst hop
    rfl
  · show ((Sem.bind (zeroValue t) fun zero => Sem.bind (newVar t zero) fun ad => Sem.pure (Value.pointer (some ad))).runT P w #[]).2 = _
    rw [Sem.runT_bind']
    have h1 := zeroValue_ev (P := P) t w #[]
    generalize (zeroValue t).runT P w #[] = r at h1
    obtain ⟨r1, r2⟩ := r
    simp only at h1
    subst h1
    cases r1 <;> rfl
  · refine ⟨w.alloc (.cells z.cells t), _, _, ?_, ⟨rfl, rfl, rfl, by show _ ≤ (w.heap.push _).size; simp⟩, rfl, rfl, rfl⟩
    simp only [Instr.alloc, newVar, newRow, newObj, Sem.run_bind, Sem.run_pure, hz, Result.andThen_ok]
    rfl
theorem OpV.makeChan (hj : ops[j]? = some o) (hw : Region.wanted o (yielded ops a.tmps) = true) {t e : TypeId} {dir : ChanDir} {i : TypeInfo} {x : Operand} (hop : o.op = .makeChan t x) {k : IntKind} (hx : a.eval x = .int k 0) (ht : P.underlying t = some (.chan dir e)) (hi : P.info? e = some i) {K : Act → View → Prop}
    (h : ∀ g, V g = none → K (a.put o.dst (.chan (some g))) (V.set g true (.chan 0 #[] false 0 0 false))) : OpV n P ops j K a V := by
  refine OpV.new hj hw (s := Instr.makeChan t (.int k ((0 : Nat) : Int))) ?_ (fun w => ev_of_nil (events_makeChan ht hi k 0 (by omega) (by simp) _)) (R := fun g ob v => ob = .chan 0 #[] false 0 0 false ∧ v = .chan (some g)) (fun w => ?_) (by rintro g ob v hg ⟨rfl, rfl⟩; exact h g hg)
  · obtain ⟨dst, op, ty, ps, af, gd⟩ := o
    simp only at hop
    subst hop
    show (do pure (.value (← Instr.makeChan t (a.eval x))) : Sem Next) = _
    rw [hx]
    rfl
  · exact ⟨_, _, _, run_makeChan ht hi k 0 (by omega) (by simp), ⟨rfl, rfl, rfl, by show _ ≤ (w.heap.push _).size; simp⟩, rfl, rfl, rfl⟩
end
def CH (V1 V : View) (l : Bool) (x : Value) : Prop := l = true → ∃ c, x = .chan (some c) ∧ V c = some (true, .chan 0 #[] false 0 0 false) ∧ V1 c = none
def VR (V1 V : View) (t : TypeId) (l l' : Bool) (p y : Value) : Prop := l = true → ∃ b x, p = .pointer (some ⟨b, 0, none⟩) ∧ V b = some (true, .cells #[x] t (0, 0)) ∧ V1 b = none ∧ (l' = true → x = y)
section
variable {V1 V : View} {l l' : Bool} {x p y : Value} {t t' : TypeId} {g : Nat} {m : Bool} {o : Obj} {c : Array Value} {f : Nat × Nat}
theorem CH.new (h : CH V1 V l x) (hg : V g = none) : CH V1 (V.set g m o) l x := fun hl => by
  obtain ⟨c, h1, h2, h3⟩ := h hl
  exact ⟨c, h1, (by rw [View.set_ne]; exact h2; intro e; subst e; rw [hg] at h2; cases h2), h3⟩
theorem CH.store (h : CH V1 V l x) (hg : V g = some (true, .cells c t f)) : CH V1 (V.set g m o) l x := fun hl => by
  obtain ⟨c, h1, h2, h3⟩ := h hl
  exact ⟨c, h1, (by rw [View.set_ne]; exact h2; intro e; subst e; rw [hg] at h2; cases h2), h3⟩
theorem VR.new (h : VR V1 V t l l' p y) (hg : V g = none) : VR V1 (V.set g m o) t l l' p y := fun hl => by
  obtain ⟨b, x, h1, h2, h3, h4⟩ := h hl
  exact ⟨b, x, h1, (by rw [View.set_ne]; exact h2; intro e; subst e; rw [hg] at h2; cases h2), h3, h4⟩
theorem VR.store (h : VR V1 V t l l' p y) (hg : V g = some (true, .cells c t' f)) (ht : t' ≠ t) : VR V1 (V.set g m o) t l l' p y := fun hl => by
  obtain ⟨b, x, h1, h2, h3, h4⟩ := h hl
  exact ⟨b, x, h1, (by rw [View.set_ne]; exact h2; intro e; subst e; rw [hg] at h2; injection h2 with h2; injection h2 with _ h2; injection h2 with _ h2; exact ht h2), h3, h4⟩
end
end Go.Co
end

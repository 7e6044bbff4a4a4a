import Derived.Test.YtjdppgogdilgkaaKF
import Derived.Lib.ConvBytes
import Derived.Laws.IdiomStrings
import Derived.Laws.MakeOwn
import Derived.Deep.MidRow
import Derived.Conc.DeferLaws
import Derived.Conc.TokenWords
import Derived.Conc.Own2
section
namespace Go.Co
open Go.Conc
set_option linter.unusedVariables false
section
variable {P : Program}
theorem size_of_map {t : TypeId} {n : Nat} (h : (P.info? t).map (·.size) = some n) (w : World) : (sizeOf t).run P w = .ok n w := by
  cases hi : P.info? t with
  | none => rw [hi] at h; cases h
  | some i =>
    rw [hi] at h
    injection h with h
    subst h
    have : sizeOf t = Sem.program fun p => Sem.bind (match p.info? t with | some i => (Sem.pure i : Sem TypeInfo) | none => stuck "no such type") fun ti => Sem.pure ti.size := rfl
    rw [this]
    simp only [Sem.run, hi]
    rfl
theorem isAgg_of {t : TypeId} {d : TypeDesc} (h : P.underlying t = some d) (w : World) : (isAgg t).run P w = .ok (match d with | .struct _ | .array _ _ => true | _ => false) w := by
  have : isAgg t = Sem.program fun p => Sem.bind (match p.underlying t with | some d => (Sem.pure d : Sem TypeDesc) | none => stuck "no such type") fun d => (match d with | .struct _ | .array _ _ => Sem.pure true | _ => Sem.pure false) := by
    unfold isAgg underlying
    rfl
  rw [this]
  simp only [Sem.run, h]
  cases d <;> rfl
theorem isAgg_array {t e : TypeId} {n : Nat} (h : P.underlying t = some (.array n e)) (w : World) : (isAgg t).run P w = .ok true w := isAgg_of h w
theorem isAgg_no {t : TypeId} {d : TypeDesc} (h : P.underlying t = some d) (hd : (match d with | .struct _ | .array _ _ => true | _ => false) = false) (w : World) : (isAgg t).run P w = .ok false w := by rw [isAgg_of h, hd]
theorem isAgg_yes {t : TypeId} {d : TypeDesc} (h : P.underlying t = some d) (hd : (match d with | .struct _ | .array _ _ => true | _ => false) = true) (w : World) : (isAgg t).run P w = .ok true w := by rw [isAgg_of h, hd]
end
end Go.Co
end
section
namespace Go.Co
open Go.Conc
set_option linter.unusedVariables false
set_option linter.unusedSimpArgs false
section
variable {P : Program}
theorem events_strBytes (w : World) (src dst e : TypeId) (s : ByteArray) {u : TypeDesc} (hs : P.underlying src = some u) (hd : P.underlying dst = some (.slice e)) (he : P.underlying e = some (.int .u8)) :
    (convert src dst (.string s)).events P w #[] = #[] := by
  have hsh : ∀ c : Array Value, (w.drew.alloc (.cells c e)).shape? w.heap.size = some (e, c.size) := by
    intro c
    simp [World.shape?, World.alloc, World.drew, -World.alloc_eq, -World.drew_eq]
  simp [convert, run_underlying hs, run_underlying hd, run_underlying he, Conv.stringToBytes, newRow, markStringish, Question.forced, hsh, Result.evThen]
theorem events_makeTab (t e : TypeId) (i : TypeInfo) (z : Value) (ht : P.underlying t = some (.slice e)) (hi : P.info? e = some i) (hz : i.zero = some z)
    (kl kc : IntKind) (l c : Int) (h0 : 0 ≤ l) (hlc : l ≤ c) (hbytes : (i.bytes : Int) * c ≤ 281474976710656) (h63 : c ≤ 9223372036854775807) (w : World) :
    ∀ ev ∈ (Instr.makeSlice t (.int kl l) (.int kc c)).events P w #[], ev.loc = .mark .noRoom := by
  have wl : IntKind.i64.wrap l = l := by rw [IntKind.wrap_i64]; omega
  have wc : IntKind.i64.wrap c = c := by rw [IntKind.wrap_i64]; omega
  have n1 : ¬ c < 0 := by omega
  have n2 : ¬ (281474976710656 < (i.bytes : Int) * c) := by omega
  have n3 : ¬ l < 0 := by omega
  have n4 : ¬ c < l := by omega
  have hr : ∀ es : Array Event, (∀ ev ∈ es, ev.loc = .mark .noRoom) → ∀ ev ∈ (askRoom (c.toNat * i.bytes)).events P w es, ev.loc = .mark .noRoom := by
    intro es hes ev hev
    unfold askRoom at hev
    split at hev
    · rw [events_mark] at hev
      rcases Array.mem_push.1 hev with h | rfl
      · exact hes _ h
      · rfl
    · exact hes _ hev
  have hrun : (askRoom (c.toNat * i.bytes)).run P w = .ok () w := by
    unfold askRoom
    split <;> rfl
  by_cases hn : c.toNat * i.size = 0
  · simp [Instr.makeSlice, run_underlying ht, asInt, asIntOf, typeInfo, hi, sizeOf, wl, wc, n1, n2, n3, n4, hn, newRow, Array.range_zero', Result.evThen, hrun]
    exact hr _ (by simp)
  · simp [Instr.makeSlice, run_underlying ht, asInt, asIntOf, typeInfo, hi, sizeOf, zeroValue, hz, wl, wc, n1, n2, n3, n4, hn, newRow, Result.evThen, hrun]
    exact hr _ (by simp)
end
section
variable {n : Nat} {P : Program} {main : Bool} {Z : View → Frame → List Frame → Prop} {Q : Exit → Act → View → Prop} {a : Act} {V : View} {ops : Array Oper} {j : Nat} {rest : List Nat} {o : Oper}
theorem opsV_new (hZ : OwnV n P main Z) (ho : ops[j]? = some o) (hw : Region.wanted o (yielded ops a.tmps) = true) {s : Sem Value} (he : execOp a.eval o = (do pure (.value (← s)) : Sem Next)) (hev : ∀ w, ∀ e ∈ (s.runT P w #[]).2, e.loc = .mark .noRoom) {R : Nat → Obj → Value → Prop}
    (hr : ∀ w, ∃ w' ob v, s.run P w = .ok v w' ∧ Kept w w' ∧ w'.heap = w.heap.push ob ∧ R w.heap.size ob v)
    (h : ∀ g ob v, V g = none → R g ob v → opsV Z ops rest Q (a.put o.dst v) (V.set g true ob)) : opsV Z ops (j :: rest) Q a V :=
  opsV_k hZ ho hw fun w hs hl K hK => by
    obtain ⟨w', ob, v, h1, h2, h3, h4⟩ := hr w
    have e1 : (execOp a.eval o).run P w = .ok (.value v) w' := by rw [he, Sem.run_bind, h1]; rfl
    rw [e1]
    refine hK _ _ (AfterV.new hs hl h2 h3 (fun e he' => ?_) (h _ ob v (hs.none (Nat.le_refl _)) h4))
    unfold Sem.events at he'
    rw [he] at he'
    have e2 : (do pure (.value (← s)) : Sem Next) = Sem.bind s fun v => Sem.pure (Next.value v) := rfl
    rw [e2, events_bind_pure] at he'
    exact hev w e he'
theorem opsV_strBytes (hZ : OwnV n P main Z) (ho : ops[j]? = some o) (hw : Region.wanted o (yielded ops a.tmps) = true) {src dst e : TypeId} {x : Operand} (hop : o.op = .convert src dst x) {u : TypeDesc}
    (hs : P.underlying src = some u) (hd : P.underlying dst = some (.slice e)) (he : P.underlying e = some (.int .u8)) {s : ByteArray} (hx : a.eval x = .string s)
    (h : ∀ g C f, V g = none → s.size ≤ C.size → (∀ j, j < s.size → C[j]? = some (.int .u8 ((s.data.toList.getD j 0).toNat : Int))) → opsV Z ops rest Q (a.put o.dst (.slice (some ⟨g, 0, none⟩) s.size C.size)) (V.set g true (.cells C e f))) : opsV Z ops (j :: rest) Q a V := by
  have hex : execOp a.eval o = (do pure (.value (← convert src dst (.string s))) : Sem Next) := by
    obtain ⟨dst', op, ty, ps, af, gd⟩ := o
    simp only at hop
    subst hop
    show (do pure (.value (← convert src dst (a.eval x))) : Sem Next) = _
    rw [hx]
  have hmute : ∀ w, ∀ e ∈ ((convert src dst (.string s)).runT P w #[]).2, e.loc = .mark .noRoom := fun w => ev_of_nil (events_strBytes w src dst e s hs hd he)
  refine opsV_new hZ ho hw hex hmute (R := fun g ob v => ∃ C f, ob = .cells C e f ∧ v = .slice (some ⟨g, 0, none⟩) s.size C.size ∧ s.size ≤ C.size ∧ ∀ j, j < s.size → C[j]? = some (.int .u8 ((s.data.toList.getD j 0).toNat : Int))) (fun w => ?_) ?_
  · have hc := grownCap_ge w s.size 0 e
    have hsz : (Lib.bytesCells w e s).size = grownCap w s.size 0 e := by
      have : s.data.size = s.size := rfl
      simp [Lib.bytesCells, this]; omega
    refine ⟨_, .cells (Lib.bytesCells w e s) e ((Lib.bytesCells w e s).size, (Lib.bytesCells w e s).size + 1), _, Lib.run_convert_string_bytes w src dst e s hs hd he, ⟨rfl, rfl, rfl, by rw [Lib.bytesWorld_size]; omega⟩, ?_, _, _, rfl, by rw [hsz], by omega, fun j hj => ?_⟩
    · apply Array.ext_getElem?
      intro b
      rcases Nat.lt_trichotomy b w.heap.size with h1 | h1 | h1
      · rw [Lib.bytesWorld_at_old w e s b h1, Array.getElem?_push_lt h1, Array.getElem?_eq_getElem h1]
      · subst h1; rw [Lib.bytesWorld_at_new, Array.getElem?_push_size]
      · rw [Array.getElem?_eq_none (by rw [Lib.bytesWorld_size]; omega), Array.getElem?_eq_none (by simp; omega)]
    · have := Lib.bytesWorld_cell w e s j hj
      rw [World.cell?] at this
      simpa [Lib.bytesWorld_at_new] using this
  · rintro g ob v hg ⟨C, f, rfl, rfl, h1, h2⟩
    exact h g C f hg h1 h2
theorem opsV_make (hZ : OwnV n P main Z) (ho : ops[j]? = some o) (hw : Region.wanted o (yielded ops a.tmps) = true) {t e : TypeId} {x y : Operand} (hop : o.op = .makeSlice t x y) {i : TypeInfo} {z : Value} (ht : P.underlying t = some (.slice e)) (hi : P.info? e = some i) (hz : i.zero = some z) (hs : i.size = 1)
    {kl kc : IntKind} {m : Nat} (hx : a.eval x = .int kl (m : Int)) (hy : a.eval y = .int kc (m : Int)) (hbytes : i.bytes * m ≤ 281474976710656) (h63 : m ≤ 9223372036854775807)
    (h : ∀ g, V g = none → opsV Z ops rest Q (a.put o.dst (.slice (some ⟨g, 0, none⟩) m m)) (V.set g true (.cells (madeCells z.cells m) e (0, 0)))) : opsV Z ops (j :: rest) Q a V := by
  have hb : (i.bytes : Int) * (m : Int) ≤ 281474976710656 := by
    have h : ((i.bytes * m : Nat) : Int) ≤ 281474976710656 := by omega
    rwa [Int.natCast_mul] at h
  have hex : execOp a.eval o = (do pure (.value (← Instr.makeSlice t (.int kl (m : Int)) (.int kc (m : Int)))) : Sem Next) := by
    obtain ⟨dst', op, ty, ps, af, gd⟩ := o
    simp only at hop
    subst hop
    show (do pure (.value (← Instr.makeSlice t (a.eval x) (a.eval y))) : Sem Next) = _
    rw [hx, hy]
  refine opsV_new hZ ho hw hex (fun w => events_makeTab t e i z ht hi hz kl kc m m (by omega) (by omega) hb (by omega) w) (R := fun g ob v => ob = .cells (madeCells z.cells m) e (0, 0) ∧ v = .slice (some ⟨g, 0, none⟩) m m) (fun w => ?_) ?_
  · have hr := run_make (P := P) (w := w) t e i z ht hi hz kl kc m m (by omega) (by omega) hb (by omega)
    simp only [Int.toNat_natCast, hs, Nat.mul_one] at hr
    exact ⟨_, _, _, hr, ⟨rfl, rfl, rfl, by show _ ≤ (w.heap.push _).size; simp⟩, rfl, rfl, rfl⟩
  · rintro g ob v hg ⟨rfl, rfl⟩
    exact h g hg
end
end Go.Co
end
section
namespace Go.Co
open Go.Conc
set_option linter.unusedVariables false
set_option linter.unusedSimpArgs false
section
variable {P : Program}
theorem forIn_quiet {α β : Type} (f : α → β → Sem (ForInStep β)) (hf : ∀ a b w es, (f a b).events P w es = es) : ∀ (l : List α) (b : β) (w : World) (es : Array Event), (forIn l b f).events P w es = es
  | [], b, w, es => by simp
  | x :: l, b, w, es => by
    rw [List.forIn_cons, Sem.events_bind, hf]
    cases (f x b).run P w with
    | halt h w' => rfl
    | ok r w' =>
      cases r with
      | done b' => rfl
      | yield b' => exact forIn_quiet f hf l b' w' es
theorem events_bytesStr (w : World) (src dst e : TypeId) (A : Addr) (len cap : Nat) (hs : P.underlying src = some (.slice e)) (he : P.underlying e = some (.int .u8)) (hd : P.underlying dst = some .string) :
    (convert src dst (.slice (some A) len cap)).events P w #[] = (loadCells A len).events P w #[] := by
  simp only [convert, Sem.events_bind, run_underlying hs, run_underlying hd, run_underlying he, events_underlying, Result.evThen_ok, Conv.bytesToString]
  cases (loadCells A len).run P w with
  | halt h w' => rfl
  | ok cs w' =>
    simp only [Result.evThen_ok]
    rw [← Array.forIn_toList]
    rw [forIn_quiet _ (fun c b w es => by split <;> rfl)]
    cases (forIn cs.toList ByteArray.empty fun c __s => _ : Sem ByteArray).run P w' <;> rfl
theorem runT_index_slice0 {ρ : Operand → Value} {o : Oper} {t e : TypeId} {len cap : Nat} {x i : Operand} (hop : o.op = .indexAddr t x i) (hT : P.underlying t = some (.slice e)) (he : P.elem t = e) (hs : ∀ w, (sizeOf e).run P w = .ok 1 w) {g j : Nat} {k : IntKind} {m : Int} (hx : ρ x = .slice (some ⟨g, 0, none⟩) len cap) (hi : ρ i = .int k m) (hm : m = j) (hj : j < len) (w : World) :
    (execOp ρ o).runT P w #[] = (.ok (.value (.pointer (some ⟨g, j, none⟩))) w, #[]) := by
  have := runT_index_slice (P := P) hop hT he hs hx hi hm hj w
  rwa [Nat.zero_add] at this
theorem loadCells_in {a : Addr} {w : World} {c : Array Value} {t : TypeId} {f : Nat × Nat} (hb : w.heap[a.block]? = some (.cells c t f)) (m : Nat) : InB a.block false ((loadCells a m).runT P w #[]).2 := loadCells_ev hb m 0 #[] #[] InB.nil
end
section
variable {n : Nat} {P : Program} {main : Bool} {Z : View → Frame → List Frame → Prop} {Q : Exit → Act → View → Prop} {a : Act} {V : View} {ops : Array Oper} {j : Nat} {rest : List Nat} {o : Oper}
theorem opsV_bytesStr (hZ : OwnV n P main Z) (ho : ops[j]? = some o) (hw : Region.wanted o (yielded ops a.tmps) = true) {src dst e : TypeId} {x : Operand} (hop : o.op = .convert src dst x)
    (hs : P.underlying src = some (.slice e)) (he : P.underlying e = some (.int .u8)) (hd : P.underlying dst = some .string) {g off len cap : Nat} (hx : a.eval x = .slice (some ⟨g, off, none⟩) len cap) {m : Bool} {c : Array Value} {t : TypeId} {f : Nat × Nat} (hV : V g = some (m, .cells c t f))
    {s : ByteArray} (hl : s.size = len) (hc : ∀ j, j < len → c[off + j]? = some (.int .u8 ((s.data.toList.getD j 0).toNat : Int)))
    (h : opsV Z ops rest Q (a.put o.dst (.string s)) V) : opsV Z ops (j :: rest) Q a V :=
  opsV_k hZ ho hw fun w hS hL K hK => by
    have hb := hS _ _ _ hV
    have hex : execOp a.eval o = (do pure (.value (← convert src dst (.slice (some ⟨g, off, none⟩) len cap))) : Sem Next) := by
      obtain ⟨dst', op, ty, ps, af, gd⟩ := o
      simp only at hop
      subst hop
      show (do pure (.value (← convert src dst (a.eval x))) : Sem Next) = _
      rw [hx]
    have hl' : s.data.toList.length = len := hl
    subst hl'
    have hrun := run_convert_bytes_back (P := P) w src dst e ⟨g, off, none⟩ cap s.data.toList hs he hd (fun j hj => by
      have e1 : (⟨g, off, none⟩ : Addr).add j = ⟨g, off + j, none⟩ := Addr.add_mid g off j
      rw [e1]
      simp only [World.cell?, hb]
      rw [hc j hj, List.getD_eq_getElem?_getD, List.getElem?_eq_getElem hj]
      rfl)
    have e1 : (execOp a.eval o).run P w = .ok (.value (.string s)) w := by rw [hex, Sem.run_bind, hrun]; rfl
    rw [e1]
    refine hK _ _ (AfterV.read hS hL (fun ev hev => ?_) h)
    unfold Sem.events at hev
    rw [hex] at hev
    have e2 : (do pure (.value (← convert src dst (.slice (some ⟨g, off, none⟩) s.data.toList.length cap))) : Sem Next) = Sem.bind (convert src dst (.slice (some ⟨g, off, none⟩) s.data.toList.length cap)) fun v => Sem.pure (Next.value v) := rfl
    rw [e2, events_bind_pure] at hev
    have e3 := events_bytesStr (P := P) w src dst e ⟨g, off, none⟩ s.data.toList.length cap hs he hd
    unfold Sem.events at e3
    rw [e3] at hev
    obtain ⟨ad, h1, h2, h3, h4⟩ := loadCells_in (P := P) (a := ⟨g, off, none⟩) hb s.data.toList.length ev hev
    exact .inr ⟨ad, m, _, h1, h2, by rw [h3]; exact hV, fun hwr => by have := h4 hwr; cases this⟩
end
end Go.Co
end
section
namespace Go.Co
open Go.Conc
set_option linter.unusedVariables false
set_option linter.unusedSimpArgs false
section
variable {n : Nat} {P : Program} {ops : Array Oper} {Q : Exit → Act → View → Prop} {md : Region.Mode} {S : View → Prop} {fin : Nat → Bool} {V : View}
def stepsOk (md : Region.Mode) (ops : Array Oper) (fin : Nat → Bool) : List Nat → Array Bool → Bool
  | [], _ => true
  | i :: is, listed => Region.free md ops listed i && finFree md ops fin listed i && (Region.ready md ops listed).contains i && stepsOk md ops fin is (listed.setIfInBounds i true)
def listedBy : List Nat → Array Bool → Array Bool
  | [], l => l
  | i :: is, l => listedBy is (l.setIfInBounds i true)
def StepsV (P : Program) (ops : Array Oper) (S : View → Prop) : List (Nat × Value) → Act → Act → Prop
  | [], a, b => a = b
  | (i, v) :: l, a, b => ∃ o, ops[i]? = some o ∧ YieldsV P ops S o v a ∧ StepsV P ops S l (a.put o.dst v) b
theorem anyV_steps (hs : Region.noSelect ops = true) {b : Act} (hS : S V) {fuel : Nat} : ∀ (l : List (Nat × Value)) (N : Nat) (listed : Array Bool) (a : Act), N = fuel + l.length → StepsV P ops S l a b → stepsOk md ops fin (l.map (·.1)) listed = true →
    AnyV n P md ops Q S fin fuel (listedBy (l.map (·.1)) listed) b V → AnyV n P md ops Q S fin N listed a V
  | [], N, listed, a, hN, hst, hok, h => by
    simp only [StepsV] at hst
    subst hst
    simp only [List.length_nil, Nat.add_zero] at hN
    subst hN
    exact h
  | (i, v) :: l, N, listed, a, hN, hst, hok, h => by
    obtain ⟨o, h1, h2, h3⟩ := hst
    simp only [List.map_cons, stepsOk, Bool.and_eq_true] at hok
    subst hN
    exact anyV_take h1 hs hok.1.1.1 hok.1.1.2 hok.1.2 h2 hS (anyV_steps hs hS l (fuel + l.length) _ _ rfl h3 hok.2 h)
theorem StepsV.cons {i : Nat} {v : Value} {l : List (Nat × Value)} {T : Array Value} {ds : List Deferred} {b : Act} {o : Oper} {d : Tmp} (h1 : ops[i]? = some o) (hd : o.dst = some d) (h2 : YieldsV P ops S o v ⟨T, ds⟩) (h3 : StepsV P ops S l ⟨T.setIfInBounds d v, ds⟩ b) : StepsV P ops S ((i, v) :: l) ⟨T, ds⟩ b :=
  ⟨o, h1, h2, by rw [hd]; exact h3⟩
theorem StepsV.nil {a : Act} : StepsV P ops S [] a a := rfl
theorem resultsV_none {fn : Func} (h : fn.results = #[]) (tmps : Array Value) (w : World) : ∃ es, (results fn tmps).runT P w #[] = (.ok (.tuple #[]) w, es) ∧ EvV V es := by
  refine ⟨#[], ?_, EvV.nil⟩
  simp [results, h, Sem.runT, pure]
theorem resultsV_tmp {fn : Func} {t : Tmp} (h : fn.results = #[.tmp t]) {tmps : Array Value} {v : Value} (hv : tmps.getD t undef = v) (w : World) : ∃ es, (results fn tmps).runT P w #[] = (.ok v w, es) ∧ EvV V es := by
  have hv' : tmps[t]?.getD undef = v := by simpa using hv
  refine ⟨#[], ?_, EvV.nil⟩
  have e : results fn tmps = Sem.pure v := by
    simp only [results, h]
    simp [hv']
    rfl
  rw [e]; rfl
theorem resultsV_tmp2 {fn : Func} {t u : Tmp} (h : fn.results = #[.tmp t, .tmp u]) {tmps : Array Value} {v x : Value} (hv : tmps.getD t undef = v) (hx : tmps.getD u undef = x) (w : World) : ∃ es, (results fn tmps).runT P w #[] = (.ok (.tuple #[v, x]) w, es) ∧ EvV V es := by
  have hv' : tmps[t]?.getD undef = v := by simpa using hv
  have hx' : tmps[u]?.getD undef = x := by simpa using hx
  refine ⟨#[], ?_, EvV.nil⟩
  have e : results fn tmps = Sem.pure (.tuple #[v, x]) := by
    simp only [results, h]
    simp [hv', hx']
    rfl
  rw [e]; rfl
end
section
variable {n : Nat} {P : Program} {main : Bool} {Z : View → Frame → List Frame → Prop} {Q : Exit → Act → View → Prop} {a : Act} {V : View} {ops : Array Oper} {j : Nat} {rest : List Nat} {o : Oper}
theorem opsV_callOf (hZ : OwnV n P main Z) (ho : ops[j]? = some o) (hw : Region.wanted o (yielded ops a.tmps) = true) {f : FuncId} {args : Array Operand} {ts : Array TypeId} {fn : Func} (hop : o.op = .call ⟨.value (.func f), args, ts⟩)
    (hf : P.funcs[f]? = some fn) (hbd : fn.body.isSome = true) (hnm : (fn.name == "runtime.NumGoroutine") = false) {av : Array Value} (ha : args.map a.eval = av) {R : Value → View → Prop} (hC : CallsV P Z f av V R)
    (h : ∀ v V', R v V' → opsV Z ops rest Q (a.put o.dst v) V') : opsV Z ops (j :: rest) Q a V :=
  opsV_call hZ ho hw hop hf hbd hnm (by rw [ha]; exact hC) h
end
theorem VExt.by {V : View} {V4 V5 : View} {g : Nat} (hE : VExt V V4) (hO : VOnly g V4 V5) (hg : V g = none) : VExt V V5 := fun b r hb => hO b r (fun e => by subst e; rw [hg] at hb; cases hb) (hE b r hb)
end Go.Co
end
section
namespace Go.Co
open Go.Conc
set_option linter.unusedVariables false
set_option linter.unusedSimpArgs false
section
variable {n : Nat} {P : Program} {main : Bool} {Z : View → Frame → List Frame → Prop} {a : Act} {V : View} {ops : Array Oper} {j : Nat} {rest : List Nat} {o : Oper} {b : Frame} {k : List Item} {cs : List Frame}
theorem at_yields (hZ : OwnV n P main Z) (hke : b.kind ≠ .early) (ho : ops[j]? = some o) {v : Value} (hy : YieldsV P ops (· = V) o v a) (h : Z V (b.at (a.put o.dst v) (.inRegion ops rest :: k)) cs) : Z V (b.at a (.inRegion ops (j :: rest) :: k)) cs := by
  rcases hy with ⟨hw, hv⟩ | ⟨hw, rfl⟩
  · refine hZ _ _ _ fun w hs hl => ?_
    obtain ⟨h1, h2⟩ := hv V w rfl hs
    exact ⟨_, _, _, _, V, stepG_value ho hw hke h1, (StepV.rest hs hl h2).seen _, h⟩
  · exact hZ.ctl (fun w => stepG_unwanted ho hw) h
def bot (P : Program) : Frame := { (default : Frame) with fn := P.funcs.size, defers := [], mode := .panicking [goexitEntry] }
theorem quits_tail {f : FuncId} {fn : Func} (hf : P.funcs[f]? = some fn) (hres : fn.results = #[]) (T : Array Value) (todo : List Item) : QuitsIn P 2 (G { (baseD f).at ⟨T, []⟩ todo with mode := .returning } [bot P]) := by
  refine QuitsIn.ctl (g' := G (bot P) []) rfl (fun w => ?_) ?_
  · simp [G, stepG, unwind, doReturn, results, Frame.at, baseD, bot, hf, hres, seen, GStep.after, goexitEntry]
  refine QuitsIn.ctl (g' := { G (bot P) [] with status := .finished }) rfl (fun w => ?_) rfl
  simp [G, stepG, unwind, bot, goexitEntry, Frame.catches]
  rfl
theorem at_send {f : FuncId} {fn : Func} (hf : P.funcs[f]? = some fn) (hres : fn.results = #[]) (ho : ops[j]? = some o) (hw : Region.wanted o (yielded ops a.tmps) = true) (hd : o.dst = none) {x y : Operand} (hop : o.op = .send x y) {c : Nat} {v : Value}
    (hx : a.eval x = .chan (some c)) (hy : a.eval y = v) (hds : a.defers = []) : AtSendV P c v V ((baseD f).at a [.inRegion ops [j]]) [bot P] := by
  have he : execOp a.eval o = (pure (.comm #[scase c v (.tuple #[])] true .send) : Sem Next) := by
    obtain ⟨dst, op, ty, ps, af, gd⟩ := o
    simp only at hop
    subst hop
    simp [execOp, hx, hy, scase]
  refine ⟨.tuple #[], 4, fun w hs => ?_, ?_⟩
  · rw [stepG_comm ho hw (by simp [baseD]) (show (execOp a.eval o).run P w = .ok (.comm #[scase c v (.tuple #[])] true .send) w by rw [he]; rfl)]
    unfold listed
    rw [he]
    show GStep.comm _ _ _ _ _ (seen P _ #[]) = _
    rw [seen_none]
  · rw [served_fr, Frame.finish_at, ho]
    show QuitsIn P 4 (G ((baseD f).at (a.put o.dst undef) [.inRegion ops []]) [bot P])
    rw [hd]
    refine QuitsIn.ctl rfl (fun w => stepG_region_end) ?_
    refine QuitsIn.ctl rfl (fun w => stepG_end) ?_
    obtain ⟨T, ds⟩ := a
    simp only at hds
    subst hds
    exact quits_tail hf hres T _
theorem zw_born {f : FuncId} {fn : Func} {c : Code} {caps : Array Value} (hf : P.funcs[f]? = some fn) (hb : fn.body = some c) (hnm : (fn.name == "runtime.NumGoroutine") = false) (hZ : OwnV n P false Z)
    (h : Z V ((baseD f).at ⟨caps ++ Array.replicate (fn.ntmps - caps.size) undef, []⟩ [.code c]) [bot P]) : Z V (born P { target := .fn (.func f) caps, args := #[] }).frame [] := by
  refine hZ.ctl (fr' := (baseD f).at ⟨caps ++ Array.replicate (fn.ntmps - caps.size) undef, []⟩ [.code c]) (cs' := [bot P]) (fun w => ?_) h
  have hb0 : fn.body.isNone = false := by rw [hb]; rfl
  have hnm' : ¬ fn.name = "runtime.NumGoroutine" := by simpa using hnm
  simp [born, stepG, unwind, callDeferred, invoke, callFunc, hf, hb, hnm', hb0, seen, GStep.after, G, Frame.enter, Frame.at, baseD, bot]
end
end Go.Co
end

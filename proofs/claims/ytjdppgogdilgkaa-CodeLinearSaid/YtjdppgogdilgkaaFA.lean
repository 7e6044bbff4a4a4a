import Derived.Test.YtjdppgogdilgkaaSB
import Derived.Maps.OwnOps
import Derived.Maps.OwnSet
import Derived.Deep.QuietTactic
import Derived.Test.YtjdppgogdilgkaaME
import Derived.Deep.RegionHeld3
section
namespace Go.Proofs.Ytjdppgogdilgkaa
open Go.RowKit Go.Gf
set_option linter.unusedVariables false
set_option linter.unusedSimpArgs false
abbrev Pt := Int × ByteArray
def ptV (p : Pt) : Value := .agg #[.int .i64 p.1, .string p.2]
def EsAre (es : List MapEntry) (m : List Pt) : Prop := es.map (fun e => (e.key, e.val)) = m.map (fun p => (Value.int .i64 p.1, ptV p))
def MapAt (w : World) (b : Nat) (m : List Pt) : Prop := ∃ es c, w.heap[b]? = some (.map es c) ∧ EsAre es.toList m
def getM (m : List Pt) (i : Int) : Option Pt := m.find? (fun p => decide (p.1 = i))
theorem findNow_are (i : Int) : ∀ (es : List MapEntry) (m : List Pt) (n : Nat), EsAre es m →
    (getM m i = none → Instr.findNow (.int .i64) (.int .i64 i) es n = some none) ∧
    (∀ p, getM m i = some p → ∃ j e, Instr.findNow (.int .i64) (.int .i64 i) es n = some (some (n + j, ptV p)) ∧ es[j]? = some e ∧ e.key = .int .i64 i ∧ e.val = ptV p ∧ p.1 = i)
  | [], [], n, h => ⟨fun _ => rfl, fun p hp => by cases hp⟩
  | [], q :: m, n, h => by simp [EsAre] at h
  | e :: es, [], n, h => by simp [EsAre] at h
  | e :: es, q :: m, n, h => by
    simp only [EsAre, List.map_cons, List.cons.injEq, Prod.mk.injEq] at h
    obtain ⟨⟨h1, h2⟩, h3⟩ := h
    obtain ⟨i1, i2⟩ := findNow_are i es m (n + 1) h3
    have e1 : Instr.sameNow (.int .i64) (.int .i64 i) e.key = some (i == q.1) := by rw [h1]; rfl
    by_cases hq : q.1 = i
    · have e2 : Instr.findNow (.int .i64) (.int .i64 i) (e :: es) n = some (some (n, e.val)) := by
        unfold Instr.findNow
        rw [e1]
        simp [hq]
      refine ⟨fun h => (by simp [getM, hq] at h), fun p hp => ?_⟩
      have : q = p := by simpa [getM, hq] using hp
      subst this
      exact ⟨0, e, by rw [e2, h2]; rfl, rfl, by rw [h1, hq], h2, hq⟩
    · have e2 : Instr.findNow (.int .i64) (.int .i64 i) (e :: es) n = Instr.findNow (.int .i64) (.int .i64 i) es (n + 1) := by
        conv => lhs; unfold Instr.findNow
        rw [e1]
        have : (i == q.1) = false := by simp; exact fun h => hq h.symm
        rw [this]
      have e3 : getM (q :: m) i = getM m i := by simp [getM, hq]
      rw [e2, e3]
      refine ⟨i1, fun p hp => ?_⟩
      obtain ⟨j, e', k1, k2, k3, k4, k5⟩ := i2 p hp
      exact ⟨j + 1, e', by rw [k1, show n + 1 + j = n + (j + 1) by omega], by simpa using k2, k3, k4, k5⟩
theorem und87 : Try.prog.underlying 87 = some (.map 3 44) := Try.underlying87
theorem zero44 (w : World) : (zeroValue 44).run Try.prog w = .ok (ptV (0, { data := #[] })) w := by kernel_rfl
theorem checkKey_int (b : Bool) (i : Int) (w : World) : (Instr.checkKey b 10000 3 (.int .i64 i)).run Try.prog w = .ok () w := by
  unfold Instr.checkKey
  simp only [Sem.run_bind, run_underlying Try.underlying3, Result.andThen_ok]
  rfl
theorem findKey_are {es : List MapEntry} {m : List Pt} (h : EsAre es m) (i : Int) (w : World) :
    (getM m i = none → (Instr.findKey 3 (.int .i64 i) es).run Try.prog w = .ok none w) ∧
    (∀ p, getM m i = some p → ∃ j e, (Instr.findKey 3 (.int .i64 i) es).run Try.prog w = .ok (some (j, ptV p)) w ∧ es[j]? = some e ∧ e.key = .int .i64 i ∧ e.val = ptV p ∧ p.1 = i) := by
  obtain ⟨h1, h2⟩ := findNow_are i es m 0 h
  constructor
  · intro hn
    unfold Instr.findKey
    simp only [Sem.run_bind, run_underlying Try.underlying3, Result.andThen_ok, h1 hn]
    rfl
  · intro p hp
    obtain ⟨j, e, k1, k2⟩ := h2 p hp
    refine ⟨j, e, ?_, k2⟩
    unfold Instr.findKey
    simp only [Sem.run_bind, run_underlying Try.underlying3, Result.andThen_ok, k1, Nat.zero_add]
    rfl
theorem run_lookup {w : World} {b : Nat} {m : List Pt} (h : MapAt w b m) (i : Int) :
    (Instr.lookup 87 (.map (some b)) (.int .i64 i) true).run Try.prog w = .ok (.tuple #[ptV ((getM m i).getD (0, { data := #[] })), .bool (getM m i).isSome]) w := by
  obtain ⟨es, c, hb, he⟩ := h
  have hg : (getObj b).run Try.prog w = .ok (.map es c) w := by simp [getObj, Sem.run, hb]
  unfold Instr.lookup
  simp only [Sem.run_bind, run_underlying und87, Result.andThen_ok, hg, Sem.run_pure, checkKey_int]
  obtain ⟨h1, h2⟩ := findKey_are he i w
  cases hm : getM m i with
  | none =>
    simp only [h1 hm, Result.andThen_ok, Sem.run_bind, zero44, Sem.run_pure]
    rfl
  | some p =>
    obtain ⟨j, e, k1, _⟩ := h2 p hm
    simp only [k1, Result.andThen_ok, Sem.run_bind, Sem.run_pure]
    rfl
theorem sameBits_int (i : Int) : Instr.sameBits 10000 (.int .i64 i) (.int .i64 i) = true := by
  unfold Instr.sameBits
  simp
theorem run_put {w : World} {b : Nat} {m : List Pt} (h : MapAt w b m) (p : Pt) (hp : ∀ q, getM m p.1 = some q → q = p) :
    ∃ o, (Instr.mapUpdate 87 (.map (some b)) (.int .i64 p.1) (ptV p)).run Try.prog w = .ok () { w with heap := w.heap.setIfInBounds b o } ∧ MapAt { w with heap := w.heap.setIfInBounds b o } b (if (getM m p.1).isSome then m else m ++ [p]) := by
  obtain ⟨es, c, hb, he⟩ := h
  have hlt : b < w.heap.size := (Array.getElem?_eq_some_iff.1 hb).1
  have hg : (getObj b).run Try.prog w = .ok (.map es c) w := by simp [getObj, Sem.run, hb]
  have hset : ∀ o, (setObj b o).run Try.prog w = .ok () { w with heap := w.heap.setIfInBounds b o } := fun o => by simp [setObj, Sem.run, hb]
  have hget : ∀ o : Obj, ({ w with heap := w.heap.setIfInBounds b o } : World).heap[b]? = some o := fun o => by
    show (w.heap.setIfInBounds b o)[b]? = _
    rw [Array.getElem?_setIfInBounds_self_of_lt hlt]
  unfold Instr.mapUpdate
  simp only [Sem.run_bind, run_underlying und87, Result.andThen_ok, hg, checkKey_int]
  obtain ⟨h1, h2⟩ := findKey_are he p.1 w
  cases hm : getM m p.1 with
  | none =>
    refine ⟨.map (es.push { key := .int .i64 p.1, val := ptV p, born := c }) (c + 1), ?_, _, _, hget _, ?_⟩
    · simp only [h1 hm, Result.andThen_ok, hset]
    · simp only [Option.isSome_none, Bool.false_eq_true, if_false, EsAre, Array.toList_push, List.map_append, List.map_cons, List.map_nil]
      rw [show es.toList.map (fun e => (e.key, e.val)) = m.map (fun p => (Value.int .i64 p.1, ptV p)) from he]
  | some q =>
    obtain rfl := hp q hm
    obtain ⟨j, e, k1, k2, k3, k4, k5⟩ := h2 q hm
    refine ⟨.map (es.modify j fun e => { e with key := .int .i64 q.1, val := ptV q }) c, ?_, _, _, hget _, ?_⟩
    · have hk : es[j]? = some e := by simpa using k2
      simp only [k1, Result.andThen_ok, Sem.run_bind]
      rw [hk]
      simp only [Option.map_some, Option.getD_some, k3]
      have : (Instr.keyThatStays (.int .i64 q.1) (.int .i64 q.1)).run Try.prog w = .ok (.int .i64 q.1) w := by
        unfold Instr.keyThatStays
        rw [sameBits_int]
        rfl
      rw [this]
      simp only [Result.andThen_ok, hset]
    · simp only [Option.isSome_some, if_true, EsAre]
      rw [← show es.toList.map (fun e => (e.key, e.val)) = m.map (fun p => (Value.int .i64 p.1, ptV p)) from he]
      apply List.ext_getElem?
      intro i
      rw [List.getElem?_map, List.getElem?_map]
      have hi : (es.modify j fun e => { e with key := .int .i64 q.1, val := ptV q }).toList[i]? = if j = i then (es.toList[i]?).map (fun e => { e with key := .int .i64 q.1, val := ptV q }) else es.toList[i]? := by
        rw [Array.getElem?_toList, Array.getElem?_modify, Array.getElem?_toList]
      rw [hi]
      by_cases hji : j = i
      · subst hji
        rw [if_pos rfl, k2]
        simp [k3, k4]
      · rw [if_neg hji]
theorem getM_mem {m : List Pt} {i : Int} {p : Pt} (h : getM m i = some p) : p ∈ m ∧ p.1 = i := by
  refine ⟨List.mem_of_find?_eq_some h, ?_⟩
  have := List.find?_some h
  simpa using this
theorem getM_none {m : List Pt} {i : Int} (h : getM m i = none) : ∀ p ∈ m, p.1 ≠ i := by
  intro p hp e
  have := List.find?_eq_none.1 h p hp
  simp [e] at this
end Go.Proofs.Ytjdppgogdilgkaa
end
section
namespace Go.Proofs.Ytjdppgogdilgkaa
open Go.RowKit Go.Gf
set_option linter.unusedVariables false
set_option linter.unusedSimpArgs false
def PtRd (w : World) (A : Option Addr) (n : Nat) (l : List Pt) : Prop :=
  l.length = n ∧ (0 < n → ∃ g o, A = some ⟨g, o, none⟩ ∧ ∀ i p, l[i]? = some p → w.cell? ⟨g, o + i * 2, none⟩ = some (.int .i64 p.1) ∧ w.cell? ⟨g, o + i * 2 + 1, none⟩ = some (.string p.2))
theorem PtRd.ext {w w' : World} {A : Option Addr} {n : Nat} {l : List Pt} (h : PtRd w A n l) (hE : Ext w w') : PtRd w' A n l :=
  ⟨h.1, fun hn => by
    obtain ⟨g, o, e, hc⟩ := h.2 hn
    exact ⟨g, o, e, fun i p hi => ⟨hE.cellv (hc i p hi).1, hE.cellv (hc i p hi).2⟩⟩⟩
def zL (l : List Pt) : Nat := ((l.getD 0 (0, { data := #[] })).2).size
def badB (N : Nat) (z : Nat) (pre : List Pt) (x : Pt) : Bool :=
  decide (x.1 < 0) || decide ((N : Int) ≤ x.1) || decide (x.2.size ≠ z) || (match getM pre x.1 with | some q => decide (q.2 ≠ x.2) | none => false)
def okTo (N : Nat) (l : List Pt) (j : Nat) : Prop := ∀ i, i < j → ∀ x, l[i]? = some x → badB N (zL l) (l.take i) x = false
def putM (m : List Pt) (p : Pt) : List Pt := if (getM m p.1).isSome then m else m ++ [p]
def mapM (l : List Pt) : List Pt := l.foldl putM []
theorem mapM_succ (l : List Pt) (p : Pt) : mapM (l ++ [p]) = putM (mapM l) p := by simp [mapM]
theorem getM_put (m : List Pt) (p : Pt) (i : Int) : getM (putM m p) i = getM (m ++ [p]) i := by
  unfold putM
  by_cases h : (getM m p.1).isSome = true
  · rw [if_pos h]
    unfold getM at *
    rw [List.find?_append]
    cases hm : List.find? (fun p => decide (p.1 = i)) m with
    | some q => rfl
    | none =>
      by_cases hi : p.1 = i
      · rw [hi, hm] at h; cases h
      · simp [hi]
  · rw [if_neg h]
theorem getM_mapM (l : List Pt) (i : Int) : getM (mapM l) i = getM l i := by
  suffices h : ∀ (m : List Pt), getM (l.foldl putM m) i = getM (m ++ l) i by simpa [mapM] using h []
  induction l with
  | nil => intro m; simp
  | cons p l ih =>
    intro m
    rw [List.foldl_cons, ih]
    unfold getM at *
    have := getM_put m p i
    unfold getM at this
    rw [List.find?_append, this, ← List.find?_append, List.append_assoc]
    rfl
theorem results_tmps3 {P : Program} {fn : Func} {t u x : Tmp} (h : fn.results = #[.tmp t, .tmp u, .tmp x]) {tmps : Array Value} {a b c : Value} (ha : tmps.getD t undef = a) (hb : tmps.getD u undef = b) (hc : tmps.getD x undef = c) (w : World) : (results fn tmps).run P w = .ok (.tuple #[a, b, c]) w := by
  have ha' : tmps[t]?.getD undef = a := by simpa using ha
  have hb' : tmps[u]?.getD undef = b := by simpa using hb
  have hc' : tmps[x]?.getD undef = c := by simpa using hc
  have e : results fn tmps = Sem.pure (.tuple #[a, b, c]) := by
    simp only [results, h]
    simp [ha', hb', hc']
    rfl
  rw [e]; rfl
theorem ext_set {w w' : World} {b : Nat} {o : Obj} (h : Ext w w') (hb : w.heap.size ≤ b) : Ext w { w' with heap := w'.heap.setIfInBounds b o } :=
  ⟨h.os, h.tape, h.output, by have := h.size; simpa using this, fun k hk => by
    show (w'.heap.setIfInBounds b o)[k]? = _
    rw [Array.getElem?_setIfInBounds_ne (by omega)]
    exact h.block k hk⟩
def idxs (N : Nat) (l : List Pt) : List Nat := (List.range N).filter (fun (i : Nat) => (getM l (i : Int)).isSome)
def txtL (l : List Pt) (i : Nat) : ByteArray := ((getM l (i : Int)).getD (0, { data := #[] })).2
theorem keys_put {m : List Pt} (p : Pt) (h : (m.map (·.1)).Nodup) : ((putM m p).map (·.1)).Nodup := by
  unfold putM
  by_cases hg : (getM m p.1).isSome = true
  · rw [if_pos hg]; exact h
  · rw [if_neg hg, List.map_append, List.nodup_append]
    refine ⟨h, by simp, fun a ha b hb => ?_⟩
    obtain rfl : b = p.1 := by simpa using hb
    obtain ⟨q, hq, rfl⟩ := List.mem_map.1 ha
    have : getM m p.1 = none := by simpa using hg
    exact getM_none this q hq
theorem keys_mapM (l : List Pt) : ((mapM l).map (·.1)).Nodup := by
  suffices h : ∀ (m : List Pt), (m.map (·.1)).Nodup → ((l.foldl putM m).map (·.1)).Nodup from h [] (by simp)
  induction l with
  | nil => exact fun m h => h
  | cons p l ih => exact fun m h => ih _ (keys_put p h)
theorem getM_some {m : List Pt} {p : Pt} (h : p ∈ m) : (getM m p.1).isSome = true := by
  unfold getM
  rw [List.find?_isSome]
  exact ⟨p, h, by simp⟩
theorem ok_range {N : Nat} {l : List Pt} (h : okTo N l l.length) {p : Pt} (hp : p ∈ l) : 0 ≤ p.1 ∧ p.1 < N := by
  obtain ⟨i, hi, rfl⟩ := List.mem_iff_getElem.1 hp
  have := h i hi _ (List.getElem?_eq_getElem hi)
  unfold badB at this
  simp at this
  omega
theorem len_map {N : Nat} {l : List Pt} (h : okTo N l l.length) : (mapM l).length = (idxs N l).length := by
  have h1 : ((mapM l).map (·.1)).Perm ((idxs N l).map (fun (i : Nat) => (i : Int))) := by
    refine (List.perm_ext_iff_of_nodup (keys_mapM l) ?_).2 fun a => ?_
    · exact List.pairwise_map.2 ((List.nodup_range.filter _).imp fun h e => h (by have : ((_ : Nat) : Int) = ((_ : Nat) : Int) := e; omega))
    · constructor
      · intro ha
        obtain ⟨q, hq, rfl⟩ := List.mem_map.1 ha
        have hs := getM_some hq
        rw [getM_mapM] at hs
        obtain ⟨p, hp⟩ := Option.isSome_iff_exists.1 hs
        obtain ⟨k1, k2⟩ := getM_mem hp
        have := ok_range h k1
        refine List.mem_map.2 ⟨q.1.toNat, ?_, by omega⟩
        unfold idxs
        rw [List.mem_filter]
        refine ⟨by rw [List.mem_range]; omega, ?_⟩
        rw [show ((q.1.toNat : Nat) : Int) = q.1 by omega]
        exact hs
      · intro ha
        obtain ⟨i, hi, rfl⟩ := List.mem_map.1 ha
        unfold idxs at hi
        rw [List.mem_filter] at hi
        have hs := hi.2
        rw [← getM_mapM] at hs
        obtain ⟨p, hp⟩ := Option.isSome_iff_exists.1 hs
        obtain ⟨k1, k2⟩ := getM_mem hp
        exact List.mem_map.2 ⟨p, k1, k2⟩
  have := h1.length_eq
  simpa using this
theorem run_len_map {w : World} {b c : Nat} {m : List Pt} (h : MapAt w b m) (hc : m.length = c) (ty : TypeId) : (Builtin.len_ #[87] ty #[.map (some b)]).run Try.prog w = .ok (.int .i64 (c : Int)) w := by
  obtain ⟨es, cl, hb, he⟩ := h
  have hg : (getObj b).run Try.prog w = .ok (.map es cl) w := by simp [getObj, Sem.run, hb]
  have hs : es.size = c := by
    have := congrArg List.length he
    simpa [hc] using this
  unfold Builtin.len_
  simp only [List.getElem?_toArray, List.getElem?_cons_zero, Sem.run_bind, run_underlying und87, Result.andThen_ok, hg, Sem.run_pure, hs]
  rfl
theorem wpList_lenM {ops : Array Oper} {rest : List Oper} {o : Oper} {a : Act} {w : World} {Q : Exit → Act → World → Prop} (hgd : o.guard = none) (x : Operand) (ho : o.op = .call { callee := .builtin .len, args := #[x], argTypes := #[87] })
    (b c : Nat) (m : List Pt) (hx : a.eval x = .map (some b)) (hM : MapAt w b m) (hc : m.length = c) (h : wpList Try.prog ops Q rest (a.put o.dst (.int .i64 (c : Int))) w) : wpList Try.prog ops Q (o :: rest) a w := by
  refine wpList_plain hgd fun _ hK => ?_
  have hrun := run_len_map hM hc o.type
  unfold Oper.wp execOp
  simp only [ho, resolve, invoke, builtin, Sem.run_bind, Sem.run_pure, Result.andThen_ok, List.map_toArray, List.map_cons, List.map_nil, hx, hrun]
  exact hK _ _ h
def pk (l : List Pt) (k i : Nat) : List Nat := ((List.range i).filter (fun (i : Nat) => (getM l (i : Int)).isSome)).take k
theorem pk_yes {l : List Pt} {k i : Nat} (h : (getM l (i : Int)).isSome = true) (hl : (pk l k i).length < k) : pk l k (i + 1) = pk l k i ++ [i] := by
  unfold pk at *
  rw [List.range_succ, List.filter_append]
  have e : [i].filter (fun (i : Nat) => (getM l (i : Int)).isSome) = [i] := by simp [h]
  rw [e]
  generalize (List.range i).filter (fun (i : Nat) => (getM l (i : Int)).isSome) = L at *
  rw [List.length_take] at hl
  have e2 : L.take k = L := List.take_of_length_le (by omega)
  rw [e2]
  exact List.take_of_length_le (by simp; omega)
theorem pk_no {l : List Pt} {k i : Nat} (h : (getM l (i : Int)).isSome = false ∨ k ≤ (pk l k i).length) : pk l k (i + 1) = pk l k i := by
  unfold pk at *
  rw [List.range_succ, List.filter_append]
  rcases h with h | h
  · have e : [i].filter (fun (i : Nat) => (getM l (i : Int)).isSome) = [] := by simp [h]
    rw [e, List.append_nil]
  · generalize (List.range i).filter (fun (i : Nat) => (getM l (i : Int)).isSome) = L at *
    rw [List.length_take] at h
    rw [List.take_append_of_le_length (by omega)]
structure Two (w : World) (base : Nat) (v : Value) (xs : List Value) (u : Value) (ys : List Value) : Prop where
  a : w.ownsRow base 9 1 v xs.length xs
  b : w.ownsRow base 9 1 u ys.length ys
  apart : ∀ g, v.ownBlock = some g → u.ownBlock ≠ some g
theorem Two.alloc {w : World} {base : Nat} {v u : Value} {xs ys : List Value} (h : Two w base v xs u ys) (o : Obj) : Two (w.alloc o) base v xs u ys := ⟨h.a.alloc o, h.b.alloc o, h.apart⟩
theorem Two.drew {w : World} {base : Nat} {v u : Value} {xs ys : List Value} (h : Two w base v xs u ys) : Two w.drew base v xs u ys := ⟨h.a, h.b, h.apart⟩
theorem own_val2 {w : World} {base n : Nat} {e : TypeId} {v : Value} {xs : List Value} (h : w.ownsRow base e 1 v n xs) : ∃ (A : Option Addr) (cap : Nat), v = .slice A n cap := by
  rcases h.2 with ⟨hv, h0⟩ | ⟨g, c, cur, hv, _⟩
  · exact ⟨none, 0, by rw [hv, h0]⟩
  · exact ⟨_, c, hv⟩
theorem rd_owns' {w : World} {base m n cap : Nat} {e : TypeId} {A : Option Addr} {xs : List Value} (h : w.ownsRow base e 1 (.slice A m cap) n xs) : Rd w A n xs := by
  obtain ⟨A', c, hv⟩ := own_val2 h
  injection hv with h1 h2 h3
  subst h1 h2 h3
  exact rd_owns h
theorem Two.put1 {w w' : World} {base : Nat} {v v' u : Value} {xs ys zs : List Value} (h : Two w base v xs u ys) (ho : w'.ownsRow base 9 1 v' zs.length zs) (hg : w.grownBy w' v.ownBlock) (hb : v'.ownBlock = v.ownBlock ∨ v'.ownBlock = some w.heap.size) : Two w' base v' zs u ys := by
  refine ⟨ho, h.b.kept hg ?_, fun g hg' e => ?_⟩
  · cases hu : u.ownBlock with
    | none => exact .inl rfl
    | some g => exact .inr fun e => h.apart g e.symm hu
  · rcases hb with hb | hb
    · exact h.apart g (hb ▸ hg') e
    · rw [hb] at hg'
      injection hg' with hg'
      subst hg'
      have := (h.b.lt _ e).2
      omega
theorem Two.put2 {w w' : World} {base : Nat} {v u u' : Value} {xs ys zs : List Value} (h : Two w base v xs u ys) (ho : w'.ownsRow base 9 1 u' zs.length zs) (hg : w.grownBy w' u.ownBlock) (hb : u'.ownBlock = u.ownBlock ∨ u'.ownBlock = some w.heap.size) : Two w' base v xs u' zs := by
  refine ⟨h.a.kept hg ?_, ho, fun g hg' e => ?_⟩
  · cases hu : v.ownBlock with
    | none => exact .inl rfl
    | some g => exact .inr fun e => h.apart g hu e.symm
  · rcases hb with hb | hb
    · exact h.apart g hg' (hb ▸ e)
    · rw [hb] at e
      injection e with e
      subst e
      have := (h.a.lt _ hg').2
      omega
section
variable {ops : Array Oper} {a : Act} {Q : Exit → Act → World → Prop}
set_option maxRecDepth 100000 in
theorem step_app1 {o : Oper} {K : Act → World → Prop} {E : Prop} (w : World) (hgd : o.guard = none) (s x : Operand) (t : TypeId) (ho : o.op = .call { callee := .builtin .append, args := #[s, x], argTypes := #[t, t] })
    (ht : Try.prog.underlying t = some (.slice 9)) (base : Nat) (v : Value) (xs : List Value) (hs : a.eval s = v) (hown : w.ownsRow base 9 1 v xs.length xs) (hbase : base ≤ w.heap.size)
    (H : Nat) (y : ByteArray) (hx : a.eval x = .slice (some ⟨H, 0, none⟩) 1 1) (hH : w.cell? ⟨H, 0, none⟩ = some (.string y)) (hn : xs.length ≤ 1000)
    (h : ∀ v' w', w'.ownsRow base 9 1 v' (xs ++ [Value.string y]).length (xs ++ [Value.string y]) → w.grownBy w' v.ownBlock → (v'.ownBlock = v.ownBlock ∨ v'.ownBlock = some w.heap.size) → K (a.put o.dst v') w') :
    if Region.wanted o (yielded ops a.tmps) = true then Oper.wp Try.prog o a w K Q else E := by
  obtain ⟨i0, hi0, hz0, hz1, hz2⟩ := info_parts info9
  have hw : Region.wanted o (yielded ops a.tmps) = true := by simp [Region.wanted, hgd]
  rw [if_pos hw]
  obtain ⟨v', w', hr', h2, h3, _, h5⟩ := run_append_own_at (P := Try.prog) w base t o.type 9 i0 (.string { data := #[] }) 1 16 ht hi0 hz0 hz1 hz2 rfl (by omega) v xs.length xs hown ⟨H, 0, none⟩ 1 1 [.string y] rfl (fun j u hj => by
    match j, hj with
    | 0, hj => injection hj with hj; subst hj; rw [Addr.add_mid]; exact hH
    | j + 1, hj => cases hj) (fun u hu => by obtain rfl := List.mem_singleton.1 hu; rfl) (by unfold maxLen; omega) (by omega) hbase
  unfold Oper.wp execOp
  simp only [ho, resolve, invoke, builtin, Sem.run_bind, Sem.run_pure, Result.andThen_ok, List.map_toArray, List.map_cons, List.map_nil, hs, hx, hr']
  exact h v' w' (by rw [List.length_append]; exact h2) h3 h5
end
theorem cell_a (w : World) (t : TypeId) (y : Value) : (w.alloc (.cells #[y] t)).cell? ⟨w.heap.size, 0, none⟩ = some y := by rw [(Blk.new w t _).cell]; rfl
theorem cell_b (w : World) (o : Obj) (t : TypeId) (y : Value) : ((w.alloc o).alloc (.cells #[y] t)).cell? ⟨w.heap.size + 1, 0, none⟩ = some y := by
  have := cell_a (w.alloc o) t y
  rwa [show (w.alloc o).heap.size = w.heap.size + 1 by simp] at this
theorem cell_c (w : World) (o : Obj) (t : TypeId) (y : Value) : ((w.alloc (.cells #[y] t)).alloc o).cell? ⟨w.heap.size, 0, none⟩ = some y := ((Ext.refl _).alloc o).cellv (cell_a w t y)
theorem cell_a' (w : World) (t : TypeId) (y : Value) (n : Nat) (hn : n = w.heap.size) : (w.alloc (.cells #[y] t)).cell? ⟨n, 0, none⟩ = some y := by subst hn; exact cell_a w t y
theorem cell_c' (w : World) (o : Obj) (t : TypeId) (y : Value) (n : Nat) (hn : n = w.heap.size) : ((w.alloc (.cells #[y] t)).alloc o).cell? ⟨n, 0, none⟩ = some y := by subst hn; exact cell_c w o t y
theorem cell_aD (w : World) (t : TypeId) (y : Value) (n : Nat) (hn : n = w.heap.size) : (w.alloc (.cells #[y] t)).drew.cell? ⟨n, 0, none⟩ = some y := cell_a' w t y n hn
theorem cell_cD (w : World) (o : Obj) (t : TypeId) (y : Value) (n : Nat) (hn : n = w.heap.size) : ((w.alloc (.cells #[y] t)).alloc o).drew.cell? ⟨n, 0, none⟩ = some y := cell_c' w o t y n hn
def FirstsIs (k r : Nat) (l : List Pt) (w : World) (e : Ending) (w' : World) : Prop :=
  (¬ okTo (k + r) l l.length ∧ e = .returned (.tuple #[.slice none 0 0, .slice none 0 0, .int .i64 61]) ∧ Ext w w') ∨
  (okTo (k + r) l l.length ∧ (idxs (k + r) l).length < k ∧ e = .returned (.tuple #[.slice none 0 0, .slice none 0 0, .int .i64 60]) ∧ Ext w w') ∨
  (okTo (k + r) l l.length ∧ k ≤ (idxs (k + r) l).length ∧ ∃ (A B : Option Addr) (c d : Nat), e = .returned (.tuple #[.slice A k c, .slice B k d, .int .i64 0]) ∧
    Rd w' A k ((((idxs (k + r) l).take k).map (fun i => (everyM k r).getD i { data := #[] })).map Value.string) ∧ Rd w' B k ((((idxs (k + r) l).take k).map (txtL l)).map Value.string) ∧ Ext w w')
theorem MapAt.of_heap {w w' : World} {b : Nat} {m : List Pt} (h : MapAt w b m) (e : w'.heap[b]? = w.heap[b]?) : MapAt w' b m := by
  obtain ⟨es, c, h1, h2⟩ := h
  exact ⟨es, c, e.trans h1, h2⟩
theorem MapAt.lt {w : World} {b : Nat} {m : List Pt} (h : MapAt w b m) : b < w.heap.size := by
  obtain ⟨es, c, h1, _⟩ := h
  exact (Array.getElem?_eq_some_iff.1 h1).1
theorem mapAt_ext {w w' : World} {b : Nat} {m : List Pt} (h : MapAt w b m) (hE : Ext w w') : MapAt w' b m := h.of_heap (hE.block b h.lt)
theorem MapAt.alloc {w : World} {b : Nat} {m : List Pt} (h : MapAt w b m) (o : Obj) : MapAt (w.alloc o) b m := h.of_heap (Below.heap_alloc w o b h.lt)
theorem MapAt.drewN {w : World} {b : Nat} {m : List Pt} (h : MapAt w b m) (n : Nat) : MapAt (w.drewN n) b m := h
theorem MapAt.drew {w : World} {b : Nat} {m : List Pt} (h : MapAt w b m) : MapAt w.drew b m := h
theorem ok_next {N : Nat} {l : List Pt} {j : Nat} {x : Pt} (h : okTo N l j) (hx : l[j]? = some x) (hb : badB N (zL l) (l.take j) x = false) : okTo N l (j + 1) := fun i hi y hy => by
  rcases Nat.lt_or_ge i j with h1 | h1
  · exact h i h1 y hy
  · obtain rfl : i = j := by omega
    rw [hx] at hy; injection hy with hy; subst hy; exact hb
theorem ok_not {N : Nat} {l : List Pt} {j : Nat} {x : Pt} (hj : j < l.length) (hx : l[j]? = some x) (hb : badB N (zL l) (l.take j) x = true) : ¬ okTo N l l.length := fun h => by
  have := h j hj x hx
  rw [hb] at this; cases this
set_option maxHeartbeats 4000000 in
set_option maxRecDepth 100000 in
theorem firsts_any (k r : Nat) (hk : 1 ≤ k) (h : k + r ≤ 32) (A : Option Addr) (n cap : Nat) (l : List Pt) (w : World) (hr : PtRd w A n l) (hn : n ≤ 1048576) (hz : ∀ p ∈ l, p.2.size ≤ 1048576) (hi : ∀ p ∈ l, -9223372036854775808 ≤ p.1 ∧ p.1 ≤ 9223372036854775807) :
    Calls Try.prog 27 #[.int .i64 k, .int .i64 r, .slice A n cap] w (FirstsIs k r l w) := by
  have hlen : l.length = n := hr.1
  have hmm := @run_makeMap Try.prog
  go_enter Try.func27, Try.ntmps27
  go_wp2
  have hM0 : MapAt (w.alloc (.map #[] 0)) w.heap.size (mapM (l.take 0)) := ⟨#[], 0, heap_alloc_new w _, rfl⟩
  have hE0 := (Ext.refl w).alloc (.map #[] 0)
  obtain ⟨b, hb⟩ : ∃ b, b = w.heap.size := ⟨_, rfl⟩
  have hbw : w.heap.size ≤ b := by omega
  rw [← hb] at hM0 ⊢
  clear hb
  go_loopw [6, 7, 21] (fun v6 v7 iv wr => v6 = .slice none 0 0 ∧ v7 = .slice none 0 0 ∧ ∃ j : Nat, j ≤ n ∧ iv = .int .i64 j ∧ Ext w wr ∧ MapAt wr b (mapM (l.take j)) ∧ okTo (k + r) l j) (fun _ _ iv _ => n - (intOf iv).toNat)
  case atStart => exact ⟨rfl, rfl, 0, by omega, rfl, hE0, hM0, fun i hi => by omega⟩
  case round =>
    obtain ⟨rfl, rfl, j, hj, rfl, hE, hM, hok⟩ := hrel
    clear hE0 hM0
    by_cases hj2 : j < n
    · obtain ⟨gs, os, rfl, hcl⟩ := hr.2 (by omega)
      have hlj : j < l.length := by omega
      have hx := List.getElem?_eq_getElem hlj
      have hmem := List.getElem_mem hlj
      have htk : l.take (j + 1) = l.take j ++ [l[j]'hlj] := List.take_succ_eq_append_getElem hlj
      obtain ⟨hc1, hc2⟩ := hcl j _ hx
      replace hc1 := hE.cellv hc1
      replace hc2 := hE.cellv hc2
      generalize l[j]'hlj = x at *
      have kk : (j : Int) < (n : Int) := by omega
      have kk0 : (0 : Int) ≤ (j : Int) := by omega
      have hM1 := hM.alloc (.cells #[.int .i64 x.1, .string x.2] 44)
      have hE1 := hE.alloc (.cells #[.int .i64 x.1, .string x.2] 44)
      have hlk := run_lookup hM1 x.1
      rw [getM_mapM] at hlk
      by_cases hn0 : x.1 < 0
      · have hbad : badB (k + r) (zL l) (l.take j) x = true := by unfold badB; simp [hn0]
        have HN := Lib.hid (ok_not hlj hx hbad)
        clear hok hbad
        generalize (getM (l.take j) x.1).getD (0, { data := #[] }) = q at *
        generalize (getM (l.take j) x.1).isSome = is at *
        obtain ⟨qi, qt⟩ := q
        simp only [ptV] at hlk
        go_wp2_with fail
        go_quiet (fail)
        go_wp2
        refine bodyPost_ret (results_tmps3 rfl rfl rfl rfl _) rfl ?_
        exact .inl ⟨HN.out, rfl, ((hE1.alloc _).drewN _)⟩
      have d1 : decide (x.1 < 0) = false := by simpa using hn0
      by_cases hn1 : (k : Int) + (r : Int) ≤ x.1
      · have hbad : badB (k + r) (zL l) (l.take j) x = true := by unfold badB; simp; omega
        have HN := Lib.hid (ok_not hlj hx hbad)
        clear hok hbad
        generalize (getM (l.take j) x.1).getD (0, { data := #[] }) = q at *
        generalize (getM (l.take j) x.1).isSome = is at *
        obtain ⟨qi, qt⟩ := q
        simp only [ptV] at hlk
        go_wp2_with fail
        go_quiet (fail)
        go_wp2
        refine bodyPost_ret (results_tmps3 rfl rfl rfl rfl _) rfl ?_
        exact .inl ⟨HN.out, rfl, ((hE1.alloc _).drewN _)⟩
      have d2 : decide ((k : Int) + (r : Int) ≤ x.1) = false := by simpa using hn1
      obtain ⟨x0, hx0⟩ : ∃ x0, l[0]? = some x0 := ⟨_, List.getElem?_eq_getElem (by omega)⟩
      have hz0 : zL l = x0.2.size := by unfold zL; rw [List.getD_eq_getElem?_getD, hx0]; rfl
      have hc0 := hE1.cellv (hcl 0 _ hx0).2
      simp only [Nat.zero_mul, Nat.add_zero] at hc0
      have e0 : 0 < n := by omega
      have e1 : (0 : Int) < (n : Int) := by omega
      by_cases hn2 : x.2.size ≠ x0.2.size
      · have d3 : ((x.2.size : Int) != (x0.2.size : Int)) = true := by simp; omega
        have hbad : badB (k + r) (zL l) (l.take j) x = true := by unfold badB; simp; exact .inl (.inr (by omega))
        have HN := Lib.hid (ok_not hlj hx hbad)
        clear hok hbad
        generalize (getM (l.take j) x.1).getD (0, { data := #[] }) = q at *
        generalize (getM (l.take j) x.1).isSome = is at *
        obtain ⟨qi, qt⟩ := q
        simp only [ptV] at hlk
        replace hc0 := ((Ext.refl _).alloc (.cells #[.int .i64 qi, .string qt] 44)).cellv hc0
        go_wp2_with fail
        go_quiet (fail)
        go_wp2
        refine bodyPost_ret (results_tmps3 rfl rfl rfl rfl _) rfl ?_
        exact .inl ⟨HN.out, rfl, ((hE1.alloc _).drewN _)⟩
      have d3 : ((x.2.size : Int) != (x0.2.size : Int)) = false := by simp; omega
      have hxN : ((x.1.toNat : Nat) : Int) = x.1 := by omega
      cases hg : getM (l.take j) x.1 with
      | none =>
        have hbad : badB (k + r) (zL l) (l.take j) x = false := by unfold badB; rw [hg]; simp; omega
        have HOK := Lib.hid (ok_next hok hx hbad)
        have HTK := Lib.hid htk
        have HP := Lib.hid (show ∀ q, getM (mapM (l.take j)) x.1 = some q → q = x from fun q hq => by rw [getM_mapM, hg] at hq; cases hq)
        simp only [hg, Option.getD_none, Option.isSome_none, ptV] at hlk
        replace hc0 := ((Ext.refl _).alloc (.cells #[.int .i64 (0 : Int), .string ({ data := #[] } : ByteArray)] 44)).cellv hc0
        have HM3 := Lib.hid (hM1.alloc (.cells #[.int .i64 (0 : Int), .string ({ data := #[] } : ByteArray)] 44))
        have HE3 := Lib.hid (hE1.alloc (.cells #[.int .i64 (0 : Int), .string ({ data := #[] } : ByteArray)] 44))
        clear hok hbad htk hg
        go_wp2_with fail
        go_quiet (fail)
        have HE4 := Lib.hid (HE3.out.drewN nq)
        obtain ⟨o, hput, hM4⟩ := run_put (HM3.out.drewN nq) x HP.out
        simp only [ptV] at hput
        have HM4 := Lib.hid hM4
        clear hM4
        go_wp2
        go_roundw
        case rel => exact ⟨rfl, rfl, j + 1, by omega, by go_num, ext_set HE4.out hbw, by rw [HTK.out, mapM_succ]; exact HM4.out, HOK.out⟩
        case measure => simp [intOf]; omega
      | some q =>
        obtain ⟨qi, qt⟩ := q
        by_cases hq : qt = x.2
        · subst hq
          have hbad : badB (k + r) (zL l) (l.take j) x = false := by unfold badB; rw [hg]; simp; omega
          have HOK := Lib.hid (ok_next hok hx hbad)
          have HTK := Lib.hid htk
          have HP := Lib.hid (show ∀ q, getM (mapM (l.take j)) x.1 = some q → q = x from fun q hq => by rw [getM_mapM, hg] at hq; injection hq with hq; subst hq; exact Prod.ext (by have := (getM_mem hg).2; exact this) rfl)
          simp only [hg, Option.getD_some, Option.isSome_some, ptV] at hlk
          replace hc0 := ((Ext.refl _).alloc (.cells #[.int .i64 qi, .string x.2] 44)).cellv hc0
          have HM3 := Lib.hid (hM1.alloc (.cells #[.int .i64 qi, .string x.2] 44))
          have HE3 := Lib.hid (hE1.alloc (.cells #[.int .i64 qi, .string x.2] 44))
          clear hok hbad htk hg
          go_wp2_with fail
          go_quiet (fail)
          have HE4 := Lib.hid (HE3.out.drewN nq)
          obtain ⟨o, hput, hM4⟩ := run_put (HM3.out.drewN nq) x HP.out
          simp only [ptV] at hput
          have HM4 := Lib.hid hM4
          clear hM4
          go_wp2
          go_roundw
          case rel => exact ⟨rfl, rfl, j + 1, by omega, by go_num, ext_set HE4.out hbw, by rw [HTK.out, mapM_succ]; exact HM4.out, HOK.out⟩
          case measure => simp [intOf]; omega
        · have d4 := str_ne hq
          have hbad : badB (k + r) (zL l) (l.take j) x = true := by unfold badB; rw [hg]; simp [hq]
          have HN := Lib.hid (ok_not hlj hx hbad)
          clear hok hbad
          simp only [hg, Option.getD_some, Option.isSome_some, ptV] at hlk
          replace hc0 := ((Ext.refl _).alloc (.cells #[.int .i64 qi, .string qt] 44)).cellv hc0
          go_wp2_with fail
          go_quiet (fail)
          go_wp2
          refine bodyPost_ret (results_tmps3 rfl rfl rfl rfl _) rfl ?_
          exact .inl ⟨HN.out, rfl, ((hE1.alloc _).drewN _)⟩
    · obtain rfl : j = n := by omega
      have htk : l.take j = l := List.take_of_length_le (by omega)
      rw [htk] at hM
      have hokl : okTo (k + r) l l.length := by rw [hlen]; exact hok
      have hcnt := len_map hokl
      have HOK := Lib.hid hokl
      have HM := Lib.hid hM
      clear hok hM hokl htk
      obtain ⟨c, hc⟩ : ∃ c, (idxs (k + r) l).length = c := ⟨_, rfl⟩
      rw [hc] at hcnt
      have HCN := Lib.hid hcnt
      have HC := Lib.hid hc
      clear hc hcnt
      by_cases hfew : c < k
      · have d1 : decide ((c : Int) < (k : Int)) = true := by simp; omega
        go_wp2_with (at_len; refine wpList_lenM rfl _ rfl b c (mapM l) rfl HM.out HCN.out ?_)
        refine bodyPost_ret (results_tmps3 rfl rfl rfl rfl _) rfl ?_
        exact .inr (.inl ⟨HOK.out, by rw [HC.out]; exact hfew, rfl, hE⟩)
      · have d1 : decide ((c : Int) < (k : Int)) = false := by simp; omega
        go_wp2_with (first
          | (at_len; refine wpList_lenM rfl _ rfl b c (mapM l) rfl HM.out HCN.out ?_)
          | (go_at_call 23; refine (every_any k r hk h _).mono ?_; rintro e w1 ⟨A1, c1, rfl, hown, hE1⟩))
        have hE2 := hE.trans hE1
        have HR := Lib.hid (rd_owns hown)
        have HM1 := Lib.hid (mapAt_ext HM.out hE1)
        have hT0 : Two w1 w1.heap.size (.slice none 0 0) [] (.slice none 0 0) [] := ⟨World.ownsRow_nil _ _ _ _, World.ownsRow_nil _ _ _ _, fun g h => by cases h⟩
        clear hown
        have hEx0 := Ext.refl w1
        go_loopw [6, 7, 77] (fun v6 v7 iv wx => ∃ i : Nat, i ≤ k + r ∧ iv = .int .i64 i ∧ Ext w1 wx ∧ ∃ (m : Nat) (A3 B3 : Option Addr) (c3 d3 : Nat), (pk l k i).length = m ∧ v6 = .slice A3 m c3 ∧ v7 = .slice B3 m d3 ∧ Two wx w1.heap.size (.slice A3 m c3) ((pk l k i).map (fun i => Value.string ((everyM k r).getD i { data := #[] }))) (.slice B3 m d3) ((pk l k i).map (fun i => Value.string (txtL l i)))) (fun _ _ iv _ => k + r - (intOf iv).toNat)
        case atStart => exact ⟨0, by omega, rfl, hEx0, 0, none, none, 0, 0, by simp [pk], rfl, rfl, by simpa [pk] using hT0⟩
        case round =>
          obtain ⟨i, hi2, rfl, hEx, m, A3, B3, c3, d3, hm, rfl, rfl, hT⟩ := hrel
          clear hT0 hEx0
          by_cases hi3 : i < k + r
          · obtain ⟨ga, oa, rfl, hga, hca⟩ := HR.out.at_ hi3
            have hga2 := hEx.cellv hca
            simp only [List.getElem_map] at hga2
            have hle : (everyM k r).length = k + r := by unfold everyM; rw [List.length_append, unitM_len, mkM_len]
            have hgd := getD_at (everyM k r) i (by omega)
            rw [← hgd] at hga2
            have HGD := Lib.hid hgd
            clear hgd hca
            have ii : (i : Int) < (k : Int) + (r : Int) := by omega
            have ii0 : (0 : Int) ≤ (i : Int) := by omega
            have hM3 := mapAt_ext HM1.out hEx
            have hlk := run_lookup hM3 (i : Int)
            rw [getM_mapM] at hlk
            have HT := Lib.hid hT
            have HMm := Lib.hid hm
            have HM3 := Lib.hid hM3
            clear hT hm hM3
            obtain ⟨row, hrow⟩ : ∃ row, (everyM k r).getD i { data := #[] } = row := ⟨_, rfl⟩
            rw [hrow] at hga2
            have HRW := Lib.hid hrow
            clear hrow
            cases hg : getM l (i : Int) with
            | none =>
              simp only [hg, Option.getD_none, Option.isSome_none, ptV] at hlk
              go_wp2
              go_roundw
              case rel => exact ⟨i + 1, by omega, by go_num, hEx.alloc _, m, A3, B3, c3, d3, by rw [pk_no (.inl (by rw [hg]; rfl))]; exact HMm.out, rfl, rfl, by rw [pk_no (.inl (by rw [hg]; rfl))]; exact HT.out.alloc _⟩
              case measure => simp [intOf]; omega
            | some q =>
              obtain ⟨qi, qt⟩ := q
              simp only [hg, Option.getD_some, Option.isSome_some, ptV] at hlk
              by_cases hmk : m < k
              · have d2 : decide ((m : Int) < (k : Int)) = true := by simp; omega
                have hfar : ∀ g, wr.heap.size ≤ g → Value.ownBlock (.slice A3 m c3) ≠ some g := fun g hg e => by have := (HT.out.a.lt _ e).2; omega
                have hfar2 : ∀ g, wr.heap.size ≤ g → Value.ownBlock (.slice B3 m d3) ≠ some g := fun g hg e => by have := (HT.out.b.lt _ e).2; omega
                have hcell : (wr.alloc (.cells #[.int .i64 qi, .string qt] 44)).cell? ⟨wr.heap.size, 1, none⟩ = some (Value.string qt) := by rw [(Blk.new wr 44 _).cell]; rfl
                have HT0 := Lib.hid (HT.out.alloc (.cells #[.int .i64 qi, .string qt] 44))
                have hE0 := hEx.alloc (.cells #[.int .i64 qi, .string qt] 44)
                have HSZ : (wr.alloc (.cells #[.int .i64 qi, .string qt] 44)).heap.size = wr.heap.size + 1 := by simp
                have HTD := Lib.hid HT0.out.drew
                have hED := hE0.drew
                have hcellD : (wr.alloc (.cells #[.int .i64 qi, .string qt] 44)).drew.cell? ⟨wr.heap.size, 1, none⟩ = some (Value.string qt) := hcell
                have HPK := Lib.hid (pk_yes (l := l) (k := k) (i := i) (by rw [hg]; rfl) (by rw [HMm.out]; exact hmk))
                have HTX := Lib.hid (show txtL l i = qt by unfold txtL; rw [hg]; rfl)
                have HXS := Lib.hid (show ((pk l k i).map (fun i => Value.string ((everyM k r).getD i { data := #[] }))).length = m by rw [List.length_map]; exact HMm.out)
                have HYS := Lib.hid (show ((pk l k i).map (fun i => Value.string (txtL l i))).length = m by rw [List.length_map]; exact HMm.out)
                go_wp2_with fail
                go_region_held3 (fun w' => w'.cell? ⟨wr.heap.size, 1, none⟩ = some (.string qt))
                  (first | exact hcell | exact hcell5 | exact hcell3 | go_keep)
                  (first
                    | ((refine step_app1 _ (by rfl) _ _ 50 (by rfl) Try.underlying50 w1.heap.size (.slice A3 m c3) ((pk l k i).map (fun i => Value.string ((everyM k r).getD i { data := #[] }))) (by rfl) (by rw [HXS.out]; have := HTD.out.a; rw [HXS.out] at this; first | exact this.alloc _ | exact (this.alloc _).alloc _) (by have := hED.sz; simp at this ⊢; omega) _ row (by rfl) (by first | exact cell_a _ _ _ | exact cell_b _ _ _ _ | exact cell_c _ _ _ _ | exact cell_a' _ _ _ _ (by simp) | exact cell_c' _ _ _ _ _ (by simp) | exact cell_aD _ _ _ _ (by simp) | exact cell_cD _ _ _ _ _ (by simp)) (by rw [HXS.out]; omega) ?_; intro v3 w3 hown3 hg3 hb3; have HT3 := Lib.hid (Two.put1 (by first | exact HTD.out.alloc _ | exact (HTD.out.alloc _).alloc _) hown3 hg3 hb3); have hE3 : Ext w1 w3 := Ext.grown (by first | exact hED.alloc _ | exact (hED.alloc _).alloc _) hg3 HT.out.a.blockGe; have hcell3 := hg3.cell (by first | exact ((Ext.refl _).alloc _).cellv hcellD | exact (((Ext.refl _).alloc _).alloc _).cellv hcellD) (fun e => hfar _ (Nat.le_refl _) e.symm); obtain ⟨A4, c4, rfl⟩ := own_val2 hown3))
                    | ((refine step_app1 _ (by rfl) _ _ 23 (by rfl) Try.underlying23 w1.heap.size (.slice B3 m d3) ((pk l k i).map (fun i => Value.string (txtL l i))) (by rfl) (by rw [HYS.out]; have := HT3.out.b; rw [HYS.out] at this; first | exact this | exact this.alloc _) (by have := hE3.sz; simp at this ⊢; omega) _ qt (by rfl) (by first | exact cell_a _ _ _ | exact hg3.cell (by first | exact cell_a _ _ _ | exact cell_b _ _ _ _ | exact cell_c _ _ _ _ | exact cell_a' _ _ _ _ (by simp) | exact cell_c' _ _ _ _ _ (by simp) | exact cell_aD _ _ _ _ (by simp) | exact cell_cD _ _ _ _ _ (by simp)) (fun e => hfar _ (by first | omega | (simp; done) | (simp; omega)) e.symm)) (by rw [HYS.out]; omega) ?_; intro v5 w5 hown5 hg5 hb5; have HT5 := Lib.hid (Two.put2 (by first | exact HT3.out | exact HT3.out.alloc _) hown5 hg5 hb5); have hE5 : Ext w1 w5 := Ext.grown (by first | exact hE3 | exact hE3.alloc _) hg5 HT.out.b.blockGe; obtain ⟨B4, d4, rfl⟩ := own_val2 hown5; have hcell5 := hg5.cell (by first | exact hcell3 | exact ((Ext.refl _).alloc _).cellv hcell3) (fun e => hfar2 _ (Nat.le_refl _) e.symm))))
                all_goals
                  go_wp2
                  go_roundw
                  case rel => exact ⟨i + 1, by omega, by go_num, hE5, m + 1, A4, B4, c4, d4, by rw [HPK.out, List.length_append, HMm.out]; rfl, by simp [HMm.out], by simp [HMm.out], by rw [HPK.out, List.map_append, List.map_append]; have := HT5.out; rw [List.length_append, List.length_append, HXS.out, HYS.out] at this; simp only [List.map_cons, List.map_nil, HRW.out, HTX.out]; exact this⟩
                  case measure => simp [intOf]; omega
              · have d2 : decide ((m : Int) < (k : Int)) = false := by simp; omega
                go_wp2
                go_roundw
                case rel => exact ⟨i + 1, by omega, by go_num, hEx.alloc _, m, A3, B3, c3, d3, by rw [pk_no (.inr (by rw [HMm.out]; omega))]; exact HMm.out, rfl, rfl, by rw [pk_no (.inr (by rw [HMm.out]; omega))]; exact HT.out.alloc _⟩
                case measure => simp [intOf]; omega
          · obtain rfl : i = k + r := by omega
            have HMm := Lib.hid hm
            have HT := Lib.hid hT
            clear hm hT
            have hpk : pk l k (k + r) = (idxs (k + r) l).take k := rfl
            have hmk : m = k := by
              rw [← HMm.out, hpk, List.length_take, HC.out]; omega
            subst hmk
            have HKP := Lib.hid hpk
            clear hpk
            have e1 : ((m + r : Nat) : Int) = (m : Int) + (r : Int) := by omega
            go_wp2
            refine bodyPost_ret (results_tmps3 rfl rfl rfl rfl _) rfl ?_
            refine .inr (.inr ⟨HOK.out, by rw [HC.out]; omega, A3, B3, c3, d3, rfl, ?_, ?_, hE2.trans hEx⟩)
            · have := rd_owns' HT.out.a
              rw [HKP.out, List.length_map, List.length_take, HC.out, Nat.min_eq_left (by omega)] at this
              rw [List.map_map]
              exact this
            · have := rd_owns' HT.out.b
              rw [HKP.out, List.length_map, List.length_take, HC.out, Nat.min_eq_left (by omega)] at this
              rw [List.map_map]
              exact this
end Go.Proofs.Ytjdppgogdilgkaa
end

import Derived.Test.YtjdppgogdilgkaaKD
section
namespace Go.Co
open Go.Conc
open Go.ConcN (sumTo upd sumTo_upd upd_ne upd_same fork_knows)
set_option linter.unusedVariables false
set_option linter.unusedSimpArgs false
theorem deaf_quiet {g : Nat} : ∀ (l : List MemOp) (t : Trace), (∀ op ∈ l, op.act ≠ .mark .disable ∧ op.act ≠ .mark .enable) → Deaf (t ++ l.toArray) g = Deaf t g
  | [], t, _ => by simp
  | x :: l, t, h => by
    have e : t ++ (x :: l).toArray = (t ++ #[x]) ++ l.toArray := by apply Array.ext'; simp
    rw [e, deaf_quiet l _ fun op hop => h op (List.mem_cons_of_mem _ hop)]
    have hx := h x List.mem_cons_self
    have p1 : (t ++ #[x])[t.size]? = some x := by rw [Array.getElem?_append_right (Nat.le_refl _)]; simp
    show (t ++ #[x]).deaf g (t ++ #[x]).size = t.deaf g t.size
    rw [show (t ++ #[x]).size = t.size + 1 by simp, deaf_succ p1, deaf_old (Nat.le_refl _)]
    unfold deafStep
    cases ha : x.act with
    | mark m => cases m <;> simp_all
    | _ => rfl
theorem clean_quiet : ∀ (l : List MemOp) (t : Trace), (∀ op ∈ l, op.act.touch? = none) → (∀ said, ¬ Race said t) → ∀ said, ¬ Race said (t ++ l.toArray)
  | [], t, _, hc => by simpa using hc
  | x :: l, t, h, hc => by
    have e : t ++ (x :: l).toArray = (t ++ #[x]) ++ l.toArray := by apply Array.ext'; simp
    rw [e]
    refine clean_quiet l _ (fun op hop => h op (List.mem_cons_of_mem _ hop)) fun said => ?_
    refine noRace_append (g := x.g) (hc said) (fun op hop => by have : op = x := by simpa using hop
                                                                rw [this]) fun i a _ op hop b hb _ => ?_
    have : op = x := by simpa using hop
    rw [this, h x List.mem_cons_self] at hb; cases hb
section
variable {n : Nat} {P : Program} {C : List Nat} {g0 : Goroutine} {V0 : View} {gs : Array Goroutine} {w : World} {t : Trace} {q : Nat → Nat} {ps : List Wk}
theorem offers_wk {k : Wk} (h : WkOk n P gs k) {x : Goroutine} (hx : gs[k.j]? = some x) (c : Nat) : offersAt x c false = [] := by
  unfold WkOk at h
  split at h
  · obtain ⟨fr, X, h1, _⟩ := h
    rw [hx] at h1; rw [Option.some.inj h1]
    exact offersAt_of_not_blocked (by simp [G]) _ _
  · obtain ⟨fr, X, z, h1, _⟩ := h
    rw [hx] at h1; rw [Option.some.inj h1]
    exact offersAt_parked_send' _ _ _ _ _ _
theorem offers_other (h : Co n P C g0 V0 gs w t q ps) {j : Nat} {x : Goroutine} (hx : gs[j]? = some x) (hj : j ≠ 0) (c : Nat) : offersAt x c false = [] := by
  by_cases hp : ∃ (p : Nat) (k : Wk), ps[p]? = some k ∧ k.j = j
  · obtain ⟨p, k, hk, rfl⟩ := hp
    exact offers_wk (h.ok p k hk).1 hx c
  · rcases (h.old j x (by omega) hx fun p k hk e => hp ⟨p, k, hk, e⟩).status with h1 | h1 <;> exact offersAt_of_not_blocked (by rw [h1]; simp) _ _
theorem no_receivers (h : Co n P C g0 V0 gs w t q ps) {c : Nat} (h0 : offersAt g0 c false = []) (i : Nat) : partners (gs.setIfInBounds i ph) c false = [] :=
  partners_nil fun j x hx => by
    rcases getElem?_stand gs i j x hx with ⟨_, rfl⟩ | ⟨_, h1⟩
    · exact offersAt_ph _ _
    · by_cases hj : j = 0
      · subst hj
        rw [h.main] at h1; rw [← Option.some.inj h1]; exact h0
      · exact offers_other h h1 hj c
theorem Co.park (h : Co n P C g0 V0 gs w t q ps) {p : Nat} {k : Wk} (hk : ps[p]? = some k) {fr : Frame} {X : List Frame} (hg : gs[k.j]? = some (G fr X)) (h0 : offersAt g0 k.e.c false = []) (ha : AtSendV P k.e.c k.e.v k.V fr X) {sl : Option (Nat × Nat)} :
    ∃ gs' u, runT P (crowd gs w sl) k.j = (.next (crowd gs' w sl), u) ∧ gs'.size = gs.size ∧ Co n P C g0 V0 gs' w (t ++ u) q (ps.set p { k with m := none }) := by
  obtain ⟨z, qk, hst, hq⟩ := ha
  have hj0 := (h.ok p k hk).2.1
  have hi0 : (k.j == 0) = false := by simp; omega
  obtain ⟨s, tm, hc⟩ := h.chan _ (h.ok p k hk).2.2
  have hrunT := crowd_waits (P := P) (sl := sl) (i := k.j) hg (by rw [hi0]; exact hst w (h.sat p k hk)) (fun cc hcc => by
    have : cc = scase k.e.c k.e.v z := by simpa using hcc
    rw [this]
    exact ways_send_none hc (by simp) (no_receivers h h0 k.j))
  have hlt : k.j < gs.size := (Array.getElem?_eq_some_iff.1 hg).1
  have e0 : MemOp.ofEvents k.j (G fr X).frame.fn (G fr X).frame.place #[] = #[] := by simp [MemOp.ofEvents]
  have hupd : ∀ (p' : Nat) (k' : Wk), (ps.set p { k with m := none })[p']? = some k' → (p' = p ∧ k' = { k with m := none }) ∨ (p' ≠ p ∧ ps[p']? = some k') := fun p' k' hk' => set_get hk hk'
  have hjk : ∀ (p' : Nat) (k' : Wk), ps[p']? = some k' → p' ≠ p → k'.j ≠ k.j := fun p' k' hk' hne e => hne (h.inj p' p k' k hk' hk e)
  have hget : ∀ (p' : Nat) (k' : Wk), (ps.set p { k with m := none })[p']? = some k' → ∃ k2, ps[p']? = some k2 ∧ k2.j = k'.j ∧ k2.V = k'.V ∧ k2.e = k'.e := fun p' k' hk' => by
    rcases hupd p' k' hk' with ⟨rfl, rfl⟩ | ⟨hne, h1⟩
    · exact ⟨k, hk, rfl, rfl, rfl⟩
    · exact ⟨k', h1, rfl, rfl, rfl⟩
  have hput : ∀ (p' : Nat) (k' : Wk), ps[p']? = some k' → ∃ k2, (ps.set p { k with m := none })[p']? = some k2 ∧ k2.j = k'.j ∧ k2.V = k'.V ∧ k2.e = k'.e := fun p' k' hk' => by
    by_cases hpp : p' = p
    · subst hpp
      rw [hk] at hk'
      obtain rfl := Option.some.inj hk'
      exact ⟨{ k with m := none }, by rw [List.getElem?_set]; simp [(List.getElem?_eq_some_iff.1 hk).1], rfl, rfl, rfl⟩
    · exact ⟨k', by rw [List.getElem?_set, if_neg (fun x => hpp x.symm)]; exact hk', rfl, rfl, rfl⟩
  refine ⟨_, _, hrunT, by simp, ?_⟩
  rw [e0, Array.append_empty]
  refine ⟨by rw [Array.getElem?_setIfInBounds_ne (by omega)]; exact h.main, fun p' k' hk' => ?_, fun p1 p2 k1 k2 h1 h2 e => ?_, fun j x hj hx hjn => ?_, fun j hj => h.above j (by simpa using hj), h.low, h.sat0, fun p' k' hk' => ?_, h.chan, h.noc0, fun p' k' hk' c hc => ?_, fun p' k' hk' b o hb => ?_, fun p' k' hk' b o hb => ?_, fun p1 p2 k1 k2 hne h1 h2 b o hb => ?_, fun p' k' hk' b hb hkb => ?_,
    h.clean, h.seen, h.hears, fun p' k' hk' => ?_, h.perm0, fun p' k' hk' => ?_, fun i x hx hmem => ?_⟩
  · rcases hupd p' k' hk' with ⟨rfl, rfl⟩ | ⟨hne, h1⟩
    · refine ⟨?_, (h.ok p' k hk).2⟩
      unfold WkOk
      exact ⟨fr, X, z, by rw [Array.getElem?_setIfInBounds_self_of_lt hlt], qk, hq⟩
    · exact ⟨(h.ok p' k' h1).1.same (by rw [Array.getElem?_setIfInBounds_ne (fun e => hjk p' k' h1 hne e.symm)]), (h.ok p' k' h1).2⟩
  · obtain ⟨k1', g1, e1, _⟩ := hget p1 k1 h1
    obtain ⟨k2', g2, e2, _⟩ := hget p2 k2 h2
    exact h.inj p1 p2 k1' k2' g1 g2 (by rw [e1, e2, e])
  · have hjk2 : ∀ (p : Nat) (k : Wk), ps[p]? = some k → k.j ≠ j := fun p' k' hk' => by
      obtain ⟨k2, g1, e1, _⟩ := hput p' k' hk'
      rw [← e1]; exact hjn p' k2 g1
    rw [Array.getElem?_setIfInBounds_ne (hjk2 p k hk)] at hx
    exact h.old j x hj hx hjk2
  · obtain ⟨k2, g1, _, e2, _⟩ := hget p' k' hk'; rw [← e2]; exact h.sat p' k2 g1
  · obtain ⟨k2, g1, _, e2, _⟩ := hget p' k' hk'; rw [← e2]; exact h.noc p' k2 g1 c hc
  · obtain ⟨k2, g1, _, e2, _⟩ := hget p' k' hk'; rw [← e2]; exact h.ap0 p' k2 g1 b o hb
  · obtain ⟨k2, g1, _, e2, _⟩ := hget p' k' hk'; exact h.apk p' k2 g1 b o (by rw [e2]; exact hb)
  · obtain ⟨k1', g1, _, e1, _⟩ := hget p1 k1 h1
    obtain ⟨k2', g2, _, e2, _⟩ := hget p2 k2 h2
    rw [← e2]; exact h.app p1 p2 k1' k2' hne g1 g2 b o (by rw [e1]; exact hb)
  · obtain ⟨k2, g1, _, e2, e3⟩ := hget p' k' hk'; rw [← e3]; exact h.dom p' k2 g1 b hb (by rw [e2]; exact hkb)
  · obtain ⟨k2, g1, e1, _⟩ := hget p' k' hk'; rw [← e1]; exact h.deaf p' k2 g1
  · obtain ⟨k2, g1, e1, e2, _⟩ := hget p' k' hk'; rw [← e1, ← e2]; exact h.perm p' k2 g1
  · rcases h.known i x hx hmem with h2 | ⟨p', k', h2, h3, b, h4, h5⟩
    · exact .inl h2
    · obtain ⟨k2, g1, e1, e2, _⟩ := hput p' k' h2
      exact .inr ⟨p', k2, g1, by rw [e1]; exact h3, b, h4, by rw [e2]; exact h5⟩
theorem erase_get {ps : List Wk} {p p' : Nat} {k' : Wk} (h : (ps.eraseIdx p)[p']? = some k') : ∃ p'', p'' ≠ p ∧ ps[p'']? = some k' ∧ p'' = (if p' < p then p' else p' + 1) := by
  rw [List.getElem?_eraseIdx] at h
  split at h
  · next hlt => exact ⟨p', by omega, h, by rw [if_pos hlt]⟩
  · next hlt => exact ⟨p' + 1, by omega, h, by rw [if_neg hlt]⟩
theorem erase_put {ps : List Wk} {p p' : Nat} {k' : Wk} (h : ps[p']? = some k') (hne : p' ≠ p) : ∃ p'' : Nat, (ps.eraseIdx p)[p'']? = some k' := by
  by_cases hlt : p' < p
  · exact ⟨p', by rw [List.getElem?_eraseIdx, if_pos hlt]; exact h⟩
  · exact ⟨p' - 1, by rw [List.getElem?_eraseIdx, if_neg (by omega), show p' - 1 + 1 = p' by omega]; exact h⟩
theorem Co.met (h : Co n P C g0 V0 gs w t q ps) {p : Nat} {k : Wk} (hk : ps[p]? = some k) {g1 gk : Goroutine} {gs' : Array Goroutine} {w' : World} {x1 x2 x3 x4 : MemOp} {s : Nat} {tm : Bool} {qk : Nat}
    (hc : w.heap[k.e.c]? = some (.chan 0 #[] false s s tm)) (hw : w'.heap = w.heap.setIfInBounds k.e.c (.chan 0 #[] false (s + 1) (s + 1) tm)) (hlow : Low n w')
    (hm : gs'[0]? = some g1) (hj : gs'[k.j]? = some gk) (hq : QuitsIn P qk gk) (hsz : gs'.size = gs.size) (hother : ∀ j, j ≠ 0 → j ≠ k.j → gs'[j]? = gs[j]?)
    (h1 : x1.g = k.j ∧ x1.act = .send k.e.c s) (h2 : x2.g = 0 ∧ x2.act = .recv k.e.c s 0) (h3 : x3.g = k.j ∧ x3.act = .sendDone k.e.c s) (h4 : x4.g = 0 ∧ x4.act = .recvDone k.e.c s) :
    Co n P C g1 V0 gs' w' (t ++ #[x1, x2, x3, x4]) (upd q k.j qk) (ps.eraseIdx p) := by
  have hD : ∀ j, Deaf (t ++ #[x1, x2, x3, x4]) j = Deaf t j := fun j => deaf_quiet [x1, x2, x3, x4] t fun op hop => by
    simp only [List.mem_cons, List.not_mem_nil, or_false] at hop
    rcases hop with rfl | rfl | rfl | rfl
    · rw [h1.2]; simp
    · rw [h2.2]; simp
    · rw [h3.2]; simp
    · rw [h4.2]; simp
  have hnt : ∀ op ∈ #[x1, x2, x3, x4], op.act.touch? = none := fun op hop => by
    simp only [List.mem_toArray, List.mem_cons, List.not_mem_nil, or_false] at hop
    rcases hop with rfl | rfl | rfl | rfl
    · rw [h1.2]; rfl
    · rw [h2.2]; rfl
    · rw [h3.2]; rfl
    · rw [h4.2]; rfl
  have hcl : k.e.c < w.heap.size := (Array.getElem?_eq_some_iff.1 hc).1
  have hkeep : ∀ b o, w.heap[b]? = some o → b ≠ k.e.c → w'.heap[b]? = some o := fun b o hb hne => by rw [hw, Array.getElem?_setIfInBounds_ne (fun e => hne e.symm)]; exact hb
  have hcC := (h.ok p k hk).2.2
  have hjk : ∀ (p' : Nat) (k' : Wk), ps[p']? = some k' → p' ≠ p → k'.j ≠ k.j := fun p' k' hk' hne e => hne (h.inj p' p k' k hk' hk e)
  refine ⟨hm, fun p' k' hk' => ?_, fun p1 p2 k1 k2 g1 g2 e => ?_, fun j x hj0 hx hjn => ?_, fun j hj => by rw [hD]; exact h.above j (by omega), hlow, fun b m o hb => hkeep b o (h.sat0 b m o hb) fun e => ?_, fun p' k' hk' b m o hb => ?_, fun c hc' => ?_, h.noc0, fun p' k' hk' c hc => ?_, fun p' k' hk' b o hb => ?_, fun p' k' hk' b o hb => ?_, fun p1 p2 k1 k2 hne g1 g2 b o hb => ?_, fun p' k' hk' b hb hkb => ?_,
    clean_quiet [x1, x2, x3, x4] t (fun op hop => hnt op (by simpa using hop)) h.clean, ?_, by rw [hD]; exact h.hears, fun p' k' hk' => ?_, h.perm0.other (fun op hop x hx => by rw [hnt op hop] at hx; cases hx), fun p' k' hk' => ?_, fun i x hx hmem => ?_⟩
  · obtain ⟨p'', hne, h5, _⟩ := erase_get hk'
    exact ⟨(h.ok p'' k' h5).1.same (hother k'.j (by have := (h.ok p'' k' h5).2.1; omega) (hjk p'' k' h5 hne)), (h.ok p'' k' h5).2⟩
  · obtain ⟨p1', n1, h5, e1⟩ := erase_get g1
    obtain ⟨p2', n2, h6, e2⟩ := erase_get g2
    have := h.inj p1' p2' k1 k2 h5 h6 e
    rw [e1, e2] at this
    split at this <;> split at this <;> omega
  · by_cases hji : j = k.j
    · subst hji
      rw [hj] at hx
      obtain rfl := Option.some.inj hx
      rw [upd_same, hD, h.deaf p k hk]
      exact QuitsD.of_quitsIn hq
    · rw [hother j (by omega) hji] at hx
      rw [upd_ne q qk hji, hD]
      refine h.old j x hj0 hx fun p' k' hk' e => ?_
      by_cases hpp : p' = p
      · subst hpp; rw [hk] at hk'; exact hji (by rw [Option.some.inj hk']; exact e.symm)
      · obtain ⟨p'', h5⟩ := erase_put hk' hpp
        exact hjn p'' k' h5 e
  · rw [e, h.noc0 _ hcC] at hb; cases hb
  · obtain ⟨p'', hne, h5, _⟩ := erase_get hk'
    exact hkeep b o (h.sat p'' k' h5 b m o hb) fun e => by rw [e, h.noc p'' k' h5 _ hcC] at hb; cases hb
  · by_cases hcc : c = k.e.c
    · subst hcc; exact ⟨s + 1, tm, by rw [hw, Array.getElem?_setIfInBounds_self_of_lt hcl]⟩
    · obtain ⟨s', tm', h5⟩ := h.chan c hc'
      exact ⟨s', tm', hkeep c _ h5 hcc⟩
  · obtain ⟨p'', hne, h5, _⟩ := erase_get hk'; exact h.noc p'' k' h5 c hc
  · obtain ⟨p'', hne, h5, _⟩ := erase_get hk'; exact h.ap0 p'' k' h5 b o hb
  · obtain ⟨p'', hne, h5, _⟩ := erase_get hk'; exact h.apk p'' k' h5 b o hb
  · obtain ⟨p1', n1, h5, e1⟩ := erase_get g1
    obtain ⟨p2', n2, h6, e2⟩ := erase_get g2
    refine h.app p1' p2' k1 k2 (fun e => hne ?_) h5 h6 b o hb
    rw [e1, e2] at e
    split at e <;> split at e <;> omega
  · obtain ⟨p'', hne, h5, _⟩ := erase_get hk'; exact h.dom p'' k' h5 b hb hkb
  · have hs : w'.heap.size = w.heap.size := by rw [hw]; simp
    rw [hs]
    refine seen_app h.seen fun op hop => ?_
    simp only [List.mem_toArray, List.mem_cons, List.not_mem_nil, or_false] at hop
    rcases hop with rfl | rfl | rfl | rfl
    · rw [h1.2]; exact hcl
    · rw [h2.2]; exact hcl
    · rw [h3.2]; exact hcl
    · rw [h4.2]; exact hcl
  · obtain ⟨p'', hne, h5, _⟩ := erase_get hk'; rw [hD]; exact h.deaf p'' k' h5
  · obtain ⟨p'', hne, h5, _⟩ := erase_get hk'
    exact (h.perm p'' k' h5).other fun op hop x hx => by rw [hnt op hop] at hx; cases hx
  · rcases touchAt_app hx with ⟨hlt', h5⟩ | ⟨op, hop, _, h5⟩
    · rcases h.known i x h5 hmem with h6 | ⟨p', k', h6, h7, b, h8, h9⟩
      · exact .inl (h6.app _)
      · by_cases hpp : p' = p
        · subst hpp
          rw [hk] at h6
          obtain rfl := Option.some.inj h6
          obtain ⟨op, ho, hog⟩ := Option.map_eq_some_iff.1 h7
          have hko := knows_own ho
          rw [hog] at hko
          exact .inl (comm_knows h1 h2 h3 h4 h.hears (h.deaf p' k hk) hko)
        · obtain ⟨p'', h10⟩ := erase_put h6 hpp
          exact .inr ⟨p'', k', h10, by simpa [Trace.g?, getElem?_append_old hlt'] using h7, b, h8, h9⟩
    · rw [hnt op hop] at h5; cases h5
def lend (V : View) (D : List Nat) : View := fun b => if b ∈ D then (V b).map (fun r => (false, r.2)) else none
def keep (V : View) (D : List Nat) : View := fun b => if b ∈ D then (V b).map (fun r => (false, r.2)) else V b
theorem lend_some {V : View} {D : List Nat} {b : Nat} {m : Bool} {o : Obj} (h : lend V D b = some (m, o)) : b ∈ D ∧ m = false ∧ ∃ m', V b = some (m', o) := by
  unfold lend at h
  split at h
  · next hb =>
    obtain ⟨⟨m', o'⟩, h1, h2⟩ := Option.map_eq_some_iff.1 h
    injection h2 with h2 h3
    subst h3
    exact ⟨hb, h2.symm, m', h1⟩
  · cases h
theorem keep_some {V : View} {D : List Nat} {b : Nat} {m : Bool} {o : Obj} (h : keep V D b = some (m, o)) : ∃ m', V b = some (m', o) ∧ (m = true → b ∉ D ∧ m' = true) := by
  unfold keep at h
  split at h
  · next hb =>
    obtain ⟨⟨m', o'⟩, h1, h2⟩ := Option.map_eq_some_iff.1 h
    injection h2 with h2 h3
    subst h3
    exact ⟨m', h1, fun e => by rw [← h2] at e; cases e⟩
  · next hb => exact ⟨m, h, fun e => ⟨hb, e⟩⟩
theorem keep_none {V : View} {D : List Nat} {b : Nat} (h : V b = none) : keep V D b = none := by
  unfold keep; split <;> simp [h]
theorem Co.fork {fr fr' frc : Frame} {cs Xc : List Frame} (h : Co n P C (G fr cs) V0 gs w t q ps) {sl : Option (Nat × Nat)} (hs : stepG P true (G fr cs) w = .spawn (G fr' cs) (G frc Xc) w #[]) {e : SE} {r : Rk} (hc : e.c ∈ C) (hkw : KW n P e.c e.v r (lend V0 e.D) frc Xc) :
    ∃ gs' u, runT P (crowd gs w sl) 0 = (.next (crowd gs' w sl), u) ∧ Co n P C (G fr' cs) (keep V0 e.D) gs' w (t ++ u) q (ps ++ [{ j := gs.size, V := lend V0 e.D, m := some r, e }]) := by
  have hrunT := runT_crowd_spawn (P := P) (sl := sl) (i := 0) h.main hs
  have hlt : 0 < gs.size := (Array.getElem?_eq_some_iff.1 h.main).1
  have e0 : MemOp.ofEvents 0 (G fr cs).frame.fn (G fr cs).frame.place #[] = #[] := by simp [MemOp.ofEvents]
  rw [e0] at hrunT
  refine ⟨_, _, hrunT, ?_⟩
  generalize hx : ({ g := 0, fn := (G fr cs).frame.fn, pos := (G fr cs).frame.place, act := .go gs.size } : MemOp) = x
  generalize hy : ({ g := gs.size, fn := (G frc Xc).frame.fn, pos := (G fr cs).frame.place, act := .start } : MemOp) = y
  have hx' : x.g = 0 ∧ x.act = .go gs.size := by subst hx; exact ⟨rfl, rfl⟩
  have hy' : y.g = gs.size ∧ y.act = .start := by subst hy; exact ⟨rfl, rfl⟩
  clear hx hy
  have eu : (#[].push x).push y = #[x, y] := rfl
  rw [eu]
  have hD : ∀ j, Deaf (t ++ #[x, y]) j = Deaf t j := fun j => deaf_quiet [x, y] t fun op hop => by
    simp only [List.mem_cons, List.not_mem_nil, or_false] at hop
    rcases hop with rfl | rfl
    · rw [hx'.2]; simp
    · rw [hy'.2]; simp
  have hnt : ∀ op ∈ #[x, y], op.act.touch? = none := fun op hop => by
    simp only [List.mem_toArray, List.mem_cons, List.not_mem_nil, or_false] at hop
    rcases hop with rfl | rfl
    · rw [hx'.2]; rfl
    · rw [hy'.2]; rfl
  have hget : ∀ (p : Nat) (k : Wk), (ps ++ [{ j := gs.size, V := lend V0 e.D, m := some r, e }])[p]? = some k → ps[p]? = some k ∨ (p = ps.length ∧ k = { j := gs.size, V := lend V0 e.D, m := some r, e }) := fun p k hk => by
    rw [List.getElem?_append] at hk
    split at hk
    · exact .inl hk
    · next hlt =>
      have : p - ps.length = 0 := by
        cases hpp : p - ps.length with
        | zero => rfl
        | succ m => rw [hpp] at hk; simp at hk
      rw [this] at hk
      exact .inr ⟨by omega, by simpa using hk.symm⟩
  have hsz : ∀ (p : Nat) (k : Wk), ps[p]? = some k → k.j < gs.size := fun p k hk => by
    obtain ⟨g, h1, _⟩ := (h.ok p k hk).1.status
    exact (Array.getElem?_eq_some_iff.1 h1).1
  have hold : ∀ j, j ≠ 0 → j < gs.size → ((gs.setIfInBounds 0 (G fr' cs)).push (G frc Xc))[j]? = gs[j]? := fun j hj hjl => by
    rw [Array.getElem?_push_lt (by simpa using hjl)]
    have : (gs.setIfInBounds 0 (G fr' cs))[j]? = gs[j]? := Array.getElem?_setIfInBounds_ne (by omega)
    rw [← this, Array.getElem?_eq_getElem (by simpa using hjl)]
  refine ⟨?_, fun p k hk => ?_, fun p1 p2 k1 k2 h1 h2 ee => ?_, fun j g hj hg hjn => ?_, fun j hj => by rw [hD]; exact h.above j (by simp at hj; omega), h.low, fun b m o hb => ?_, fun p k hk => ?_, h.chan, fun c hc => keep_none (h.noc0 c hc), fun p k hk c hc => ?_, fun p k hk b o hb => ?_, fun p k hk b o hb => ?_, fun p1 p2 k1 k2 hne h1 h2 b o hb => ?_, fun p k hk b hb hkb => ?_,
    clean_quiet [x, y] t (fun op hop => hnt op (by simpa using hop)) h.clean, ?_, by rw [hD]; exact h.hears, fun p k hk => ?_, ?_, fun p k hk => ?_, fun i z hz hmem => ?_⟩
  · rw [Array.getElem?_push_lt (by simpa using hlt)]; simp
  · rcases hget p k hk with h1 | ⟨_, rfl⟩
    · exact ⟨(h.ok p k h1).1.same (hold k.j (by have := (h.ok p k h1).2.1; omega) (hsz p k h1)), (h.ok p k h1).2⟩
    · refine ⟨?_, hlt, hc⟩
      unfold WkOk
      refine ⟨frc, Xc, ?_, hkw⟩
      show ((gs.setIfInBounds 0 (G fr' cs)).push (G frc Xc))[gs.size]? = _
      have : gs.size = (gs.setIfInBounds 0 (G fr' cs)).size := by simp
      rw [this, Array.getElem?_push_size]
  · rcases hget p1 k1 h1 with g1 | ⟨rfl, rfl⟩ <;> rcases hget p2 k2 h2 with g2 | ⟨rfl, rfl⟩
    · exact h.inj p1 p2 k1 k2 g1 g2 ee
    · have := hsz p1 k1 g1; simp only at ee; omega
    · have := hsz p2 k2 g2; simp only at ee; omega
    · rfl
  · by_cases hjs : j < gs.size
    · rw [hold j (by omega) hjs] at hg
      rw [hD]
      refine h.old j g hj hg fun p k hk => hjn p k ?_
      rw [List.getElem?_append_left (List.getElem?_eq_some_iff.1 hk).1]; exact hk
    · have hj2 : j = gs.size := by
        have := (Array.getElem?_eq_some_iff.1 hg).1
        simp at this; omega
      exact absurd hj2.symm (hjn ps.length { j := gs.size, V := lend V0 e.D, m := some r, e } (by simp))
  · obtain ⟨m', h1, _⟩ := keep_some hb
    exact h.sat0 b m' o h1
  · rcases hget p k hk with h1 | ⟨_, rfl⟩
    · exact h.sat p k h1
    · intro b m o hb
      obtain ⟨_, _, m', h1⟩ := lend_some hb
      exact h.sat0 b m' o h1
  · rcases hget p k hk with h1 | ⟨_, rfl⟩
    · exact h.noc p k h1 c hc
    · show lend V0 e.D c = none
      unfold lend; split <;> simp [h.noc0 c hc]
  · obtain ⟨m', h1, h2⟩ := keep_some hb
    obtain ⟨h3, h4⟩ := h2 rfl
    rcases hget p k hk with g1 | ⟨_, rfl⟩
    · subst h4; exact h.ap0 p k g1 b o h1
    · show lend V0 e.D b = none
      unfold lend; rw [if_neg h3]
  · rcases hget p k hk with g1 | ⟨_, rfl⟩
    · exact keep_none (h.apk p k g1 b o hb)
    · have := (lend_some hb).2.1; cases this
  · rcases hget p1 k1 h1 with g1 | ⟨rfl, rfl⟩
    · rcases hget p2 k2 h2 with g2 | ⟨rfl, rfl⟩
      · exact h.app p1 p2 k1 k2 hne g1 g2 b o hb
      · show lend V0 e.D b = none
        unfold lend; split <;> simp [h.apk p1 k1 g1 b o hb]
    · have := (lend_some hb).2.1; cases this
  · rcases hget p k hk with g1 | ⟨_, rfl⟩
    · exact h.dom p k g1 b (fun hn => hb (keep_none hn)) hkb
    · show b ∈ e.D
      cases hl : lend V0 e.D b with
      | none => exact absurd hl hkb
      | some r => exact (lend_some (m := r.1) (o := r.2) hl).1
  · refine seen_app h.seen fun op hop => ?_
    simp only [List.mem_toArray, List.mem_cons, List.not_mem_nil, or_false] at hop
    rcases hop with rfl | rfl
    · rw [hx'.2]; trivial
    · rw [hy'.2]; trivial
  · rw [hD]
    rcases hget p k hk with g1 | ⟨_, rfl⟩
    · exact h.deaf p k g1
    · exact h.above _ (Nat.le_refl _)
  · have hp0 := h.perm0.other (u := #[x, y]) fun op hop z hz => by rw [hnt op hop] at hz; cases hz
    intro i z hz b hb
    obtain ⟨a1, a2⟩ := hp0 i z hz b hb
    refine ⟨fun ⟨o, hk⟩ => ?_, fun ⟨m, o, hk⟩ hwr => ?_⟩
    · obtain ⟨m', h1, h2⟩ := keep_some hk
      obtain ⟨_, rfl⟩ := h2 rfl
      exact a1 ⟨o, h1⟩
    · obtain ⟨m', h1, _⟩ := keep_some hk
      exact a2 ⟨m', o, h1⟩ hwr
  · rcases hget p k hk with g1 | ⟨_, rfl⟩
    · exact (h.perm p k g1).other fun op hop z hz => by rw [hnt op hop] at hz; cases hz
    · intro i z hz b hb
      refine ⟨fun ⟨o, hk⟩ => (by have := (lend_some hk).2.1; cases this), fun ⟨m, o, hk⟩ hwr => ?_⟩
      obtain ⟨_, _, m', h1⟩ := lend_some hk
      rcases touchAt_app hz with ⟨_, h5⟩ | ⟨op, hop, _, h5⟩
      · exact fork_knows hx' hy' h.hears (h.above _ (Nat.le_refl _)) ((h.perm0 i z h5 b hb).2 ⟨m', o, h1⟩ hwr)
      · rw [hnt op hop] at h5; cases h5
  · rcases touchAt_app hz with ⟨hlt', h5⟩ | ⟨op, hop, _, h5⟩
    · rcases h.known i z h5 hmem with h6 | ⟨p', k', h6, h7, h8⟩
      · exact .inl (h6.app _)
      · exact .inr ⟨p', k', by rw [List.getElem?_append_left (List.getElem?_eq_some_iff.1 h6).1]; exact h6, by simpa [Trace.g?, getElem?_append_old hlt'] using h7, h8⟩
    · rw [hnt op hop] at h5; cases h5
theorem Co.regain (h : Co n P C g0 V0 gs w t q ps) {b : Nat} {o : Obj} (hb : V0 b = some (false, o)) (hno : ∀ (p : Nat) (k : Wk), ps[p]? = some k → b ∉ k.e.D) : Co n P C g0 (V0.set b true o) gs w t q ps := by
  have hV : ∀ c m o', V0.set b true o c = some (m, o') → (c = b ∧ m = true ∧ o' = o) ∨ (c ≠ b ∧ V0 c = some (m, o')) := fun c m o' hc => by
    by_cases e : c = b
    · subst e; rw [View.set_same] at hc; injection hc with hc; injection hc with h1 h2; exact .inl ⟨rfl, h1.symm, h2.symm⟩
    · rw [View.set_ne _ _ _ e] at hc; exact .inr ⟨e, hc⟩
  have hkb : ∀ (p : Nat) (k : Wk), ps[p]? = some k → k.V b = none := fun p k hk => by
    cases hv : k.V b with
    | none => rfl
    | some r => exact absurd (h.dom p k hk b (by rw [hb]; simp) (by rw [hv]; simp)) (hno p k hk)
  refine ⟨h.main, h.ok, h.inj, h.old, h.above, h.low, fun c m o' hc => ?_, h.sat, h.chan, fun c hc => ?_, h.noc, fun p k hk c o' hc => ?_, fun p k hk c o' hc => ?_, h.app, fun p k hk c hc hkc => ?_, h.clean, h.seen, h.hears, h.deaf, fun i x hx c hc => ?_, h.perm, h.known⟩
  · rcases hV c m o' hc with ⟨rfl, _, rfl⟩ | ⟨_, h1⟩
    · exact h.sat0 _ _ _ hb
    · exact h.sat0 _ _ _ h1
  · rw [View.set_ne]
    · exact h.noc0 c hc
    · intro e; subst e; rw [h.noc0 c hc] at hb; cases hb
  · rcases hV c true o' hc with ⟨rfl, _, rfl⟩ | ⟨_, h1⟩
    · exact hkb p k hk
    · exact h.ap0 p k hk c o' h1
  · have h1 := h.apk p k hk c o' hc
    rw [View.set_ne]
    · exact h1
    · intro e; subst e; rw [h1] at hb; cases hb
  · by_cases e : c = b
    · subst e; exact absurd (hkb p k hk) hkc
    · rw [View.set_ne _ _ _ e] at hc; exact h.dom p k hk c hc hkc
  · by_cases e : c = b
    · subst e
      have hall : Knows t 0 i := by
        have hmem : x.loc.isMemory = true := by
          cases hl : x.loc <;> rw [hl] at hc <;> simp [blk] at hc <;> rfl
        rcases h.known i x hx hmem with h1 | ⟨p, k, h1, _, b', h2, h3⟩
        · exact h1
        · rw [hc] at h2; injection h2 with h2; subst h2; exact absurd (hkb p k h1) h3
      exact ⟨fun _ => hall, fun _ _ => hall⟩
    · rw [View.set_ne _ _ _ e]; exact h.perm0 i x hx c hc
end
end Go.Co
end
section
namespace Go.Co
open Go.Conc
open Go.ConcN (sumTo upd sumTo_upd upd_ne upd_same)
set_option linter.unusedVariables false
set_option linter.unusedSimpArgs false
structure KeptO (W w : World) : Prop where
  os : w.os = W.os
  out : w.output = W.output
  size : W.heap.size ≤ w.heap.size
theorem KeptO.refl (w : World) : KeptO w w := ⟨rfl, rfl, Nat.le_refl _⟩
theorem KeptO.step {W w w' : World} (h : KeptO W w) (k : Kept w w') : KeptO W w' := ⟨k.os.trans h.os, k.out.trans h.out, Nat.le_trans h.size k.size⟩
theorem KeptO.at {W w : World} (h : KeptO W w) (d : Nat) : KeptO W (w.at d) := ⟨h.os, h.out, h.size⟩
theorem KeptO.setChan {W w : World} (h : KeptO W w) (c cap : Nat) (buf : Array Value) (cl : Bool) (a b : Nat) (tm : Bool) : KeptO W (w.setChan c cap buf cl a b tm) := ⟨h.os, h.out, by have := h.size; simpa [World.setChan] using this⟩
theorem KeptO.tp {W w : World} (h : KeptO W w) (T : Tape) (D : Nat) : KeptO W (tp w T D) := ⟨h.os, h.out, h.size⟩
section
variable {n : Nat} {P : Program} {Post : Value → World → Prop} {C : List Nat} {W : World}
variable (n P Post C W) in
def ZC (spec : List SE) (V0 : View) (fr : Frame) (cs : List Frame) : Prop :=
  ∀ gs sl w t q ps, Co n P C (G fr cs) V0 gs w t q ps → ps.map (·.e) = spec → KeptO W w → FinB P Post (crowd gs w sl) t
theorem map_set_e {ps : List Wk} {p : Nat} {k k' : Wk} (hk : ps[p]? = some k) (he : k'.e = k.e) : (ps.set p k').map (·.e) = ps.map (·.e) := by
  apply List.ext_getElem?
  intro i
  rw [List.getElem?_map, List.getElem?_map, List.getElem?_set]
  split
  · next e => subst e; simp only [(List.getElem?_eq_some_iff.1 hk).1, if_true, Option.map_some, hk, he]
  · rfl
theorem map_set_m {ps : List Wk} {p : Nat} {k' : Wk} : (ps.set p k').map (·.m) = (ps.map (·.m)).set p k'.m := by rw [List.map_set]
theorem zc_pick {spec : List SE} {V0 : View} {fr : Frame} {cs : List Frame}
    (M1 : ∀ gs w sl t q ps m0, Co n P C (G fr cs) V0 gs w t q ps → ps.map (·.e) = spec → KeptO W w → stepT P m0 = runT P (crowd gs w sl) 0 → FinB P Post m0 t) : ZC n P Post C W spec V0 fr cs := by
  have key : ∀ l : List (Option Rk), ∀ (M : Nat) gs sl w t q ps, ps.map (·.m) = l → sumTo gs.size q ≤ M → Co n P C (G fr cs) V0 gs w t q ps → ps.map (·.e) = spec → KeptO W w → FinB P Post (crowd gs w sl) t := by
    intro l
    induction lstep_acc l with
    | intro l _ ih =>
      intro M
      induction M with
      | zero =>
        intro gs sl w t q ps hl hM h he hkp
        obtain ⟨i, g, d, sl', hi, hg, hst⟩ := crowd_pick (P := P) (w := w) (sl := sl) (awake_all h (.inl rfl)) ⟨0, _, h.main, rfl⟩
        have hd := h.at d
        rcases Nat.eq_zero_or_pos i with rfl | hpos
        · exact M1 gs _ sl' t q ps _ hd he (hkp.at d) hst
        · by_cases hp : ∃ (p : Nat) (k : Wk), ps[p]? = some k ∧ k.j = i
          · obtain ⟨p, k, hk, rfl⟩ := hp
            have hok := (h.ok p k hk).1
            unfold WkOk at hok
            split at hok
            · next r hr =>
              obtain ⟨f2, X2, h1, h2⟩ := hok
              rw [hi] at h1
              obtain rfl := Option.some.inj h1
              have hstop : AtSendV P k.e.c k.e.v k.V f2 X2 → FinB P Post (crowd gs w sl) t := fun ha => by
                obtain ⟨gs', u, e1, e2, e3⟩ := hd.park hk hi (offersAt_of_not_blocked (by simp [G]) _ _) ha (sl := sl')
                exact FinB.step (hst.trans e1) (ih _ (by rw [← hl, map_set_m]; exact lstep_set (by rw [List.getElem?_map, hk]; exact congrArg some hr) (.park r)) _ _ _ _ _ _ _ rfl (Nat.le_refl _) e3 (by rw [map_set_e hk (by rfl)]; exact he) (hkp.at d))
              cases r with
              | zero => exact hstop h2
              | sup f =>
                rcases h2 with h2 | h2
                · exact hstop h2
                · obtain ⟨fr', X', w', es, V', a1, a2, a3⟩ := h2 (w.at d) (hd.sat p k hk) hd.low
                  obtain ⟨gs', u, e1, e2, e3⟩ := hd.ownW (stays_run rfl) hk hi a1 a2 a3 (sl := sl')
                  exact FinB.step (hst.trans e1) (ih _ (by rw [← hl, map_set_m]; exact lstep_set (by rw [List.getElem?_map, hk]; exact congrArg some hr) (.step f _)) _ _ _ _ _ _ _ rfl (Nat.le_refl _) e3 (by rw [map_set_e hk (by rfl)]; exact he) ((hkp.at d).step a2.kept))
            · obtain ⟨f2, X2, z, h1, h2⟩ := hok
              rw [hi] at h1
              rw [Option.some.inj h1] at hg
              simp [parked] at hg
          · obtain ⟨gs', u, q', e1, e2, e3, e4⟩ := hd.slip (stays_run rfl) hi hg hpos (fun p k hk e => hp ⟨p, k, hk, e⟩) (sl := sl')
            omega
      | succ M ihM =>
        intro gs sl w t q ps hl hM h he hkp
        obtain ⟨i, g, d, sl', hi, hg, hst⟩ := crowd_pick (P := P) (w := w) (sl := sl) (awake_all h (.inl rfl)) ⟨0, _, h.main, rfl⟩
        have hd := h.at d
        rcases Nat.eq_zero_or_pos i with rfl | hpos
        · exact M1 gs _ sl' t q ps _ hd he (hkp.at d) hst
        · by_cases hp : ∃ (p : Nat) (k : Wk), ps[p]? = some k ∧ k.j = i
          · obtain ⟨p, k, hk, rfl⟩ := hp
            have hok := (h.ok p k hk).1
            unfold WkOk at hok
            split at hok
            · next r hr =>
              obtain ⟨f2, X2, h1, h2⟩ := hok
              rw [hi] at h1
              obtain rfl := Option.some.inj h1
              have hstop : AtSendV P k.e.c k.e.v k.V f2 X2 → FinB P Post (crowd gs w sl) t := fun ha => by
                obtain ⟨gs', u, e1, e2, e3⟩ := hd.park hk hi (offersAt_of_not_blocked (by simp [G]) _ _) ha (sl := sl')
                exact FinB.step (hst.trans e1) (ih _ (by rw [← hl, map_set_m]; exact lstep_set (by rw [List.getElem?_map, hk]; exact congrArg some hr) (.park r)) _ _ _ _ _ _ _ rfl (Nat.le_refl _) e3 (by rw [map_set_e hk (by rfl)]; exact he) (hkp.at d))
              cases r with
              | zero => exact hstop h2
              | sup f =>
                rcases h2 with h2 | h2
                · exact hstop h2
                · obtain ⟨fr', X', w', es, V', a1, a2, a3⟩ := h2 (w.at d) (hd.sat p k hk) hd.low
                  obtain ⟨gs', u, e1, e2, e3⟩ := hd.ownW (stays_run rfl) hk hi a1 a2 a3 (sl := sl')
                  exact FinB.step (hst.trans e1) (ih _ (by rw [← hl, map_set_m]; exact lstep_set (by rw [List.getElem?_map, hk]; exact congrArg some hr) (.step f _)) _ _ _ _ _ _ _ rfl (Nat.le_refl _) e3 (by rw [map_set_e hk (by rfl)]; exact he) ((hkp.at d).step a2.kept))
            · obtain ⟨f2, X2, z, h1, h2⟩ := hok
              rw [hi] at h1
              rw [Option.some.inj h1] at hg
              simp [parked] at hg
          · obtain ⟨gs', u, q', e1, e2, e3, e4⟩ := hd.slip (stays_run rfl) hi hg hpos (fun p k hk e => hp ⟨p, k, hk, e⟩) (sl := sl')
            exact FinB.step (hst.trans e1) (ihM _ _ _ _ _ _ hl (by omega) e3 he (hkp.at d))
  exact fun gs sl w t q ps h he hkp => key _ _ gs sl w t q ps rfl (Nat.le_refl _) h he hkp
theorem zc_own (spec : List SE) : OwnV n P true (ZC n P Post C W spec) := fun V fr cs hh => zc_pick fun gs w sl t q ps m0 h he hkp hst => by
  obtain ⟨fr', cs', w', es, V', h1, h2, h3⟩ := hh w h.sat0 h.low
  obtain ⟨gs', u, e1, e2⟩ := h.own0 h1 h2 (sl := sl)
  exact FinB.step (hst.trans e1) (h3 gs' sl w' _ q ps e2 he (hkp.step h2.kept))
theorem zc_fork {spec : List SE} {V0 : View} {fr fr' frc : Frame} {cs Xc : List Frame} (e : SE) (hc : e.c ∈ C) (hs : ∀ w, Sat V0 w → stepG P true (G fr cs) w = .spawn (G fr' cs) (G frc Xc) w #[]) (hw : ZW n P e.c e.v (lend V0 e.D) frc Xc)
    (hn : ZC n P Post C W (spec ++ [e]) (keep V0 e.D) fr' cs) : ZC n P Post C W spec V0 fr cs := zc_pick fun gs w sl t q ps m0 h he hkp hst => by
  obtain ⟨r, hw⟩ := hw
  obtain ⟨gs', u, e1, e2⟩ := h.fork (hs w h.sat0) hc hw (sl := sl)
  exact FinB.step (hst.trans e1) (hn gs' sl w _ q _ e2 (by simp [he]) hkp)
theorem zc_regain {spec : List SE} {V0 : View} {fr : Frame} {cs : List Frame} {b : Nat} {o : Obj} (hb : V0 b = some (false, o)) (hno : ∀ e ∈ spec, b ∉ e.D) (hn : ZC n P Post C W spec (V0.set b true o) fr cs) : ZC n P Post C W spec V0 fr cs :=
  fun gs sl w t q ps h he hkp => hn gs sl w t q ps (h.regain hb fun p k hk => hno k.e (by rw [← he]; exact List.mem_map.2 ⟨k, List.mem_of_getElem? hk, rfl⟩)) he hkp
theorem zc_done {V0 : View} {fr : Frame} {cs : List Frame} (hn : ∀ w, Sat V0 w → KeptO W w → BW n P Post fr cs w) : ZC n P Post C W [] V0 fr cs := fun gs sl w t q ps h he hkp => by
  have hps : ps = [] := List.map_eq_nil_iff.1 he
  subst hps
  have hall : ∀ i x, touchAt t i = some x → x.loc.isMemory = true → Knows t 0 i := fun i x hx hm => by
    rcases h.known i x hx hm with h1 | ⟨p, k, h1, _⟩
    · exact h1
    · simp at h1
  refine hn w h.sat0 hkp gs sl t q w.tape w.drawn h.low h.main ⟨fun i g hi hg => h.old i g hi hg fun p k hk => by simp at hk, h.above⟩ ⟨h.clean, fun i x hx hm => .inl (hall i x hx hm), fun i g hg hne hcnt => ?_, h.hears, h.seen⟩
  obtain ⟨x, hx, hm, _⟩ := hcnt
  obtain ⟨z, y, hz, hyg, hb⟩ := hall i x hx hm
  rcases hb with rfl | hb
  · simp [Trace.g?, hz] at hg; exact absurd (hg.symm.trans hyg) hne
  · exact ⟨z, by simp [Trace.g?, hz, hyg], hb⟩
theorem bw_company {V0 : View} {fr : Frame} {cs : List Frame} {w : World} (hkp : KeptO W w) (hsat : Sat V0 w) (hopen : OpenC C w) (hnoc : ∀ c ∈ C, V0 c = none) (hz : ZC n P Post C W [] V0 fr cs) : BW n P Post fr cs w := fun gs sl t q T D hl h0 hL hP => by
  refine hz gs sl (tp w T D) t q [] ⟨h0, fun p k hk => (by simp at hk), fun p p' k k' hk => (by simp at hk), fun i g hi hg _ => hL.old i g hi hg, hL.above, hl, hsat, fun p k hk => (by simp at hk), hopen, hnoc, fun p k hk => (by simp at hk), fun p k hk => (by simp at hk), fun p k hk => (by simp at hk), fun p p' k k' _ hk => (by simp at hk), fun p k hk => (by simp at hk),
    hP.clean, hP.seen, hP.hears, fun p k hk => (by simp at hk), fun i x hx b hb => ?_, fun p k hk => (by simp at hk), fun i x hx hm => ?_⟩ rfl (hkp.tp T D)
  · have hm : x.loc.isMemory = true := by cases hl : x.loc <;> rw [hl] at hb <;> simp [blk] at hb <;> rfl
    have := (hP.known i x hx hm).elim id fun h => h.1.elim
    exact ⟨fun _ => this, fun _ _ => this⟩
  · exact .inl ((hP.known i x hx hm).elim id fun h => h.1.elim)
end
end Go.Co
end
section
namespace Go.Co
open Go.Conc
open Go.ConcN (sumTo upd sumTo_upd upd_ne upd_same)
set_option linter.unusedVariables false
set_option linter.unusedSimpArgs false
theorem choose_sel {P : Program} {m : Nat} (hm : 0 < m) (w : World) : ∃ a d, a < m ∧ ∀ {β : Type} (k : Nat → Sem β), (Sem.bind (choose (.select m)) k).run P w = (k a).run P (w.at d) := by
  by_cases hf : (Question.select m).forced = true
  · refine ⟨0, w.drawn, hm, fun k => ?_⟩
    show (Sem.choose (.select m) k).run P w = _
    simp only [Sem.run, hf, if_true]
    rfl
  · refine ⟨(Question.select m).cut (w.tape w.drawn (.select m)), w.drawn + 1, Nat.mod_lt _ hm, fun k => ?_⟩
    show (Sem.choose (.select m) k).run P w = _
    simp only [Sem.run, hf]
    rfl
theorem choose_ext {P : Program} {s : String} {m : Nat} (hm : 0 < m) (w : World) : ∃ a d, a < m ∧ ∀ {β : Type} (k : Nat → Sem β), (Sem.bind (choose (.extern s m)) k).run P w = (k a).run P (w.at d) := by
  by_cases hf : (Question.extern s m).forced = true
  · refine ⟨0, w.drawn, hm, fun k => ?_⟩
    show (Sem.choose (.extern s m) k).run P w = _
    simp only [Sem.run, hf, if_true]
    rfl
  · refine ⟨(Question.extern s m).cut (w.tape w.drawn (.extern s m)), w.drawn + 1, ?_, fun k => ?_⟩
    · simp only [Question.cut]; rw [if_neg (by omega)]; exact Nat.mod_lt _ hm
    · show (Sem.choose (.extern s m) k).run P w = _
      simp only [Sem.run, hf]
      rfl
def SelC (C : List Nat) (cases : Array CommCase) : Prop := ∀ (i : Nat) (cc : CommCase), cases[i]? = some cc → (∃ c z, c ∈ C ∧ cc = rcase c z) ∨ ∃ z, cc = { chan := .chan none, send := none, zero := z }
section
variable {P : Program} {gs : Array Goroutine} {w w₁ : World} {sl : Option (Nat × Nat)} {g g₂ : Goroutine} {es : Array Event} {cases : Array CommCase} {C : List Nat} {blocking : Bool}
theorem sel_meets_some (hi : gs[0]? = some g) (h : stepG P (0 == 0) g w = .comm g₂ cases blocking .select w₁ es) (hcs : SelC C cases) (hopen : OpenC C w₁)
    (hne : ∃ (i : Nat) (c : Nat) (z : Value), cases[i]? = some (rcase c z) ∧ partners (gs.setIfInBounds 0 ph) c true ≠ [])
    (hall : ∀ c j k, (j, k) ∈ partners (gs.setIfInBounds 0 ph) c true → k = 0 ∧ j ≠ 0 ∧ ∃ gj vj zj shj, gs[j]? = some (parked gj #[scase c vj zj] shj)) :
    ∃ (i c : Nat) (z : Value) (j : Nat) (gj : Goroutine) (vj zj : Value) (shj : CommShape) (d s : Nat) (tm : Bool), cases[i]? = some (rcase c z) ∧ j ≠ 0 ∧ gs[j]? = some (parked gj #[scase c vj zj] shj) ∧ w₁.heap[c]? = some (.chan 0 #[] false s s tm) ∧
      runT P (crowd gs w sl) 0 = (.next (crowd ((gs.setIfInBounds j (gj.finishComm P #[scase c vj zj] shj 0 undef false)).setIfInBounds 0 (g₂.finishComm P cases .select i vj true)) ((w₁.at d).setChan c 0 #[] false (s + 1) (s + 1) tm) sl),
        MemOp.ofEvents 0 g.frame.fn g.frame.place es ++ #[{ g := j, fn := gj.frame.fn, pos := gj.frame.place, act := .send c s }, { g := 0, fn := g₂.frame.fn, pos := g₂.frame.place, act := .recv c s 0 },
          { g := j, fn := gj.frame.fn, pos := gj.frame.place, act := .sendDone c s }, { g := 0, fn := g₂.frame.fn, pos := g₂.frame.place, act := .recvDone c s }]) := by
  have hways : ∀ (i : Nat) (cc : CommCase), cases[i]? = some cc → (∃ c z s tm, c ∈ C ∧ cc = rcase c z ∧ w₁.heap[c]? = some (.chan 0 #[] false s s tm) ∧ ways w₁ (gs.setIfInBounds 0 ph) cc = (partners (gs.setIfInBounds 0 ph) c true).map fun (h, k) => Way.partner h k) ∨ ways w₁ (gs.setIfInBounds 0 ph) cc = [] := fun i cc hcc => by
    rcases hcs i cc hcc with ⟨c, z, hc, rfl⟩ | ⟨z, rfl⟩
    · obtain ⟨s, tm, hch⟩ := hopen c hc
      refine .inl ⟨c, z, s, tm, hc, rfl, hch, ?_⟩
      simp only [ways, rcase, hch]
      cases hps : partners (gs.setIfInBounds 0 ph) c true with
      | nil => simp
      | cons p ps => simp
    · exact .inr rfl
  have hmade : cases.any (illMade w₁) = false := by
    rw [Array.any_eq_false]
    intro k hk
    rcases hcs k cases[k] (Array.getElem?_eq_getElem hk) with ⟨c, z, hc, e⟩ | ⟨z, e⟩
    · obtain ⟨s, tm, hch⟩ := hopen c hc
      rw [e, made_recv z hch]; simp
    · rw [e]; simp [illMade]
  rw [runT_crowd_comm hi h]
  generalize hready : ((cases.zipIdx.toList.map fun (c, k) => (k, c, ways w₁ (gs.setIfInBounds 0 ph) c)).filter fun (_, _, ws) => !ws.isEmpty) = ready
  have hmem : ∀ k c ws, (k, c, ws) ∈ ready → cases[k]? = some c ∧ ws = ways w₁ (gs.setIfInBounds 0 ph) c ∧ ws ≠ [] := fun k c ws hm => by
    rw [← hready, List.mem_filter] at hm
    obtain ⟨h1, h2⟩ := hm
    obtain ⟨⟨c', k'⟩, h3, h4⟩ := List.mem_map.1 h1
    simp only [Prod.mk.injEq] at h4
    obtain ⟨rfl, rfl, rfl⟩ := h4
    refine ⟨mem_of_zipIdx h3, rfl, fun e => ?_⟩
    simp only [e] at h2; simp at h2
  have hrne : ready ≠ [] := by
    obtain ⟨i, c, z, h1, h2⟩ := hne
    intro e
    have hin : (i, rcase c z, ways w₁ (gs.setIfInBounds 0 ph) (rcase c z)) ∈ ready := by
      rw [← hready, List.mem_filter]
      refine ⟨List.mem_map.2 ⟨(rcase c z, i), ?_, rfl⟩, ?_⟩
      · exact Array.mem_toList_iff.2 (Array.mem_zipIdx_iff_getElem?.2 (by simpa using h1))
      · rcases hways i _ h1 with ⟨c', z', s, tm, hc', e1, e2, e3⟩ | e3
        · have : c' = c := by
            have := congrArg CommCase.chan e1
            simp only [rcase, Value.chan.injEq, Option.some.injEq] at this
            exact this.symm
          subst this
          simp only [e3]
          cases hps : partners (gs.setIfInBounds 0 ph) c' true with
          | nil => exact absurd hps h2
          | cons p ps => simp
        · obtain ⟨s, tm, hch⟩ : ∃ s tm, w₁.heap[c]? = some (.chan 0 #[] false s s tm) := by
            rcases hcs i _ h1 with ⟨c', z', hc', e1⟩ | ⟨z', e1⟩
            · have : c' = c := by
                have := congrArg CommCase.chan e1
                simp only [rcase, Value.chan.injEq, Option.some.injEq] at this
                exact this.symm
              subst this
              exact hopen c' hc'
            · have := congrArg CommCase.chan e1
              simp [rcase] at this
          exfalso
          simp only [ways, rcase, hch] at e3
          cases hps : partners (gs.setIfInBounds 0 ph) c true with
          | nil => exact h2 hps
          | cons p ps => rw [hps] at e3; simp at e3
    rw [e] at hin; cases hin
  have hlen : 0 < ready.length := List.length_pos_iff.2 hrne
  obtain ⟨a, d1, ha, hrun1⟩ := choose_sel (P := P) hlen w₁
  obtain ⟨⟨k, cc, ws⟩, hk⟩ : ∃ r, ready[a]? = some r := ⟨ready[a], List.getElem?_eq_getElem ha⟩
  obtain ⟨hk1, hk2, hk3⟩ := hmem k cc ws (List.mem_of_getElem? hk)
  have hwl : 0 < ws.length := List.length_pos_iff.2 hk3
  obtain ⟨b, d2, hb, hrun2⟩ := choose_ext (P := P) (s := "which waiting goroutine is the partner") hwl (w₁.at d1)
  rcases hways k cc hk1 with ⟨c, z, s, tm, hcC, rfl, hch, hw⟩ | hw
  · rw [hw] at hk2
    subst hk2
    obtain ⟨⟨j, kj⟩, hjk⟩ : ∃ p, (partners (gs.setIfInBounds 0 ph) c true)[b]? = some p := ⟨(partners (gs.setIfInBounds 0 ph) c true)[b]'(by simpa using hb), List.getElem?_eq_getElem _⟩
    obtain ⟨rfl, hj0, gj, vj, zj, shj, hj⟩ := hall c j kj (List.mem_of_getElem? hjk)
    refine ⟨k, c, z, j, gj, vj, zj, shj, d2, s, tm, hk1, hj0, hj, hch, ?_⟩
    have hj' := stand_get (i := 0) hj0 hj
    have hfp := finishPartner_at P (gs.setIfInBounds 0 ph) hj' (cs := #[scase c vj zj]) (sh := shj) rfl 0 undef
    have hgd : (gs.setIfInBounds 0 ph).getD j default = parked gj #[scase c vj zj] shj := by rw [Array.getD_eq_getD_getElem?, hj']; rfl
    have hov : offeredValue (gs.setIfInBounds 0 ph) j 0 = vj := by simp [offeredValue, hj', parked, scase]
    have hgm := getD_map_partner (partners (gs.setIfInBounds 0 ph) c true) b (j, 0) hjk
    have hpick : (do
        let a ← choose (.select ready.length)
        let (k, c, ws) := ready.getD a (0, default, [])
        let b ← choose (.extern "which waiting goroutine is the partner" ws.length)
        pure (k, c, ws.getD b .closed) : Sem (Nat × CommCase × Way)).run P w₁ = .ok (k, rcase c z, .partner j 0) (w₁.at d2) := by
      have e1 : ready.getD a (0, default, []) = (k, rcase c z, (partners (gs.setIfInBounds 0 ph) c true).map fun (h, k) => Way.partner h k) := by rw [List.getD_eq_getElem?_getD, hk]; rfl
      show (Sem.bind (choose (.select ready.length)) _).run P w₁ = _
      rw [hrun1, e1]
      show (Sem.bind (choose (.extern "which waiting goroutine is the partner" _)) _).run P (w₁.at d1) = _
      rw [hrun2, hgm]
      rfl
    unfold communicate
    rw [hready]
    have hre : ready.isEmpty = false := by cases hr : ready with
      | nil => exact absurd hr hrne
      | cons x l => rfl
    have hch2 : (w₁.at d2).heap[c]? = some (.chan 0 #[] false s s tm) := hch
    simp only [hre, hpick, Bool.false_eq_true, if_false, rcase, hch2, hfp, hgd, hov, finishComm_parked, set_stand2]
    rw [if_neg]
    · rfl
    · rw [Bool.not_eq_true]; exact hmade
  · rw [hw] at hk2; exact absurd hk2 hk3
end
section
variable {n : Nat} {P : Program} {Post : Value → World → Prop} {C : List Nat} {V0 : View} {gs : Array Goroutine} {w W : World} {t : Trace} {q : Nat → Nat} {ps : List Wk} {spec : List SE} {fr : Frame} {cs : List Frame} {cases : Array CommCase}
theorem Co.setMain {g0 g1 : Goroutine} (h : Co n P C g0 V0 gs w t q ps) : Co n P C g1 V0 (gs.setIfInBounds 0 g1) w t q ps := by
  have hlt : 0 < gs.size := (Array.getElem?_eq_some_iff.1 h.main).1
  exact ⟨by rw [Array.getElem?_setIfInBounds_self_of_lt hlt], fun p k hk => ⟨(h.ok p k hk).1.same (by rw [Array.getElem?_setIfInBounds_ne (by have := (h.ok p k hk).2.1; omega)]), (h.ok p k hk).2⟩, h.inj, fun i g hi hg hn => h.old i g hi (by rwa [Array.getElem?_setIfInBounds_ne (by omega)] at hg) hn, fun j hj => h.above j (by simpa using hj), h.low, h.sat0, h.sat, h.chan, h.noc0, h.noc, h.ap0, h.apk, h.app, h.dom, h.clean, h.seen, h.hears, h.deaf, h.perm0, h.perm, h.known⟩
theorem again_open {g : Goroutine} {sh : CommShape} (hcs : SelC C cases) (hopen : OpenC C w) : (parked g cases sh).again w = parked g cases sh := by
  simp only [Goroutine.again, parked]
  rw [if_neg]
  rw [Bool.not_eq_true, Array.any_eq_false]
  intro k hk
  rcases hcs k cases[k] (Array.getElem?_eq_getElem hk) with ⟨c, z, hc, e⟩ | ⟨z, e⟩
  · obtain ⟨s, tm, hch⟩ := hopen c hc
    rw [e]; simp [rcase, hch]
  · rw [e]; simp
theorem stays_sel (hcs : SelC C cases) : Stays P C (parked (G fr cs) cases .select) := fun g g' w' ho => by
  unfold Go.Conc.woken
  split
  · exact again_open hcs ho
  · rfl
theorem erase_map {ps : List Wk} {p : Nat} : (ps.eraseIdx p).map (·.e) = (ps.map (·.e)).eraseIdx p := by
  apply List.ext_getElem?
  intro i
  rw [List.getElem?_map, List.getElem?_eraseIdx, List.getElem?_eraseIdx]
  split <;> rw [List.getElem?_map]
theorem par_fin (hcs : SelC C cases) (huniq : ∀ (i j c : Nat) (z z' : Value), cases[i]? = some (rcase c z) → cases[j]? = some (rcase c z') → i = j)
    (hall : ∀ e ∈ spec, ∃ (i : Nat) (z : Value), cases[i]? = some (rcase e.c z)) (hne : spec ≠ [])
    (hnext : ∀ (p : Nat) (e : SE) (i : Nat) (z : Value), spec[p]? = some e → cases[i]? = some (rcase e.c z) → ZC n P Post C W (spec.eraseIdx p) V0 (fr.finish (commResult cases .select i e.v true)) cs) :
    ∀ (gs : Array Goroutine) (w : World) (sl : Option (Nat × Nat)) (t : Trace) (q : Nat → Nat) (ps : List Wk), Co n P C (parked (G fr cs) cases .select) V0 gs w t q ps → ps.map (·.e) = spec → KeptO W w → (∀ (p : Nat) (k : Wk), ps[p]? = some k → k.m ≠ none) → FinB P Post (crowd gs w sl) t := by
  have key : ∀ l : List (Option Rk), ∀ (M : Nat) gs w sl t q ps, ps.map (·.m) = l → sumTo gs.size q ≤ M → Co n P C (parked (G fr cs) cases .select) V0 gs w t q ps → ps.map (·.e) = spec → KeptO W w → (∀ (p : Nat) (k : Wk), ps[p]? = some k → k.m ≠ none) → FinB P Post (crowd gs w sl) t := by
    intro l
    induction lstep_acc l with
    | intro l _ ih =>
      intro M
      induction M using Nat.strongRecOn with
      | _ M ihM =>
        intro gs w sl t q ps hl hM h he hkp hwalk
        have hsome : ∃ (i : Nat) (g : Goroutine), gs[i]? = some g ∧ g.status = .running := by
          cases hps : ps with
          | nil => rw [hps] at he; exact absurd he.symm hne
          | cons k ps' =>
            have hk : ps[0]? = some k := by rw [hps]; rfl
            have hok := (h.ok 0 k hk).1
            unfold WkOk at hok
            split at hok
            · obtain ⟨f2, X2, h1, _⟩ := hok; exact ⟨_, _, h1, rfl⟩
            · next hr => exact absurd hr (hwalk 0 k hk)
        obtain ⟨i, g, d, sl', hi, hg, hst⟩ := crowd_pick (P := P) (w := w) (sl := sl) (awake_all h (.inr rfl)) hsome
        have hd := h.at d
        rcases Nat.eq_zero_or_pos i with rfl | hpos
        · rw [h.main] at hi
          rw [← Option.some.inj hi] at hg
          simp [parked] at hg
        · by_cases hp : ∃ (p : Nat) (k : Wk), ps[p]? = some k ∧ k.j = i
          · obtain ⟨p, k, hk, rfl⟩ := hp
            have hok := (h.ok p k hk).1
            unfold WkOk at hok
            split at hok
            · next r hr =>
              obtain ⟨f2, X2, h1, h2⟩ := hok
              rw [hi] at h1
              obtain rfl := Option.some.inj h1
              have hstop : AtSendV P k.e.c k.e.v k.V f2 X2 → FinB P Post (crowd gs w sl) t := fun ha => by
                obtain ⟨z, qk, hs, hq⟩ := ha
                have hke : spec[p]? = some k.e := by rw [← he, List.getElem?_map, hk]; rfl
                obtain ⟨idx, zz, hidx⟩ := hall k.e (List.mem_of_getElem? hke)
                have hj0 := (h.ok p k hk).2.1
                have hi0 : (k.j == 0) = false := by simp; omega
                obtain ⟨s, tm, hch⟩ := hd.chan _ (h.ok p k hk).2.2
                have hoff : offersAt (parked (G fr cs) cases .select) k.e.c false = [idx] := offersAt_parked_at hidx fun m cc hm hcc e => by
                  rcases hcs m cc hcc with ⟨c, z', _, rfl⟩ | ⟨z', rfl⟩
                  · simp only [rcase, Value.chan.injEq, Option.some.injEq] at e
                    subst e
                    exact hm (huniq m idx _ _ _ hcc hidx)
                  · simp at e
                have hpart : partners (gs.setIfInBounds k.j ph) k.e.c false = [(0, idx)] := by
                  rw [partners_one (j := 0) (g := parked (G fr cs) cases .select) (by rw [Array.getElem?_setIfInBounds_ne (by omega)]; exact h.main) fun j x hj hx => ?_, hoff]
                  · rfl
                  · rcases getElem?_stand gs k.j j x hx with ⟨_, rfl⟩ | ⟨_, h1⟩
                    · exact offersAt_ph _ _
                    · exact offers_other h h1 hj _
                have hrunT := crowd_send_meets_sel (P := P) (sl := sl') (i := k.j) (j := 0) (k := idx) hi (by rw [hi0]; exact hs (w.at d) (hd.sat p k hk)) hch (by omega) h.main hidx hpart
                have e0 : MemOp.ofEvents k.j (G f2 X2).frame.fn (G f2 X2).frame.place #[] = #[] := by simp [MemOp.ofEvents]
                rw [e0, Array.empty_append, finishComm_send] at hrunT
                have hlt : k.j < gs.size := (Array.getElem?_eq_some_iff.1 hi).1
                have h0s : 0 < gs.size := by omega
                have hmet := hd.met hk (g1 := (G fr cs).finishComm P cases .select idx k.e.v true) (gk := Go.Conc.served (G f2 X2) undef) (gs' := (gs.setIfInBounds 0 ((G fr cs).finishComm P cases .select idx k.e.v true)).setIfInBounds k.j (Go.Conc.served (G f2 X2) undef)) (w' := (w.at d).setChan k.e.c 0 #[] false (s + 1) (s + 1) tm) (s := s) (tm := tm) (qk := qk)
                  (x1 := { g := k.j, fn := (G f2 X2).frame.fn, pos := (G f2 X2).frame.place, act := .send k.e.c s }) (x2 := { g := 0, fn := (G fr cs).frame.fn, pos := (G fr cs).frame.place, act := .recv k.e.c s 0 }) (x3 := { g := k.j, fn := (G f2 X2).frame.fn, pos := (G f2 X2).frame.place, act := .sendDone k.e.c s }) (x4 := { g := 0, fn := (G fr cs).frame.fn, pos := (G fr cs).frame.place, act := .recvDone k.e.c s })
                  hch rfl (hd.low.set _ fun c t f e => by rw [hch] at e; cases e) (by rw [Array.getElem?_setIfInBounds_ne (by omega)]; simp [h0s]) (by simp [hlt]) hq (by simp) (fun j hj hjk => by rw [Array.getElem?_setIfInBounds_ne (fun e => hjk e.symm), Array.getElem?_setIfInBounds_ne (fun e => hj e.symm)]) ⟨rfl, rfl⟩ ⟨rfl, rfl⟩ ⟨rfl, rfl⟩ ⟨rfl, rfl⟩
                exact FinB.step (hst.trans hrunT) (hnext p k.e idx zz hke hidx _ _ _ _ _ _ hmet (by rw [erase_map, he]) ((hkp.at d).setChan _ _ _ _ _ _ _))
              cases r with
              | zero => exact hstop h2
              | sup f =>
                rcases h2 with h2 | h2
                · exact hstop h2
                · obtain ⟨fr', X', w', es, V', a1, a2, a3⟩ := h2 (w.at d) (hd.sat p k hk) hd.low
                  obtain ⟨gs', u, e1, e2, e3⟩ := hd.ownW (stays_sel hcs) hk hi a1 a2 a3 (sl := sl')
                  refine FinB.step (hst.trans e1) (ih _ (by rw [← hl, map_set_m]; exact lstep_set (by rw [List.getElem?_map, hk]; exact congrArg some hr) (.step f _)) _ _ _ _ _ _ _ rfl (Nat.le_refl _) e3 (by rw [map_set_e hk (by rfl)]; exact he) ((hkp.at d).step a2.kept) fun p' k' hk' => ?_)
                  rcases set_get hk hk' with ⟨_, rfl⟩ | ⟨_, h5⟩
                  · simp
                  · exact hwalk p' k' h5
            · next hr => exact absurd hr (hwalk p k hk)
          · obtain ⟨gs', u, q', e1, e2, e3, e4⟩ := hd.slip (stays_sel hcs) hi hg hpos (fun p k hk e => hp ⟨p, k, hk, e⟩) (sl := sl')
            exact FinB.step (hst.trans e1) (ihM (sumTo gs'.size q') (by omega) _ _ _ _ _ _ hl (Nat.le_refl _) e3 he (hkp.at d) hwalk)
  exact fun gs w sl t q ps h he hkp hw => key _ _ gs w sl t q ps rfl (Nat.le_refl _) h he hkp hw
theorem zc_select (hs : ∀ w, Sat V0 w → stepG P true (G fr cs) w = .comm (G fr cs) cases true .select w #[]) (hcs : SelC C cases) (huniq : ∀ (i j c : Nat) (z z' : Value), cases[i]? = some (rcase c z) → cases[j]? = some (rcase c z') → i = j)
    (hall : ∀ e ∈ spec, ∃ (i : Nat) (z : Value), cases[i]? = some (rcase e.c z)) (hne : spec ≠ [])
    (hnext : ∀ (p : Nat) (e : SE) (i : Nat) (z : Value), spec[p]? = some e → cases[i]? = some (rcase e.c z) → ZC n P Post C W (spec.eraseIdx p) V0 (fr.finish (commResult cases .select i e.v true)) cs) : ZC n P Post C W spec V0 fr cs :=
  zc_pick fun gs w sl t q ps m0 h he hkp hst => by
    have hcomm : stepG P (0 == 0) (G fr cs) w = .comm (G fr cs) cases true .select w #[] := hs w h.sat0
    have e00 : MemOp.ofEvents 0 (G fr cs).frame.fn (G fr cs).frame.place #[] = #[] := by simp [MemOp.ofEvents]
    -- who offers a send
    have hoffer : ∀ c j k, (j, k) ∈ partners (gs.setIfInBounds 0 ph) c true → k = 0 ∧ j ≠ 0 ∧ ∃ (p : Nat) (kk : Wk) (f2 : Frame) (X2 : List Frame) (z : Value) (qk : Nat), ps[p]? = some kk ∧ kk.j = j ∧ kk.e.c = c ∧ gs[j]? = some (parked (G f2 X2) #[scase kk.e.c kk.e.v z] .send) ∧ QuitsIn P qk (Go.Conc.served (G f2 X2) undef) := fun c j k hm => by
      obtain ⟨x, hx, hk⟩ := mem_partners.1 hm
      rcases getElem?_stand gs 0 j x hx with ⟨_, rfl⟩ | ⟨hj, h1⟩
      · rw [offersAt_ph] at hk; cases hk
      · by_cases hp : ∃ (p : Nat) (kk : Wk), ps[p]? = some kk ∧ kk.j = j
        · obtain ⟨p, kk, hkk, rfl⟩ := hp
          have hok := (h.ok p kk hkk).1
          unfold WkOk at hok
          split at hok
          · obtain ⟨f2, X2, h2, _⟩ := hok
            rw [h1] at h2
            rw [Option.some.inj h2, offersAt_of_not_blocked (by simp [G])] at hk
            cases hk
          · obtain ⟨f2, X2, z, h2, qk, h3⟩ := hok
            rw [h1] at h2
            rw [Option.some.inj h2, offersAt_parked_send] at hk
            split at hk
            · next ec => exact ⟨by simpa using hk, hj, p, kk, f2, X2, z, qk, hkk, rfl, ec, by rw [h1]; exact h2, h3⟩
            · cases hk
        · rcases (h.old j x (by omega) h1 fun p kk hkk e => hp ⟨p, kk, hkk, e⟩).status with h2 | h2 <;> rw [offersAt_of_not_blocked (by rw [h2]; simp)] at hk <;> cases hk
    by_cases hany : ∃ (p : Nat) (k : Wk), ps[p]? = some k ∧ k.m = none
    · -- somebody is parked at his send
      obtain ⟨p0, k0, hk0, hm0⟩ := hany
      have hne2 : ∃ (i : Nat) (c : Nat) (z : Value), cases[i]? = some (rcase c z) ∧ partners (gs.setIfInBounds 0 ph) c true ≠ [] := by
        have hk0e : k0.e ∈ spec := by rw [← he]; exact List.mem_map.2 ⟨k0, List.mem_of_getElem? hk0, rfl⟩
        obtain ⟨i, z, hi⟩ := hall _ hk0e
        refine ⟨i, k0.e.c, z, hi, fun e => ?_⟩
        have hok := (h.ok p0 k0 hk0).1
        unfold WkOk at hok
        rw [hm0] at hok
        obtain ⟨f2, X2, z2, h2, _⟩ := hok
        have : (k0.j, 0) ∈ partners (gs.setIfInBounds 0 ph) k0.e.c true := mem_partners.2 ⟨_, by rw [Array.getElem?_setIfInBounds_ne (by have := (h.ok p0 k0 hk0).2.1; omega)]; exact h2, by rw [offersAt_parked_send, if_pos rfl]; simp⟩
        rw [e] at this; cases this
      obtain ⟨i, c, z, j, gj, vj, zj, shj, d, s, tm, a1, a2, a3, a4, a5⟩ := sel_meets_some (P := P) (sl := sl) h.main hcomm hcs h.chan hne2 (fun c j k hm => by
        obtain ⟨b1, b2, p, kk, f2, X2, z, qk, b3, b4, b5, b6, _⟩ := hoffer c j k hm
        subst b5
        exact ⟨b1, b2, _, _, _, _, b6⟩)
      have hj0 : (j, 0) ∈ partners (gs.setIfInBounds 0 ph) c true := mem_partners.2 ⟨_, by rw [Array.getElem?_setIfInBounds_ne (fun e => a2 e.symm)]; exact a3, by rw [offersAt_parked_send, if_pos rfl]; simp⟩
      obtain ⟨_, _, p, kk, f2, X2, z2, qk, b3, b4, b5, b6, b7⟩ := hoffer c j 0 hj0
      subst b4 b5
      rw [a3] at b6
      have hgj := Option.some.inj b6
      have hoff := congrArg Goroutine.offers hgj
      simp only [parked, Option.some.injEq, Prod.mk.injEq] at hoff
      obtain ⟨hoff, rfl⟩ := hoff
      have hsc : scase kk.e.c vj zj = scase kk.e.c kk.e.v z2 := by simpa using hoff
      simp only [scase, CommCase.mk.injEq, Option.some.injEq, true_and] at hsc
      obtain ⟨rfl, rfl⟩ := hsc
      have hfrm : gj.frame = f2 ∧ gj.callers = X2 ∧ gj.dying = none := by
        refine ⟨congrArg Goroutine.frame hgj, congrArg Goroutine.callers hgj, congrArg Goroutine.dying hgj⟩
      have hserve : gj.finishComm P #[scase kk.e.c kk.e.v zj] .send 0 undef false = Go.Conc.served (G f2 X2) undef := by
        obtain ⟨gfr, gcs, gst, gdy, gof⟩ := gj
        obtain ⟨h1, h2, h3⟩ := hfrm
        simp only at h1 h2 h3
        subst h1 h2 h3
        rfl
      rw [e00, Array.empty_append, hserve] at a5
      have hlt : kk.j < gs.size := (Array.getElem?_eq_some_iff.1 a3).1
      have h0s : 0 < gs.size := by omega
      have hkke : spec[p]? = some kk.e := by rw [← he, List.getElem?_map, b3]; rfl
      have hmet := h.met b3 (g1 := (G fr cs).finishComm P cases .select i kk.e.v true) (gk := Go.Conc.served (G f2 X2) undef) (gs' := (gs.setIfInBounds kk.j (Go.Conc.served (G f2 X2) undef)).setIfInBounds 0 ((G fr cs).finishComm P cases .select i kk.e.v true)) (w' := (w.at d).setChan kk.e.c 0 #[] false (s + 1) (s + 1) tm) (s := s) (tm := tm) (qk := qk)
        (x1 := { g := kk.j, fn := gj.frame.fn, pos := gj.frame.place, act := .send kk.e.c s }) (x2 := { g := 0, fn := (G fr cs).frame.fn, pos := (G fr cs).frame.place, act := .recv kk.e.c s 0 }) (x3 := { g := kk.j, fn := gj.frame.fn, pos := gj.frame.place, act := .sendDone kk.e.c s }) (x4 := { g := 0, fn := (G fr cs).frame.fn, pos := (G fr cs).frame.place, act := .recvDone kk.e.c s })
        a4 rfl ((show Low n (w.at d) from h.low).set _ fun c t f e => by have : w.heap[kk.e.c]? = _ := e; rw [a4] at this; cases this) (by simp [h0s]) (by rw [Array.getElem?_setIfInBounds_ne (by omega)]; simp [hlt]) b7 (by simp) (fun j hj hjk => by rw [Array.getElem?_setIfInBounds_ne (fun e => hj e.symm), Array.getElem?_setIfInBounds_ne (fun e => hjk e.symm)]) ⟨rfl, rfl⟩ ⟨rfl, rfl⟩ ⟨rfl, rfl⟩ ⟨rfl, rfl⟩
      exact FinB.step (hst.trans a5) (hnext p kk.e i z hkke a1 _ _ _ _ _ _ hmet (by rw [erase_map, he]) ((hkp.at d).setChan _ _ _ _ _ _ _))
    · -- nobody is: it is parked itself
      have hnone : ∀ c, partners (gs.setIfInBounds 0 ph) c true = [] := fun c => by
        cases hps : partners (gs.setIfInBounds 0 ph) c true with
        | nil => rfl
        | cons pk rest =>
          obtain ⟨j, k⟩ := pk
          obtain ⟨_, _, p, kk, f2, X2, z, qk, b3, b4, b5, b6, _⟩ := hoffer c j k (by rw [hps]; exact List.mem_cons_self)
          exfalso
          refine hany ⟨p, kk, b3, ?_⟩
          have hok := (h.ok p kk b3).1
          unfold WkOk at hok
          split at hok
          · obtain ⟨f3, X3, h2, _⟩ := hok
            rw [b4, b6] at h2
            have := congrArg Goroutine.status (Option.some.inj h2)
            simp [parked, G] at this
          · next hr => exact hr
      have hrunT := crowd_waits (P := P) (sl := sl) (i := 0) h.main hcomm (fun cc hcc => by
        obtain ⟨i, hi⟩ := Array.mem_iff_getElem?.1 hcc
        rcases hcs i cc hi with ⟨c, z, hc, rfl⟩ | ⟨z, rfl⟩
        · obtain ⟨s, tm, hch⟩ := h.chan c hc
          exact ways_recv_none hch (hnone c)
        · exact ways_nil none)
      rw [e00] at hrunT
      refine FinB.step (hst.trans hrunT) (par_fin hcs huniq hall hne hnext _ _ _ _ _ _ (by rw [Array.append_empty]; exact h.setMain) he hkp fun p k hk hm => hany ⟨p, k, hk, hm⟩)
end
end Go.Co
end

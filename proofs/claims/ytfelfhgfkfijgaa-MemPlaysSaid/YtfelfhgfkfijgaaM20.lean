import Derived.Test.YtfelfhgfkfijgaaM18
namespace Go.Proofs.Ytfelfhgfkfijgaa
open Go.RowKit Go.Nb Go.Maps
theorem up_ne {l : List Pr} (h : upB l = true) {i j : Nat} (hi : i < l.length) (hj : j < l.length) (hne : i ≠ j) : (l.getD i default).k ≠ (l.getD j default).k := by
  intro e
  rcases Nat.lt_or_ge i j with h1 | h1
  · have := up_less h h1 hj
    rw [e, less_irrefl] at this; cases this
  · have := up_less h (show j < i by omega) hi
    rw [e, less_irrefl] at this; cases this
theorem putL_cases {l : List Pr} (h : upB l = true) (p : Pr) : (p.k ∈ keysL l ∧ seekL p.k l < l.length ∧ (l.getD (seekL p.k l) default).k = p.k ∧ putL l p = l.set (seekL p.k l) p) ∨ p.k ∉ keysL l := by
  by_cases hc : seekL p.k l < l.length ∧ (l.getD (seekL p.k l) default).k = p.k
  · refine .inl ⟨?_, hc.1, hc.2, by unfold putL; rw [if_pos hc]⟩
    unfold keysL
    rw [List.mem_map]
    refine ⟨l.getD (seekL p.k l) default, ?_, hc.2⟩
    rw [List.getD_eq_getElem?_getD, List.getElem?_eq_getElem hc.1]
    exact List.getElem_mem hc.1
  · refine .inr (fun hin => ?_)
    unfold keysL at hin
    obtain ⟨x, hx, hk⟩ := List.mem_map.mp hin
    obtain ⟨j, hj, rfl⟩ := List.mem_iff_getElem.mp hx
    have hjd : l.getD j default = l[j] := by rw [List.getD_eq_getElem?_getD, List.getElem?_eq_getElem hj]; rfl
    rcases Nat.lt_trichotomy j (seekL p.k l) with h1 | h1 | h1
    · have := seekL_lt p.k l j h1
      rw [hjd, hk, less_irrefl] at this; cases this
    · exact hc ⟨by omega, by rw [← h1, hjd, hk]⟩
    · have h2 := seekL_at p.k l (by omega)
      have h3 := up_less h h1 hj
      rw [hjd, hk, h2] at h3; cases h3
theorem putL_mem {l : List Pr} (h : upB l = true) {p x : Pr} (hx : x ∈ putL l p) : x = p ∨ (x ∈ l ∧ x.k ≠ p.k) := by
  rcases putL_cases h p with ⟨_, hs, hk, he⟩ | hn
  · rw [he] at hx
    obtain ⟨j, hj, rfl⟩ := List.mem_iff_getElem.mp hx
    rw [List.length_set] at hj
    rw [List.getElem_set]
    split
    · exact .inl rfl
    · next hne =>
      refine .inr ⟨List.getElem_mem hj, ?_⟩
      have := up_ne h hj hs (fun e => hne e.symm)
      rw [hk] at this
      rw [List.getD_eq_getElem?_getD, List.getElem?_eq_getElem hj] at this
      exact this
  · rcases (mem_putL hn).1 hx with e | e
    · exact .inl e
    · refine .inr ⟨e, fun e2 => hn ?_⟩
      rw [← e2]; exact List.mem_map.mpr ⟨x, e, rfl⟩
theorem putL_keys {l : List Pr} (h : upB l = true) (p : Pr) (s : Bs) : s ∈ keysL (putL l p) ↔ s = p.k ∨ s ∈ keysL l := by
  rcases putL_cases h p with ⟨hin, hs, hk, he⟩ | hn
  · have e : keysL (putL l p) = keysL l := by
      rw [he]
      unfold keysL
      rw [List.map_set]
      apply List.ext_getElem
      · simp
      · intro i h1 h2
        rw [List.getElem_set]
        split
        · next e =>
          subst e
          rw [List.getElem_map]
          rw [List.getD_eq_getElem?_getD, List.getElem?_eq_getElem hs] at hk
          exact hk.symm
        · rfl
    rw [e]
    constructor
    · exact .inr
    · rintro (rfl | h1)
      · exact hin
      · exact h1
  · exact keys_putL hn
theorem putL_length {l : List Pr} (h : upB l = true) (p : Pr) : (putL l p).length = if p.k ∈ keysL l then l.length else l.length + 1 := by
  rcases putL_cases h p with ⟨hin, _, _, he⟩ | hn
  · rw [if_pos hin, he, List.length_set]
  · rw [if_neg hn, (putL_size_new hn).2]
/-- The map tells of each pair where it was put last. -/
def Rel (ss : List Stp) (D : DataW Unit) (l : List Pr) : Prop := Tidy D ∧ Maps.size D = l.length ∧ (∀ s : Bs, Maps.has D (.string s) = decide (s ∈ keysL l)) ∧ ∀ x, x ∈ l → ∃ i k, i < ss.length ∧ k < 1000 ∧ k < (ss.getD i default).q.length ∧ (ss.getD i default).q.getD k default = x ∧ D.atKey (.string x.k) (.lit (.int .i64 0)) = .lit (.int .i64 ((i * 1000 + k : Nat) : Int))
theorem rel_nil (ss : List Stp) : Rel ss (.map []) [] := ⟨tidy_empty, rfl, fun s => by simp [keysL, Maps.has], fun x hx => by cases hx⟩
theorem rel_put {ss : List Stp} {D : DataW Unit} {l : List Pr} (h : Rel ss D l) (hu : upB l = true) {i k : Nat} (hi : i < ss.length) (hk1 : k < 1000) (hk : k < (ss.getD i default).q.length) {p : Pr} (hp : (ss.getD i default).q.getD k default = p) : Rel ss (D.put (.string p.k) (.lit (.int .i64 ((i * 1000 + k : Nat) : Int)))) (putL l p) := by
  obtain ⟨h1, h2, h3, h4⟩ := h
  have hkl : WideAt.IsKeyLit (.string p.k) := trivial
  refine ⟨h1.put hkl _, ?_, fun s => ?_, fun x hx => ?_⟩
  · rw [size_put h1, h3, h2, putL_length hu]
    by_cases hc : p.k ∈ keysL l
    · simp [hc]
    · simp [hc]
  · by_cases hs : s = p.k
    · subst hs
      rw [has_put_same h1.isMap hkl]
      simp [(putL_keys hu p p.k).2 (.inl rfl)]
    · rw [has_put_other (by intro e; injection e with e; exact hs e), h3]
      have : s ∈ keysL (putL l p) ↔ s ∈ keysL l := by
        rw [putL_keys hu]
        constructor
        · rintro (e | e)
          · exact absurd e hs
          · exact e
        · exact .inr
      simp [this]
  · rcases putL_mem hu hx with rfl | ⟨hx1, hx2⟩
    · exact ⟨i, k, hi, hk1, hk, hp, atKey_put_same h1.isMap hkl _ _⟩
    · obtain ⟨i', k', a, b, c, d, e⟩ := h4 x hx1
      exact ⟨i', k', a, b, c, d, by rw [atKey_put_other (by intro e2; injection e2 with e2; exact hx2 e2)]; exact e⟩

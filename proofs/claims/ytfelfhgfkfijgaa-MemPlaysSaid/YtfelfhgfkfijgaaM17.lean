import Derived.Test.YtfelfhgfkfijgaaM8
namespace Go.Proofs.Ytfelfhgfkfijgaa
open Go.RowKit Go.Nb
def keysL (l : List Pr) : List Bs := l.map (·.k)
theorem putL_new {a : List Pr} {p : Pr} (h : p.k ∉ keysL a) : putL a p = a.take (seekL p.k a) ++ p :: a.drop (seekL p.k a) := by
  unfold putL
  rw [if_neg]
  rintro ⟨h1, h2⟩
  apply h
  rw [keysL, List.mem_map]
  refine ⟨a.getD (seekL p.k a) default, ?_, h2⟩
  rw [List.getD_eq_getElem?_getD, List.getElem?_eq_getElem h1]
  exact List.getElem_mem h1
theorem mem_putL {a : List Pr} {p x : Pr} (h : p.k ∉ keysL a) : x ∈ putL a p ↔ x = p ∨ x ∈ a := by
  rw [putL_new h, List.mem_append, List.mem_cons]
  have e : x ∈ a ↔ x ∈ a.take (seekL p.k a) ∨ x ∈ a.drop (seekL p.k a) := by rw [← List.mem_append, List.take_append_drop]
  rw [e]
  constructor
  · rintro (h | h | h)
    · exact .inr (.inl h)
    · exact .inl h
    · exact .inr (.inr h)
  · rintro (h | h | h)
    · exact .inr (.inl h)
    · exact .inl h
    · exact .inr (.inr h)
theorem putL_size_new {a : List Pr} {p : Pr} (h : p.k ∉ keysL a) : sizeP (putL a p) = sizeP a + (p.k.length + p.v.length + 4) ∧ (putL a p).length = a.length + 1 := by
  rw [putL_new h]
  have e : sizeP a = sizeP (a.take (seekL p.k a)) + sizeP (a.drop (seekL p.k a)) := by rw [← sizeP_append, List.take_append_drop]
  have := seekL_le p.k a
  refine ⟨by rw [sizeP_append, sizeP]; omega, ?_⟩
  simp only [List.length_append, List.length_take, List.length_cons, List.length_drop]; omega
theorem keys_putL {a : List Pr} {p : Pr} {s : Bs} (h : p.k ∉ keysL a) : s ∈ keysL (putL a p) ↔ s = p.k ∨ s ∈ keysL a := by
  unfold keysL
  rw [List.mem_map, List.mem_map]
  constructor
  · rintro ⟨x, hx, rfl⟩
    rcases (mem_putL h).1 hx with rfl | hx
    · exact .inl rfl
    · exact .inr ⟨x, hx, rfl⟩
  · rintro (rfl | ⟨x, hx, rfl⟩)
    · exact ⟨p, (mem_putL h).2 (.inl rfl), rfl⟩
    · exact ⟨x, (mem_putL h).2 (.inr hx), rfl⟩
/-- Of pairs with unlike keys all are there. -/
theorem putsL_new : ∀ (l a : List Pr), (keysL l).Nodup → (∀ s, s ∈ keysL l → s ∉ keysL a) → (∀ x, x ∈ putsL a l ↔ x ∈ a ∨ x ∈ l) ∧ sizeP (putsL a l) = sizeP a + sizeP l ∧ (putsL a l).length = a.length + l.length
  | [], a, _, _ => ⟨fun x => by simp [putsL], rfl, rfl⟩
  | p :: l, a, hn, hd => by
    have hp : p.k ∉ keysL a := hd p.k (by simp [keysL])
    have hn' : p.k ∉ keysL l ∧ (keysL l).Nodup := by
      have : (keysL (p :: l)) = p.k :: keysL l := rfl
      rw [this, List.nodup_cons] at hn
      exact hn
    have ih := putsL_new l (putL a p) hn'.2 (fun s hs hc => by
      rcases (keys_putL hp).1 hc with rfl | hc
      · exact hn'.1 hs
      · exact hd s (by
          have : (keysL (p :: l)) = p.k :: keysL l := rfl
          rw [this]; exact List.mem_cons_of_mem _ hs) hc)
    have e : putsL a (p :: l) = putsL (putL a p) l := rfl
    have hs := putL_size_new hp
    rw [e]
    refine ⟨fun x => ?_, ?_, ?_⟩
    · rw [ih.1 x, mem_putL hp, List.mem_cons]
      constructor
      · rintro ((h | h) | h)
        · exact .inr (.inl h)
        · exact .inl h
        · exact .inr (.inr h)
      · rintro (h | h | h)
        · exact .inl (.inr h)
        · exact .inl (.inl h)
        · exact .inr h
    · rw [ih.2.1, hs.1, sizeP]; omega
    · rw [ih.2.2, hs.2, List.length_cons]; omega
theorem upB_tail {p : Pr} {l : List Pr} (h : upB (p :: l) = true) : upB l = true ∧ ∀ x, x ∈ l → Op.bytesLess p.k x.k = true := by
  constructor
  · cases l with
    | nil => rfl
    | cons q m => simp only [upB, Bool.and_eq_true] at h; exact h.2
  · intro x hx
    obtain ⟨i, hi, rfl⟩ := List.mem_iff_getElem.mp hx
    have := up_less h (i := 0) (j := i + 1) (by omega) (by simpa using hi)
    simpa [List.getD_eq_getElem?_getD, hi] using this
/-- Rows in order with the same pairs are the same. -/
theorem up_ext : ∀ (a b : List Pr), upB a = true → upB b = true → (∀ x, x ∈ a ↔ x ∈ b) → a = b
  | [], [], _, _, _ => rfl
  | [], q :: b, _, _, h => by have := (h q).2 (by simp); simp at this
  | p :: a, [], _, _, h => by have := (h p).1 (by simp); simp at this
  | p :: a, q :: b, ha, hb, h => by
    have h1 := upB_tail ha
    have h2 := upB_tail hb
    have hpq : p = q := by
      rcases List.mem_cons.mp ((h p).1 (by simp)) with e | hp
      · exact e
      · rcases List.mem_cons.mp ((h q).2 (by simp)) with e | hq
        · exact e.symm
        · have c := less_trans (h2.2 p hp) (h1.2 q hq)
          rw [less_irrefl] at c; cases c
    subst hpq
    congr 1
    refine up_ext a b h1.1 h2.1 (fun x => ?_)
    constructor
    · intro hx
      rcases List.mem_cons.mp ((h x).1 (List.mem_cons_of_mem _ hx)) with e | hb'
      · subst e
        have c := h1.2 x hx
        rw [less_irrefl] at c; cases c
      · exact hb'
    · intro hx
      rcases List.mem_cons.mp ((h x).2 (List.mem_cons_of_mem _ hx)) with e | ha'
      · subst e
        have c := h2.2 x hx
        rw [less_irrefl] at c; cases c
      · exact ha'
/-- Pairs, turned by some places. -/
def rotL (l : List Pr) (t k : Nat) : List Pr := (List.range k).map (fun i => l.getD ((i + t) % l.length) default)
theorem rotL_succ (l : List Pr) (t k : Nat) : rotL l t (k + 1) = rotL l t k ++ [l.getD ((k + t) % l.length) default] := by simp [rotL, List.range_succ]
theorem mod_inj {i j t n : Nat} (hi : i < n) (hj : j < n) (h : (i + t) % n = (j + t) % n) : i = j := by
  have h1 : (i + t) % n = (i + t % n) % n := by simp [Nat.add_mod]
  have h2 : (j + t) % n = (j + t % n) % n := by simp [Nat.add_mod]
  have h3 : t % n < n := Nat.mod_lt _ (by omega)
  rw [h1, h2] at h
  generalize t % n = u at *
  rcases Nat.lt_or_ge (i + u) n with a | a <;> rcases Nat.lt_or_ge (j + u) n with b | b
  · rw [Nat.mod_eq_of_lt a, Nat.mod_eq_of_lt b] at h; omega
  · rw [Nat.mod_eq_of_lt a, Nat.mod_eq_sub_mod b, Nat.mod_eq_of_lt (by omega)] at h; omega
  · rw [Nat.mod_eq_of_lt b, Nat.mod_eq_sub_mod a, Nat.mod_eq_of_lt (by omega)] at h; omega
  · rw [Nat.mod_eq_sub_mod a, Nat.mod_eq_sub_mod b, Nat.mod_eq_of_lt (a := i + u - n) (by omega), Nat.mod_eq_of_lt (a := j + u - n) (by omega)] at h; omega
theorem key_inj {l : List Pr} (h : (keysL l).Nodup) {i j : Nat} (hi : i < l.length) (hj : j < l.length) (e : (l.getD i default).k = (l.getD j default).k) : i = j := by
  have hp := List.pairwise_iff_getElem.mp h
  have hli : i < (keysL l).length := by simpa [keysL] using hi
  have hlj : j < (keysL l).length := by simpa [keysL] using hj
  have gi : (keysL l)[i] = (l.getD i default).k := by simp [keysL, List.getD_eq_getElem?_getD, hi]
  have gj : (keysL l)[j] = (l.getD j default).k := by simp [keysL, List.getD_eq_getElem?_getD, hj]
  rcases Nat.lt_trichotomy i j with h1 | h1 | h1
  · exact absurd (by rw [gi, gj]; exact e) (hp i j hli hlj h1)
  · exact h1
  · exact absurd (by rw [gi, gj]; exact e.symm) (hp j i hlj hli h1)
theorem rot_mem (l : List Pr) (t k : Nat) (x : Pr) : x ∈ rotL l t k ↔ ∃ i, i < k ∧ x = l.getD ((i + t) % l.length) default := by
  unfold rotL
  rw [List.mem_map]
  constructor
  · rintro ⟨i, hi, rfl⟩
    exact ⟨i, List.mem_range.mp hi, rfl⟩
  · rintro ⟨i, hi, rfl⟩
    exact ⟨i, List.mem_range.mpr hi, rfl⟩
theorem rot_nodup {l : List Pr} (h : (keysL l).Nodup) (t : Nat) : ∀ k, k ≤ l.length → (keysL (rotL l t k)).Nodup
  | 0, _ => List.nodup_nil
  | k + 1, hk => by
    have ih := rot_nodup h t k (by omega)
    rw [rotL_succ]
    show (List.map (·.k) (rotL l t k ++ [l.getD ((k + t) % l.length) default])).Nodup
    rw [List.map_append, List.nodup_append]
    refine ⟨ih, by simp, fun s hs s' hs' e => ?_⟩
    simp only [List.map_cons, List.map_nil, List.mem_singleton] at hs'
    obtain ⟨x, hx, rfl⟩ := List.mem_map.mp hs
    obtain ⟨i, hi, rfl⟩ := (rot_mem l t k x).1 hx
    rw [hs'] at e
    have := key_inj h (Nat.mod_lt _ (by omega)) (Nat.mod_lt _ (by omega)) e
    have := mod_inj (by omega) (by omega) this
    omega
theorem rot_all (l : List Pr) (t : Nat) (x : Pr) : x ∈ rotL l t l.length ↔ x ∈ l := by
  rw [rot_mem]
  constructor
  · rintro ⟨i, hi, rfl⟩
    have := Nat.mod_lt (i + t) (show 0 < l.length by omega)
    rw [List.getD_eq_getElem?_getD, List.getElem?_eq_getElem this]
    exact List.getElem_mem this
  · intro hx
    obtain ⟨j, hj, rfl⟩ := List.mem_iff_getElem.mp hx
    have hn : 0 < l.length := by omega
    refine ⟨(j + (l.length - t % l.length)) % l.length, Nat.mod_lt _ hn, ?_⟩
    have hu : t % l.length < l.length := Nat.mod_lt _ hn
    have e : ((j + (l.length - t % l.length)) % l.length + t) % l.length = j := by
      rw [Nat.mod_add_mod]
      have : j + (l.length - t % l.length) + t = j + l.length * (t / l.length + 1) := by
        have := Nat.div_add_mod t l.length
        rw [Nat.mul_add, Nat.mul_one]
        omega
      rw [this, Nat.add_mul_mod_self_left, Nat.mod_eq_of_lt hj]
    rw [e, List.getD_eq_getElem?_getD, List.getElem?_eq_getElem hj]; rfl
/-- It makes no difference in which order they come. -/
theorem puts_rot {l : List Pr} (h : (keysL l).Nodup) (t : Nat) : putsL [] (rotL l t l.length) = putsL [] l := by
  have a := putsL_new (rotL l t l.length) [] (rot_nodup h t _ (Nat.le_refl _)) (fun s _ hc => by cases hc)
  have b := putsL_new l [] h (fun s _ hc => by cases hc)
  refine up_ext _ _ (putsL_up _ _ rfl) (putsL_up _ _ rfl) (fun x => ?_)
  rw [a.1 x, b.1 x, rot_all]
theorem rot_size {l : List Pr} (h : (keysL l).Nodup) (t : Nat) (k : Nat) (hk : k ≤ l.length) : sizeP (rotL l t k) ≤ sizeP l := by
  have a := putsL_new (rotL l t l.length) [] (rot_nodup h t _ (Nat.le_refl _)) (fun s _ hc => by cases hc)
  have b := putsL_new l [] h (fun s _ hc => by cases hc)
  have c : sizeP (rotL l t l.length) = sizeP l := by
    have h1 := a.2.1
    have h2 := b.2.1
    rw [puts_rot h t] at h1
    simp only [sizeP, Nat.zero_add] at h1 h2
    omega
  have d : ∀ m, k ≤ m → sizeP (rotL l t k) ≤ sizeP (rotL l t m) := fun m hm => by
    induction m with
    | zero =>
      have : k = 0 := by omega
      subst this
      exact Nat.le_refl _
    | succ m ih =>
      rcases Nat.lt_or_ge k (m + 1) with h1 | h1
      · have := ih (by omega)
        rw [rotL_succ, sizeP_append]
        omega
      · have : k = m + 1 := by omega
        rw [this]; exact Nat.le_refl _
  rw [← c]
  exact d _ hk
theorem putsL_snoc (a l : List Pr) (p : Pr) : putsL a (l ++ [p]) = putL (putsL a l) p := by simp [putsL]

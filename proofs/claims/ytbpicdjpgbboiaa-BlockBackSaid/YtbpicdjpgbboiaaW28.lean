import Derived.Test.YtbpicdjpgbboiaaW27
namespace Go.Proofs.Ytbpicdjpgbboiaa
open Go.RowKit Go.Nb
/-- What one turn of the reading takes: a number, a text, a text. -/
def stN (r : Bs) : Nat × Bs × Int := numS 1024 r 0
def stK (r : Bs) : Bs × Bs × Int := textS 1024 (stN r).2.1 (stN r).2.2
def stV (r : Bs) : Bs × Bs × Int := textS 8192 (stK r).2.1 (stK r).2.2
/-- The pair that one turn reads. -/
def stP (last r : Bs) : Pr := ⟨last.take (stN r).1 ++ (stK r).1, (stV r).1⟩
theorem st_ok {r : Bs} (h : (stV r).2.2 = 0) : (stN r).1 ≤ 1024 ∧ (stK r).1.length ≤ 1024 ∧ (stV r).1.length ≤ 8192 ∧ r = upL (stN r).1 ++ (textL (stK r).1 ++ (textL (stV r).1 ++ (stV r).2.1)) := by
  have h2 : (stK r).2.2 = 0 := by
    rcases Decidable.em ((stK r).2.2 = 0) with h1 | h1
    · exact h1
    · unfold stV textS at h; rw [if_neg h1] at h; exact h
  have h3 : (stN r).2.2 = 0 := by
    rcases Decidable.em ((stN r).2.2 = 0) with h1 | h1
    · exact h1
    · unfold stK textS at h2; rw [if_neg h1] at h2; exact h2
  have a := rdNum_ok (most := 1024) (s := r) (x := (stN r).1) (r := (stN r).2.1) (by
    have : stN r = rdNum 1024 r := by unfold stN numS; rw [if_pos rfl]
    rw [← this, ← h3])
  have b := rdText_ok (most := 1024) (s := (stN r).2.1) (t := (stK r).1) (r := (stK r).2.1) (by
    have : stK r = rdText 1024 (stN r).2.1 := by unfold stK textS; rw [if_pos h3]
    rw [← this, ← h2])
  have c := rdText_ok (most := 8192) (s := (stK r).2.1) (t := (stV r).1) (r := (stV r).2.1) (by
    have : stV r = rdText 8192 (stK r).2.1 := by unfold stV textS; rw [if_pos h2]
    rw [← this, ← h])
  refine ⟨a.1, b.1, c.1, ?_⟩
  rw [← c.2.2, ← b.2.2]
  exact a.2.2
theorem st_up {n : Nat} {k v : Bs} (hn : n ≤ 1024) (hk : k.length ≤ 1024) (hv : v.length ≤ 8192) (r : Bs) : stN (upL n ++ (textL k ++ (textL v ++ r))) = (n, textL k ++ (textL v ++ r), 0) ∧ stK (upL n ++ (textL k ++ (textL v ++ r))) = (k, textL v ++ r, 0) ∧ stV (upL n ++ (textL k ++ (textL v ++ r))) = (v, r, 0) := by
  have a : stN (upL n ++ (textL k ++ (textL v ++ r))) = (n, textL k ++ (textL v ++ r), 0) := by
    unfold stN numS; rw [if_pos rfl]; exact rdNum_up hn (by omega) _
  have b : stK (upL n ++ (textL k ++ (textL v ++ r))) = (k, textL v ++ r, 0) := by
    unfold stK textS; rw [a, if_pos rfl]; exact rdText_up hk (by omega) _
  have c : stV (upL n ++ (textL k ++ (textL v ++ r))) = (v, r, 0) := by
    unfold stV textS; rw [b, if_pos rfl]; exact rdText_up hv (by omega) _
  exact ⟨a, b, c⟩
theorem badP_not {p : Pr} (h : badP p = false) : 1 ≤ p.k.length ∧ p.k.length ≤ 1024 ∧ p.v.length ≤ 8192 := by
  unfold badP at h
  simp only [Bool.or_eq_false_iff, decide_eq_false_iff_not] at h
  omega
theorem sh_take (last k : Bs) : last.take (shL last k) ++ k.drop (shL last k) = k := by
  rw [shL_take, List.take_append_drop]
/-- What a right pair's bytes are read as. -/
theorem st_one {last : Bs} {p : Pr} (hb : badP p = false) (r : Bs) : (stN (oneL last p ++ r)).1 = shL last p.k ∧ stV (oneL last p ++ r) = (p.v, r, 0) ∧ stP last (oneL last p ++ r) = p := by
  have hp := badP_not hb
  have hs := shL_le last p.k
  have e : oneL last p ++ r = upL (shL last p.k) ++ (textL (p.k.drop (shL last p.k)) ++ (textL p.v ++ r)) := by simp [oneL]
  obtain ⟨a, b, c⟩ := st_up (n := shL last p.k) (k := p.k.drop (shL last p.k)) (v := p.v) (by omega) (by rw [List.length_drop]; omega) hp.2.2 r
  rw [e]
  refine ⟨by rw [a], c, ?_⟩
  unfold stP
  rw [a, b, c, sh_take]
theorem oneL_ne (last : Bs) (p : Pr) : oneL last p ≠ [] := by simp [oneL, upL]
theorem bad_of_may {l : List Pr} (h : mayB l = true) : ∀ p, p ∈ l → badP p = false := by
  unfold mayB at h
  simp only [Bool.and_eq_true, Bool.not_eq_true'] at h
  intro p hp
  have := h.2.2.1
  rw [List.any_eq_false] at this
  simpa using this p hp
theorem may_len {l : List Pr} (h : mayB l = true) : 1 ≤ l.length ∧ l.length ≤ 4096 := by
  unfold mayB at h
  simp only [Bool.and_eq_true, decide_eq_true_eq] at h
  exact ⟨h.1, h.2.1⟩
/-- What the bytes of pairs may still be, behind some of them. -/
def Tail (s : Bs) (l0 : List Pr) (last r : Bs) : Prop := ∀ l, mayB l = true → encL [] l = s → ∃ l1, l = l0 ++ l1 ∧ encL last l1 = r
theorem tail_nil (s : Bs) : Tail s [] [] s := fun l _ h => ⟨l, rfl, h⟩
theorem tail_core {s : Bs} {l0 : List Pr} {last r : Bs} (h : Tail s l0 last r) (hr : r ≠ []) {l : List Pr} (hl : mayB l = true) (he : encL [] l = s) : ∃ p l2, l = l0 ++ (p :: l2) ∧ badP p = false ∧ (stN r).1 = shL last p.k ∧ stV r = (p.v, encL p.k l2, 0) ∧ stP last r = p := by
  obtain ⟨l1, h1, h2⟩ := h l hl he
  cases l1 with
  | nil => exact absurd h2.symm hr
  | cons p l2 =>
    have hb := bad_of_may hl p (by rw [h1]; simp)
    obtain ⟨a, b, c⟩ := st_one (last := last) hb (encL p.k l2)
    rw [show oneL last p ++ encL p.k l2 = r from h2] at a b c
    exact ⟨p, l2, h1, hb, a, b, c⟩
theorem tail_fail {s : Bs} {l0 : List Pr} {last r : Bs} (h : Tail s l0 last r) (hr : r ≠ []) (hf : (stV r).2.2 ≠ 0 ∨ last.length < (stN r).1 ∨ 4096 ≤ l0.length ∨ (stN r).1 ≠ shL last (stP last r).k) : ∀ l, mayB l = true → encL [] l ≠ s := by
  intro l hl he
  obtain ⟨p, l2, h1, hb, a, b, c⟩ := tail_core h hr hl he
  rcases hf with hf | hf | hf | hf
  · rw [b] at hf; exact hf rfl
  · have := shL_le last p.k; omega
  · have := (may_len hl).2
    rw [h1] at this
    simp at this
    omega
  · rw [c] at hf; exact hf a
theorem tail_step {s : Bs} {l0 : List Pr} {last r : Bs} (h : Tail s l0 last r) (hr : r ≠ []) : Tail s (l0 ++ [stP last r]) (stP last r).k (stV r).2.1 := by
  intro l hl he
  obtain ⟨p, l2, h1, hb, a, b, c⟩ := tail_core h hr hl he
  refine ⟨l2, by rw [h1, c]; simp, by rw [b, c]⟩
theorem tail_end {s : Bs} {l0 : List Pr} {last : Bs} (h : Tail s l0 last []) {l : List Pr} (hl : mayB l = true) (he : encL [] l = s) : l = l0 := by
  obtain ⟨l1, h1, h2⟩ := h l hl he
  cases l1 with
  | nil => simpa using h1
  | cons p l2 =>
    rw [encL] at h2
    exact absurd (List.append_eq_nil_iff.mp h2).1 (oneL_ne last p)
theorem tail_long {s : Bs} {l0 : List Pr} {last r : Bs} (h : Tail s l0 last r) (hn : mayB l0 = false) (h0 : r = [] ∨ 4096 < l0.length) : ∀ l, mayB l = true → encL [] l ≠ s := by
  intro l hl he
  rcases h0 with rfl | h0
  · have := tail_end h hl he
    rw [this, hn] at hl; cases hl
  · obtain ⟨l1, h1, h2⟩ := h l hl he
    have := (may_len hl).2
    rw [h1] at this
    simp at this
    omega
/-- What is taken, where the shared number is right, are the pair's bytes. -/
theorem st_take {last r : Bs} (h : (stV r).2.2 = 0) (hn : (stN r).1 ≤ last.length) (hs : (stN r).1 = shL last (stP last r).k) : r = oneL last (stP last r) ++ (stV r).2.1 := by
  obtain ⟨_, _, _, e⟩ := st_ok h
  have hk : (stP last r).k.drop (shL last (stP last r).k) = (stK r).1 := by
    rw [← hs]
    show (last.take (stN r).1 ++ (stK r).1).drop (stN r).1 = _
    rw [List.drop_append_of_le_length (by rw [List.length_take]; omega), List.drop_of_length_le (by rw [List.length_take]; omega), List.nil_append]
  conv => lhs; rw [e]
  unfold oneL
  rw [hk, ← hs]
  show _ = upL (stN r).1 ++ (textL (stK r).1 ++ textL (stV r).1) ++ (stV r).2.1
  simp
theorem stP_len {last r : Bs} (h : (stV r).2.2 = 0) : (stP last r).k.length ≤ 2048 ∧ (stP last r).v.length ≤ 8192 := by
  obtain ⟨a, b, c, _⟩ := st_ok h
  refine ⟨?_, c⟩
  show (last.take (stN r).1 ++ (stK r).1).length ≤ _
  rw [List.length_append, List.length_take]
  omega
theorem shL_ge : ∀ (a b : Bs) (n : Nat), n ≤ a.length → n ≤ shL a (a.take n ++ b)
  | _, _, 0, _ => Nat.zero_le _
  | [], _, n + 1, h => by simp at h
  | x :: a, b, n + 1, h => by
    have := shL_ge a b n (by simpa using h)
    simp only [List.take_succ_cons, List.cons_append, shL, if_true]
    omega
/-- A pair that is read takes not much more than what was read. -/
theorem st_size {last r : Bs} (h : (stV r).2.2 = 0) (hn : (stN r).1 ≤ last.length) : (oneL last (stP last r)).length + (stV r).2.1.length ≤ r.length + 27 := by
  obtain ⟨_, _, _, e⟩ := st_ok h
  have e2 := congrArg List.length e
  have u := (upL_len2 (shL last (stP last r).k)).2
  have t1 := textL_len ((stP last r).k.drop (shL last (stP last r).k))
  have t2 := textL_len (stP last r).v
  have hsh : (stN r).1 ≤ shL last (stP last r).k := by
    exact shL_ge last (stK r).1 _ hn
  have hd : ((stP last r).k.drop (shL last (stP last r).k)).length ≤ (stK r).1.length := by
    rw [List.length_drop]
    show (last.take (stN r).1 ++ (stK r).1).length - _ ≤ _
    rw [List.length_append, List.length_take]
    omega
  have hv : (stP last r).v = (stV r).1 := rfl
  simp only [oneL, textL, List.length_append] at *
  rw [hv] at *
  omega
theorem st_less {r : Bs} (h : (stV r).2.2 = 0) : (stV r).2.1.length < r.length := by
  obtain ⟨_, _, _, e⟩ := st_ok h
  have e2 := congrArg List.length e
  have u := (upL_len2 (stN r).1).1
  simp only [List.length_append] at e2
  omega

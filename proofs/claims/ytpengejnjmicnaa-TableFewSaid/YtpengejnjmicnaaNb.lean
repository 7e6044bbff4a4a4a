/-! Numbers as bytes: plain theory, no program in sight. -/
namespace Go.Nb
abbrev Bs := List UInt8
/-- A number's bytes, the highest first; as many rounds as there may be bytes. -/
def digsF : Nat → Nat → Bs
  | 0, _ => []
  | f + 1, x => if x = 0 then [] else digsF f (x / 256) ++ [UInt8.ofNat (x % 256)]
def digs (x : Nat) : Bs := digsF 8 x
def upL (x : Nat) : Bs := UInt8.ofNat (digs x).length :: digs x
def valL (l : Bs) : Nat := l.foldl (fun x c => 256 * x + c.toNat) 0
theorem digsF_zero (f : Nat) : digsF f 0 = [] := by cases f <;> simp [digsF]
theorem digsF_len : ∀ (f x : Nat), (digsF f x).length ≤ f
  | 0, _ => Nat.le_refl _
  | f + 1, x => by
    simp only [digsF]
    split
    · simp
    · simp; exact digsF_len f _
theorem digs_len (x : Nat) : (digs x).length ≤ 8 := digsF_len 8 x
theorem upL_len (x : Nat) : (upL x).length = (digs x).length + 1 := rfl
theorem upL_len2 (x : Nat) : 1 ≤ (upL x).length ∧ (upL x).length ≤ 9 := by have := digs_len x; rw [upL_len]; omega
theorem valL_snoc (l : Bs) (c : UInt8) : valL (l ++ [c]) = 256 * valL l + c.toNat := by simp [valL]
theorem valL_nil : valL [] = 0 := rfl
theorem valL_digsF : ∀ (f x : Nat), x < 256 ^ f → valL (digsF f x) = x
  | 0, x, h => by simp at h; subst h; rfl
  | f + 1, x, h => by
    simp only [digsF]
    split
    · next h0 => subst h0; rfl
    · have h1 : x / 256 < 256 ^ f := by rw [Nat.pow_succ] at h; omega
      rw [valL_snoc, valL_digsF f _ h1]
      simp; omega
theorem pow8 : (256 : Nat) ^ 8 = 18446744073709551616 := by decide
theorem valL_digs (x : Nat) (h : x < 18446744073709551616) : valL (digs x) = x := valL_digsF 8 x (by rw [pow8]; exact h)
theorem snoc_ind {P : Bs → Prop} (h0 : P []) (h1 : ∀ l c, P l → P (l ++ [c])) (l : Bs) : P l := by
  have key : ∀ m : Bs, P m.reverse := by
    intro m
    induction m with
    | nil => exact h0
    | cons c m ih => rw [List.reverse_cons]; exact h1 _ _ ih
  have := key l.reverse
  rwa [List.reverse_reverse] at this
theorem valL_lt (l : Bs) : valL l < 256 ^ l.length := by
  refine snoc_ind (P := fun l => valL l < 256 ^ l.length) (by decide) (fun l c ih => ?_) l
  rw [valL_snoc, List.length_append, List.length_singleton, Nat.pow_succ]
  have := c.toNat_lt
  omega
/-- What begins with no 0 is a number's digits. -/
theorem digsF_val (l : Bs) : ∀ f, l.length ≤ f → (∀ c r, l = c :: r → c ≠ 0) → digsF f (valL l) = l := by
  refine snoc_ind (P := fun l => ∀ f, l.length ≤ f → (∀ c r, l = c :: r → c ≠ 0) → digsF f (valL l) = l) (fun f _ _ => digsF_zero f) (fun l c ih => ?_) l
  intro f hf hh
  simp only [List.length_append, List.length_singleton] at hf
  obtain ⟨f, rfl⟩ : ∃ g, f = g + 1 := ⟨f - 1, by omega⟩
  have hc := c.toNat_lt
  have e1 : (256 * valL l + c.toNat) / 256 = valL l := by omega
  have e2 : (256 * valL l + c.toNat) % 256 = c.toNat := by omega
  have hne : valL (l ++ [c]) ≠ 0 := by
    rw [valL_snoc]
    cases l with
    | nil =>
      have := hh c [] rfl
      intro h0
      have : c.toNat = 0 := by omega
      exact absurd (UInt8.toNat_inj.mp (by simpa using this)) (hh c [] rfl)
    | cons a r =>
      have ha := hh a (r ++ [c]) rfl
      have ih2 := ih f (by simp at hf ⊢; omega) (fun x y h => by cases h; exact ha)
      intro h0
      have h1 : valL (a :: r) = 0 := by omega
      rw [h1, digsF_zero] at ih2
      cases ih2
  rw [digsF, if_neg hne, valL_snoc, e1, e2, ih f (by omega) (fun x y h => hh x (y ++ [c]) (by rw [h]; rfl))]
  simp
theorem digs_val (l : Bs) (h : l.length ≤ 8) (hh : ∀ c r, l = c :: r → c ≠ 0) : digs (valL l) = l := digsF_val l 8 h hh
theorem digsF_head : ∀ (f x : Nat) (c : UInt8) (r : Bs), digsF f x = c :: r → x < 256 ^ f → c ≠ 0
  | 0, _, _, _, h, _ => by cases h
  | f + 1, x, c, r, h, hx => by
    simp only [digsF] at h
    split at h
    · cases h
    · next h0 =>
      have h1 : x / 256 < 256 ^ f := by rw [Nat.pow_succ] at hx; omega
      cases hd : digsF f (x / 256) with
      | nil =>
        rw [hd] at h
        simp at h
        have hv := valL_digsF f _ h1
        rw [hd, valL_nil] at hv
        intro hc
        rw [hc] at h
        have := congrArg UInt8.toNat h.1
        simp at this
        omega
      | cons a m =>
        rw [hd] at h
        simp at h
        obtain ⟨rfl, _⟩ := h
        exact digsF_head f _ a m hd h1
theorem digs_head {x : Nat} {c : UInt8} {r : Bs} (h : digs x = c :: r) (hx : x < 18446744073709551616) : c ≠ 0 := digsF_head 8 x c r h (by rw [pow8]; exact hx)
/-- What is read at the front: the number, how many bytes it took, what is wrong. -/
def readL : Bs → Nat × Nat × Int
  | [] => (0, 0, 10)
  | c :: r => if 8 < c.toNat then (0, 0, 8) else if r.length < c.toNat then (0, 0, 10) else if 0 < c.toNat ∧ r.headD 0 = 0 then (0, 0, 8) else (valL (r.take c.toNat), c.toNat + 1, 0)
theorem readL_cons (c : UInt8) (r : Bs) : readL (c :: r) = if 8 < c.toNat then (0, 0, 8) else if r.length < c.toNat then (0, 0, 10) else if 0 < c.toNat ∧ r.headD 0 = 0 then (0, 0, 8) else (valL (r.take c.toNat), c.toNat + 1, 0) := rfl
theorem readL_up (x : Nat) (hx : x < 18446744073709551616) (r : Bs) : readL (upL x ++ r) = (x, (upL x).length, 0) := by
  have hl := digs_len x
  have e1 : (UInt8.ofNat (digs x).length).toNat = (digs x).length := by simp; omega
  show readL (UInt8.ofNat (digs x).length :: (digs x ++ r)) = _
  unfold readL
  simp only
  rw [e1, if_neg (by omega), if_neg (by simp), if_neg]
  · rw [List.take_left' rfl, valL_digs x hx, upL_len]
  · rintro ⟨h1, h2⟩
    cases hd : digs x with
    | nil => rw [hd] at h1; simp at h1
    | cons a m =>
      rw [hd] at h2
      simp at h2
      exact digs_head hd hx h2
theorem readL_ok {s : Bs} {x n : Nat} (h : readL s = (x, n, 0)) : x < 18446744073709551616 ∧ n = (upL x).length ∧ s = upL x ++ s.drop n := by
  cases s with
  | nil => cases h
  | cons c r =>
    rw [readL_cons] at h
    by_cases h1 : 8 < c.toNat
    · rw [if_pos h1] at h; cases h
    · rw [if_neg h1] at h
      by_cases h2 : r.length < c.toNat
      · rw [if_pos h2] at h; cases h
      · rw [if_neg h2] at h
        by_cases h3 : 0 < c.toNat ∧ r.headD 0 = 0
        · rw [if_pos h3] at h; cases h
        · rw [if_neg h3] at h
          simp only [Prod.mk.injEq, and_true] at h
          obtain ⟨rfl, rfl⟩ := h
          have hl : (r.take c.toNat).length = c.toNat := by rw [List.length_take]; omega
          have hv := valL_lt (r.take c.toNat)
          rw [hl] at hv
          have hp : 256 ^ c.toNat ≤ (256 : Nat) ^ 8 := Nat.pow_le_pow_right (by omega) (by omega)
          have hd : digs (valL (r.take c.toNat)) = r.take c.toNat := by
            refine digs_val _ (by omega) fun a m ha => ?_
            intro h0
            apply h3
            cases r with
            | nil => simp at ha
            | cons b q =>
              have hc : 0 < c.toNat := by
                rcases Nat.eq_zero_or_pos c.toNat with h | h
                · rw [h] at ha; cases ha
                · exact h
              refine ⟨hc, ?_⟩
              obtain ⟨k, hk⟩ : ∃ k, c.toNat = k + 1 := ⟨c.toNat - 1, by omega⟩
              rw [hk, List.take_succ_cons] at ha
              cases ha
              exact h0
          have hu : upL (valL (r.take c.toNat)) = c :: r.take c.toNat := by
            unfold upL
            rw [hd, hl]
            simp
          refine ⟨by rw [← pow8]; omega, by rw [hu]; simp; omega, ?_⟩
          rw [hu, List.drop_succ_cons, List.cons_append, List.take_append_drop]
theorem readL_err {s : Bs} {x n : Nat} {e : Int} (h : readL s = (x, n, e)) (he : e ≠ 0) : x = 0 ∧ n = 0 ∧ (e = 8 ∨ e = 10) := by
  cases s with
  | nil => cases h; exact ⟨rfl, rfl, .inr rfl⟩
  | cons c r =>
    rw [readL_cons] at h
    split at h
    · cases h; exact ⟨rfl, rfl, .inl rfl⟩
    · split at h
      · cases h; exact ⟨rfl, rfl, .inr rfl⟩
      · split at h
        · cases h; exact ⟨rfl, rfl, .inl rfl⟩
        · cases h; exact absurd rfl he
/-- A number that is read, up to a bound: the number, what is left, what is wrong. -/
def rdNum (most : Nat) (s : Bs) : Nat × Bs × Int :=
  if (readL s).2.2 ≠ 0 then (0, s, (readL s).2.2) else if most < (readL s).1 then (0, s, 9) else ((readL s).1, s.drop (readL s).2.1, 0)
/-- A text that is read. -/
def rdText (most : Nat) (s : Bs) : Bs × Bs × Int :=
  if (readL s).2.2 ≠ 0 then ([], s, (readL s).2.2) else if most < (readL s).1 then ([], s, 4) else if s.length - (readL s).2.1 < (readL s).1 then ([], s, 10)
  else ((s.drop (readL s).2.1).take (readL s).1, s.drop ((readL s).2.1 + (readL s).1), 0)
def textL (t : Bs) : Bs := upL t.length ++ t
theorem rdNum_ok {most : Nat} {s : Bs} {x : Nat} {r : Bs} (h : rdNum most s = (x, r, 0)) : x ≤ most ∧ x < 18446744073709551616 ∧ s = upL x ++ r := by
  unfold rdNum at h
  split at h
  · next h0 => simp only [Prod.mk.injEq] at h; exact absurd h.2.2 h0
  · next h0 =>
    split at h
    · cases h
    · next h1 =>
      simp only [Prod.mk.injEq, and_true] at h
      obtain ⟨rfl, rfl⟩ := h
      have h2 : (readL s).2.2 = 0 := by simpa using h0
      obtain ⟨a, b, c⟩ := readL_ok (s := s) (x := (readL s).1) (n := (readL s).2.1) (by rw [← h2])
      exact ⟨by omega, a, c⟩
theorem rdNum_up {most x : Nat} (h : x ≤ most) (hx : x < 18446744073709551616) (r : Bs) : rdNum most (upL x ++ r) = (x, r, 0) := by
  unfold rdNum
  rw [readL_up x hx]
  rw [if_neg (by simp), if_neg (by simp; omega)]
  simp
theorem rdText_ok {most : Nat} {s t r : Bs} (h : rdText most s = (t, r, 0)) : t.length ≤ most ∧ t.length < 18446744073709551616 ∧ s = textL t ++ r := by
  unfold rdText at h
  split at h
  · next h0 => simp only [Prod.mk.injEq] at h; exact absurd h.2.2 h0
  · next h0 =>
    split at h
    · cases h
    · next h1 =>
      split at h
      · cases h
      · next h3 =>
        simp only [Prod.mk.injEq, and_true] at h
        obtain ⟨rfl, rfl⟩ := h
        have h2 : (readL s).2.2 = 0 := by simpa using h0
        obtain ⟨a, b, c⟩ := readL_ok (s := s) (x := (readL s).1) (n := (readL s).2.1) (by rw [← h2])
        have hlen : ((s.drop (readL s).2.1).take (readL s).1).length = (readL s).1 := by rw [List.length_take, List.length_drop]; omega
        refine ⟨by omega, by omega, ?_⟩
        unfold textL
        rw [hlen, List.append_assoc, ← List.drop_drop, List.take_append_drop]
        exact c
theorem rdText_up {most : Nat} {t : Bs} (h : t.length ≤ most) (hx : t.length < 18446744073709551616) (r : Bs) : rdText most (textL t ++ r) = (t, r, 0) := by
  unfold rdText textL
  rw [List.append_assoc, readL_up t.length hx]
  simp only
  rw [if_neg (by simp), if_neg (by omega), if_neg (by simp)]
  rw [← List.drop_drop]
  simp
end Go.Nb

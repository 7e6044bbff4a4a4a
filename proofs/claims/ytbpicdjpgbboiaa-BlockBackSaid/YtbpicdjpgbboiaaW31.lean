import Derived.Test.YtbpicdjpgbboiaaW30
namespace Go.Proofs.Ytbpicdjpgbboiaa
open Go.RowKit Go.Nb
/-- Where the bytes of some pairs begin those of others, these begin with those pairs. -/
theorem enc_pre : ∀ (z l : List Pr) (last t : Bs), (∀ p, p ∈ z → badP p = false) → (∀ p, p ∈ l → badP p = false) → encL last z ++ t = encL last l → ∃ l2, l = z ++ l2 ∧ encL (lastK last z) l2 = t
  | [], l, last, t, _, _, h => ⟨l, rfl, h.symm⟩
  | p :: z, [], last, t, _, _, h => by
    rw [encL, encL, List.append_assoc] at h
    exact absurd (List.append_eq_nil_iff.mp h).1 (oneL_ne last p)
  | p :: z, q :: l, last, t, hz, hl, h => by
    rw [encL, encL, List.append_assoc] at h
    have a := st_one (last := last) (hz p (by simp)) (encL p.k z ++ t)
    have b := st_one (last := last) (hl q (by simp)) (encL q.k l)
    rw [h] at a
    have e : p = q := a.2.2.symm.trans b.2.2
    subst e
    have h2 : encL p.k z ++ t = encL p.k l := List.append_cancel_left h
    obtain ⟨l2, e2, e3⟩ := enc_pre z l p.k t (fun x hx => hz x (by simp [hx])) (fun x hx => hl x (by simp [hx])) h2
    exact ⟨l2, by rw [e2]; rfl, e3⟩
theorem encL_nil {last : Bs} {l : List Pr} (h : encL last l = []) : l = [] := by
  cases l with
  | nil => rfl
  | cons p r => exact absurd (List.append_eq_nil_iff.mp h).1 (oneL_ne last p)
theorem enc_inj {l m : List Pr} (hl : mayB l = true) (hm : mayB m = true) (h : encL [] l = encL [] m) : l = m := by
  obtain ⟨l2, e1, e2⟩ := enc_pre l m [] [] (bad_of_may hl) (bad_of_may hm) (by rw [List.append_nil]; exact h)
  rw [encL_nil e2, List.append_nil] at e1
  exact e1.symm
theorem encL_append : ∀ (a b : List Pr) (last : Bs), encL last (a ++ b) = encL last a ++ encL (lastK last a) b
  | [], _, _ => rfl
  | p :: a, b, last => by rw [List.cons_append, encL, encL, encL_append a b p.k, lastK, List.append_assoc]
theorem lastK_at : ∀ (l : List Pr) (b : Bs), l ≠ [] → lastK b l = (l.getD (l.length - 1) default).k
  | [], _, h => absurd rfl h
  | [p], _, _ => rfl
  | p :: q :: l, _, _ => by
    rw [lastK, lastK_at (q :: l) p.k (by simp)]
    simp
theorem upB_take : ∀ (l : List Pr) (n : Nat), upB l = true → upB (l.take n) = true
  | [], n, _ => by simp [upB]
  | [p], 0, _ => rfl
  | [p], n + 1, _ => by simp [upB]
  | p :: q :: l, 0, _ => rfl
  | p :: q :: l, 1, _ => rfl
  | p :: q :: l, n + 2, h => by
    simp only [upB, Bool.and_eq_true] at h
    have := upB_take (q :: l) (n + 1) h.2
    simp only [List.take_succ_cons, upB, Bool.and_eq_true] at this ⊢
    exact ⟨h.1, this⟩
theorem mayB_take {l : List Pr} {n : Nat} (h : mayB l = true) (h1 : 1 ≤ n) : mayB (l.take n) = true := by
  have hb := bad_of_may h
  have hl := may_len h
  unfold mayB at h ⊢
  simp only [Bool.and_eq_true, decide_eq_true_eq, Bool.not_eq_true'] at h ⊢
  refine ⟨by rw [List.length_take]; omega, by rw [List.length_take]; omega, ?_, upB_take l n h.2.2.2⟩
  rw [List.any_eq_false]
  intro p hp
  simpa using hb p (List.mem_of_mem_take hp)
theorem may_up {l : List Pr} (h : mayB l = true) : upB l = true := by
  unfold mayB at h
  simp only [Bool.and_eq_true] at h
  exact h.2.2.2
/-- How many bytes the first pairs have. -/
def sumP (l : List Pr) : Nat → Nat
  | 0 => 0
  | k + 1 => sumP l k + (l.getD k default).k.length + (l.getD k default).v.length
theorem getD_bad {l : List Pr} (h : ∀ p, p ∈ l → badP p = false) (i : Nat) : (l.getD i default).k.length ≤ 1024 ∧ (l.getD i default).v.length ≤ 8192 := by
  rcases Nat.lt_or_ge i l.length with hi | hi
  · have hb := badP_not (h (l.getD i default) (by rw [List.getD_eq_getElem?_getD, List.getElem?_eq_getElem hi]; exact List.getElem_mem hi))
    omega
  · rw [List.getD_eq_getElem?_getD, List.getElem?_eq_none hi]
    exact ⟨Nat.zero_le _, Nat.zero_le _⟩
theorem wrap_small {x : Int} (h0 : 0 ≤ x) (h1 : x < 9223372036854775808) : wrap64 x = x := IntWalk.wrap64_in x (by omega)
theorem sumW_is {l : List Pr} (h : ∀ p, p ∈ l → badP p = false) : ∀ k, k ≤ 100000 → sumW l k = (sumP l k : Int) ∧ sumP l k ≤ 9216 * k
  | 0, _ => ⟨rfl, Nat.zero_le _⟩
  | k + 1, hk => by
    obtain ⟨a, b⟩ := sumW_is h k (by omega)
    have c := getD_bad h k
    rw [sumW, a, sumP]
    rw [wrap_small (x := (sumP l k : Int) + _) (by omega) (by omega), wrap_small (by omega) (by omega)]
    omega
theorem enc_len : ∀ (l : List Pr) (last : Bs) (k : Nat), k ≤ l.length → (encL last (l.take k)).length ≤ sumP l k + 27 * k := by
  intro l last k hk
  induction k with
  | zero => simp [encL, sumP]
  | succ k ih =>
    have ih := ih (by omega)
    rw [List.take_succ_eq_append_getElem (by omega), encL_snoc, List.length_append]
    have e : l.getD k default = l[k] := by rw [List.getD_eq_getElem?_getD, List.getElem?_eq_getElem]; rfl
    have o : (oneL (lastK last (l.take k)) l[k]).length ≤ l[k].k.length + l[k].v.length + 27 := by
      unfold oneL
      have u := (upL_len2 (shL (lastK last (l.take k)) l[k].k)).2
      have t1 := textL_len (l[k].k.drop (shL (lastK last (l.take k)) l[k].k))
      have t2 := textL_len l[k].v
      rw [List.length_drop] at t1
      simp only [List.length_append]
      omega
    rw [sumP, e]
    omega
theorem light_fits {l : List Pr} (hh : heavyB l = false) (hm : mayB l = true) : Fits l ∧ (encL [] l).length ≤ 32768 := by
  unfold heavyB at hh
  simp only [Bool.or_eq_false_iff, decide_eq_false_iff_not] at hh
  have hb := bad_of_may hm
  have hl : l.length ≤ 500 := by omega
  have hmin : min l.length 2000 = l.length := by omega
  rw [hmin] at hh
  obtain ⟨a, _⟩ := sumW_is hb l.length (by omega)
  have c := enc_len l [] l.length (Nat.le_refl _)
  rw [List.take_length] at c
  have : (encL [] l).length ≤ 32768 := by omega
  exact ⟨fits_of hm (by omega), this⟩
theorem light_len {l : List Pr} (hh : heavyB l = false) : l.length ≤ 500 := by
  unfold heavyB at hh
  simp only [Bool.or_eq_false_iff, decide_eq_false_iff_not] at hh
  omega
/-- Reading what is a block. -/
theorem decode_yes {S : Bs} {l : List Pr} (hm : mayB l = true) (he : encL [] l = S) (hs : S.length ≤ 1048576) (w : World) : Calls Try.prog 11 #[.string (Bt S)] w fun e w' => ∃ A c, e = .returned (.tuple #[.slice A l.length c, .int .i64 0]) ∧ l.length ≤ c ∧ PRd w' A l.length l ∧ Ext w w' := by
  refine (decode_any (Bt S) (by rw [Bt_size]; exact hs) w).mono ?_
  rintro e w' (⟨l2, A, c, h1, h2, h3, h4, h5, h6⟩ | ⟨h1, _⟩)
  · have : l2 = l := enc_inj h1 hm (h2.trans he.symm)
    subst this
    exact ⟨A, c, h3, h4, h5, h6⟩
  · exact absurd he (h1 l hm)
theorem decode_no {S : Bs} (h : ∀ l, mayB l = true → encL [] l ≠ S) (hs : S.length ≤ 1048576) (w : World) : Calls Try.prog 11 #[.string (Bt S)] w fun e w' => e = .returned (.tuple #[.slice none 0 0, .int .i64 8]) ∧ Ext w w' := by
  refine (decode_any (Bt S) (by rw [Bt_size]; exact hs) w).mono ?_
  rintro e w' (⟨l2, A, c, h1, h2, _⟩ | ⟨_, h2, h3⟩)
  · exact absurd h2 (h l2 h1)
  · exact ⟨h2, h3⟩
theorem of_yes {S : Bs} {l : List Pr} (hm : mayB l = true) (he : encL [] l = S) (hs : S.length ≤ 65536) (w : World) : Calls Try.prog 12 #[.string (Bt S)] w fun e w' => ∃ A c, e = .returned (.tuple #[.slice A l.length c, .bool true]) ∧ PRd w' A l.length l ∧ Ext w w' := by
  refine (of_any S hs w).mono ?_
  rintro e w' (⟨l2, A, c, h1, h2, h3, h5, h6⟩ | ⟨h1, _⟩)
  · have : l2 = l := enc_inj h1 hm (h2.trans he.symm)
    subst this
    exact ⟨A, c, h3, h5, h6⟩
  · exact absurd he (h1 l hm)
theorem of_no {S : Bs} (h : ∀ l, mayB l = true → encL [] l ≠ S) (hs : S.length ≤ 65536) (w : World) : Calls Try.prog 12 #[.string (Bt S)] w fun e w' => e = .returned (.tuple #[.slice none 0 0, .bool false]) ∧ Ext w w' := by
  refine (of_any S hs w).mono ?_
  rintro e w' (⟨l2, A, c, h1, h2, _⟩ | ⟨_, h2, h3⟩)
  · exact absurd h2 (h l2 h1)
  · exact ⟨h2, h3⟩

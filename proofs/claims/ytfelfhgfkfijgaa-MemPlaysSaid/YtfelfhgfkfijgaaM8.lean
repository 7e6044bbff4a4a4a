import Derived.Test.YtfelfhgfkfijgaaM7
namespace Go.Proofs.Ytfelfhgfkfijgaa
open Go.RowKit Go.Nb
def pcs (p : Pr) : List Value := [.string (Bt p.k), .string (Bt p.v)]
theorem prCs_flat (l : List Pr) : prCs l l.length = l.flatMap pcs := by
  obtain ⟨n, hn⟩ : ∃ n, n = l.length := ⟨_, rfl⟩
  induction n generalizing l with
  | zero =>
    have : l = [] := List.length_eq_zero_iff.mp hn.symm
    subst this
    rfl
  | succ n ih =>
    rcases List.eq_nil_or_concat l with rfl | ⟨m, p, rfl⟩
    · simp at hn
    · rw [List.concat_eq_append] at hn ⊢
      have hm : m.length = n := by simp at hn; omega
      have h := prCs_snoc m p
      rw [show (m ++ [p]).length = m.length + 1 from List.length_append, h, ih m hm.symm, List.flatMap_append]
      rfl
theorem flat_len (l : List Pr) : (l.flatMap pcs).length = l.length * 2 := by
  rw [← prCs_flat, prCs_len]
theorem flat_take (l : List Pr) (i : Nat) (hi : i ≤ l.length) : (l.flatMap pcs).take (i * 2) = (l.take i).flatMap pcs ∧ (l.flatMap pcs).drop (i * 2) = (l.drop i).flatMap pcs := by
  have e : l.flatMap pcs = (l.take i).flatMap pcs ++ (l.drop i).flatMap pcs := by rw [← List.flatMap_append, List.take_append_drop]
  have hl : ((l.take i).flatMap pcs).length = i * 2 := by rw [flat_len, List.length_take]; omega
  rw [e]
  constructor
  · rw [← hl, List.take_left]
  · rw [← hl, List.drop_left]
theorem prCs_ins (l : List Pr) (p : Pr) (i : Nat) (hi : i ≤ l.length) : prCs (l.take i ++ p :: l.drop i) (l.length + 1) = (prCs l l.length).take (i * 2) ++ [.string (Bt p.k), .string (Bt p.v)] ++ (prCs l l.length).drop (i * 2) := by
  have h := prCs_flat (l.take i ++ p :: l.drop i)
  have hl : (l.take i ++ p :: l.drop i).length = l.length + 1 := by simp only [List.length_append, List.length_take, List.length_cons, List.length_drop]; omega
  rw [hl] at h
  rw [h, prCs_flat l, (flat_take l i hi).1, (flat_take l i hi).2, List.flatMap_append, List.flatMap_cons, List.append_assoc]
  rfl
theorem insert_any {w0 : World} {base n c i : Nat} {A : Option Addr} {l : List Pr} (p : Pr) (hl : l.length = n) (ho : w0.ownsRow base 30 2 (.slice A n c) n (prCs l n)) (hi : i ≤ n) (hn : n ≤ 100000) (hb : base ≤ w0.heap.size) :
    Calls Try.prog 31 #[.slice A n c, .int .i64 i, .slice (some ⟨w0.heap.size, 0, none⟩) 1 1] (w0.alloc (.cells #[.string (Bt p.k), .string (Bt p.v)] 30)) (InsIs base n (prCs (l.take i ++ p :: l.drop i) (n + 1)) w0) := by
  subst hl
  have hcs := prCs_ins l p i hi
  rcases Nat.lt_or_ge i l.length with h1 | h1
  · have hnc := World.ownsRow.cap_ ho
    obtain ⟨g, rfl⟩ : ∃ g, A = some ⟨g, 0, none⟩ := by
      rcases ho.2 with ⟨_, h0⟩ | ⟨g, cap, cur, hv, _⟩
      · omega
      · injection hv with e1; exact ⟨g, e1⟩
    rw [hcs]
    rcases Nat.lt_or_ge c (l.length + 1) with h2 | h2
    · exact insert_grow _ _ ho (prCs_one _ _) h1 h2 hn hb
    · exact insert_room _ _ ho (prCs_one _ _) h1 h2 hn hb
  · obtain rfl : i = l.length := by omega
    have e : prCs (l.take l.length ++ p :: l.drop l.length) (l.length + 1) = prCs l l.length ++ [.string (Bt p.k), .string (Bt p.v)] := by
      rw [List.take_length, List.drop_length]
      exact prCs_snoc l p
    rw [e]
    exact insert_end _ _ ho hn hb
/-- A pair put among others: in the place of that of its key, or where it belongs. -/
def putL (a : List Pr) (p : Pr) : List Pr := if seekL p.k a < a.length ∧ (a.getD (seekL p.k a) default).k = p.k then a.set (seekL p.k a) p else a.take (seekL p.k a) ++ p :: a.drop (seekL p.k a)
def putsL (a : List Pr) (l : List Pr) : List Pr := l.foldl putL a
theorem putL_len (a : List Pr) (p : Pr) : (putL a p).length ≤ a.length + 1 ∧ a.length ≤ (putL a p).length := by
  have := seekL_le p.k a
  unfold putL
  split
  · simp
  · simp only [List.length_append, List.length_take, List.length_cons, List.length_drop]; omega
theorem upB_iff {l : List Pr} : upB l = true ↔ ∀ i j, i < j → j < l.length → Op.bytesLess (l.getD i default).k (l.getD j default).k = true := by
  constructor
  · intro h i j hij hj
    exact up_less h hij hj
  · intro h
    induction l with
    | nil => rfl
    | cons p r ih =>
      cases r with
      | nil => rfl
      | cons q m =>
        simp only [upB, Bool.and_eq_true]
        refine ⟨h 0 1 (by omega) (by simp), ih (fun i j hij hj => ?_)⟩
        have := h (i + 1) (j + 1) (by omega) (by simpa using hj)
        simpa using this
theorem not_less {a b : Bs} (h : Op.bytesLess a b = false) (hne : a ≠ b) : Op.bytesLess b a = true := by
  rw [bytesLess_eq] at h ⊢
  rw [decide_eq_false_iff_not] at h
  rw [decide_eq_true_eq]
  rcases Decidable.em (b < a) with h1 | h1
  · exact h1
  · exact absurd (List.le_antisymm (List.not_lt.mp h1) (List.not_lt.mp h)) hne
theorem ins_getD (a : List Pr) (p : Pr) (s i : Nat) (hs : s ≤ a.length) : (a.take s ++ p :: a.drop s).getD i default = if i < s then a.getD i default else if i = s then p else a.getD (i - 1) default := by
  have hl : (a.take s).length = s := by rw [List.length_take]; omega
  rw [List.getD_eq_getElem?_getD]
  split
  · next h => rw [List.getElem?_append_left (by omega), List.getElem?_take, if_pos h, List.getD_eq_getElem?_getD]
  · next h =>
    rw [List.getElem?_append_right (by omega), hl]
    split
    · next h2 => subst h2; simp
    · next h2 =>
      obtain ⟨d, hd⟩ : ∃ d, i - s = d + 1 := ⟨i - s - 1, by omega⟩
      rw [hd, List.getElem?_cons_succ, List.getElem?_drop, List.getD_eq_getElem?_getD]
      congr 2; omega
theorem putL_up {a : List Pr} (h : upB a = true) (p : Pr) : upB (putL a p) = true := by
  have hle := seekL_le p.k a
  have hlt := seekL_lt p.k a
  have hat := seekL_at p.k a
  unfold putL
  generalize seekL p.k a = s at *
  split
  · next hc =>
    rw [upB_iff]
    intro i j hij hj
    rw [List.length_set] at hj
    have key : ∀ k, ((a.set s p).getD k default).k = (a.getD k default).k := fun k => by
      rw [List.getD_eq_getElem?_getD, List.getElem?_set]
      split
      · next e =>
        subst e
        rw [if_pos hc.1, hc.2]; rfl
      · rw [List.getD_eq_getElem?_getD]
    rw [key, key]
    exact up_less h hij hj
  · next hc =>
    have hne : s < a.length → (a.getD s default).k ≠ p.k := fun h1 h2 => hc ⟨h1, h2⟩
    rw [upB_iff]
    intro i j hij hj
    simp only [List.length_append, List.length_take, List.length_cons, List.length_drop] at hj
    rw [ins_getD a p s i hle, ins_getD a p s j hle]
    have hps : ∀ k, s ≤ k → k < a.length → Op.bytesLess p.k (a.getD k default).k = true := fun k h1 h2 => by
      have h3 := not_less (hat (by omega)) (hne (by omega))
      rcases Nat.lt_or_ge s k with h4 | h4
      · exact less_trans h3 (up_less h h4 h2)
      · have : k = s := by omega
        rw [this]; exact h3
    rcases Nat.lt_trichotomy i s with hi | hi | hi
    · rw [if_pos hi]
      rcases Nat.lt_trichotomy j s with hj2 | hj2 | hj2
      · rw [if_pos hj2]; exact up_less h hij (by omega)
      · rw [if_neg (by omega), if_pos hj2]; exact hlt i hi
      · rw [if_neg (by omega), if_neg (by omega)]; exact up_less h (by omega) (by omega)
    · rw [if_neg (by omega), if_pos hi, if_neg (by omega), if_neg (by omega)]
      exact hps _ (by omega) (by omega)
    · rw [if_neg (by omega), if_neg (by omega), if_neg (by omega), if_neg (by omega)]
      exact up_less h (by omega) (by omega)
theorem putsL_up : ∀ (l a : List Pr), upB a = true → upB (putsL a l) = true
  | [], _, h => h
  | p :: l, a, h => putsL_up l (putL a p) (putL_up h p)
theorem putsL_len : ∀ (l a : List Pr), (putsL a l).length ≤ a.length + l.length ∧ a.length ≤ (putsL a l).length
  | [], a => ⟨Nat.le_refl _, Nat.le_refl _⟩
  | p :: l, a => by
    have h1 := putL_len a p
    have h2 := putsL_len l (putL a p)
    show (putsL (putL a p) l).length ≤ _ ∧ _ ≤ (putsL (putL a p) l).length
    rw [List.length_cons]
    omega
theorem sizeP_set {a : List Pr} {s : Nat} (p : Pr) (h : s < a.length) : sizeP (a.set s p) + ((a.getD s default).k.length + (a.getD s default).v.length + 4) = sizeP a + (p.k.length + p.v.length + 4) := by
  have e1 : a = a.take s ++ a.getD s default :: a.drop (s + 1) := by
    rw [← drop_cons h, List.take_append_drop]
  have e2 : a.set s p = a.take s ++ p :: a.drop (s + 1) := by
    rw [List.set_eq_take_append_cons_drop, if_pos h]
  rw [e2]
  conv => rhs; rw [e1]
  rw [sizeP_append, sizeP_append, sizeP, sizeP]
  omega
theorem putL_size (a : List Pr) (p : Pr) : sizeP (putL a p) ≤ sizeP a + (p.k.length + p.v.length + 4) := by
  unfold putL
  split
  · next hc => have := sizeP_set (s := seekL p.k a) p hc.1; omega
  · have h : sizeP a = sizeP (a.take (seekL p.k a)) + sizeP (a.drop (seekL p.k a)) := by rw [← sizeP_append, List.take_append_drop]
    rw [sizeP_append, sizeP]
    omega
theorem putsL_size : ∀ (l a : List Pr), sizeP (putsL a l) ≤ sizeP a + sizeP l
  | [], a => Nat.le_add_right _ _
  | p :: l, a => by
    have h1 := putL_size a p
    have h2 := putsL_size l (putL a p)
    show sizeP (putsL (putL a p) l) ≤ _
    rw [sizeP]
    omega

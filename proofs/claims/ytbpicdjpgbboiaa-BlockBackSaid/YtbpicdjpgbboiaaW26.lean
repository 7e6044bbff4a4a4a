import Derived.Test.YtbpicdjpgbboiaaW25
namespace Go.Proofs.Ytbpicdjpgbboiaa
open Go.RowKit Go.Nb
theorem less_trans {a b c : Bs} (h : Op.bytesLess a b = true) (k : Op.bytesLess b c = true) : Op.bytesLess a c = true := by
  rw [bytesLess_eq, decide_eq_true_eq] at *
  exact List.lt_trans h k
theorem less_irrefl (a : Bs) : Op.bytesLess a a = false := by
  rw [bytesLess_eq, decide_eq_false_iff_not]
  exact List.lt_irrefl a
theorem up_next {l : List Pr} (h : upB l = true) : ∀ i, i + 1 < l.length → Op.bytesLess (l.getD i default).k (l.getD (i + 1) default).k = true := by
  induction l with
  | nil => intro i hi; simp at hi
  | cons p r ih =>
    cases r with
    | nil => intro i hi; simp at hi
    | cons q m =>
      simp only [upB, Bool.and_eq_true] at h
      intro i hi
      cases i with
      | zero => exact h.1
      | succ i => exact ih h.2 i (by simpa using hi)
theorem up_lt {l : List Pr} (h : upB l = true) (i : Nat) : ∀ d, i + d + 1 < l.length → Op.bytesLess (l.getD i default).k (l.getD (i + d + 1) default).k = true
  | 0, hi => up_next h i hi
  | d + 1, hi => less_trans (up_lt h i d (by omega)) (up_next h (i + d + 1) hi)
theorem up_less {l : List Pr} (h : upB l = true) {i j : Nat} (hij : i < j) (hj : j < l.length) : Op.bytesLess (l.getD i default).k (l.getD j default).k = true := by
  obtain ⟨d, rfl⟩ : ∃ d, j = i + d + 1 := ⟨j - i - 1, by omega⟩
  exact up_lt h i d hj
theorem less_mono {l : List Pr} (h : upB l = true) {key : Bs} {i j : Nat} (hij : i ≤ j) (hj : j < l.length) (hk : Op.bytesLess (l.getD j default).k key = true) : Op.bytesLess (l.getD i default).k key = true := by
  rcases Nat.lt_or_ge i j with h1 | h1
  · exact less_trans (up_less h h1 hj) hk
  · have : i = j := by omega
    rw [this]; exact hk
theorem seekL_le (key : Bs) : ∀ l, seekL key l ≤ l.length
  | [] => Nat.le_refl _
  | p :: l => by
    have := seekL_le key l
    simp only [seekL, List.length_cons]
    split <;> omega
theorem seekL_lt (key : Bs) : ∀ l i, i < seekL key l → Op.bytesLess (l.getD i default).k key = true
  | [], i, h => by simp [seekL] at h
  | p :: l, i, h => by
    simp only [seekL] at h
    split at h
    · next hp =>
      cases i with
      | zero => exact hp
      | succ i => exact seekL_lt key l i (by omega)
    · omega
theorem seekL_at (key : Bs) : ∀ l, seekL key l < l.length → Op.bytesLess (l.getD (seekL key l) default).k key = false
  | [], h => by simp [seekL] at h
  | p :: l, h => by
    simp only [seekL] at h ⊢
    split at h
    · next hp =>
      rw [if_pos hp]
      exact seekL_at key l (by simpa using h)
    · next hp =>
      rw [if_neg hp]
      simpa using hp
/-- Where all ahead are below a key, and what stands there is not. -/
theorem seekL_of {key : Bs} {l : List Pr} {j : Nat} (hj : j ≤ l.length) (h1 : ∀ i, i < j → Op.bytesLess (l.getD i default).k key = true) (h2 : j < l.length → Op.bytesLess (l.getD j default).k key = false) : seekL key l = j := by
  have hle := seekL_le key l
  rcases Nat.lt_trichotomy (seekL key l) j with h | h | h
  · have a := seekL_at key l (by omega)
    rw [h1 _ h] at a; cases a
  · exact h
  · have a := seekL_lt key l j h
    rw [h2 (by omega)] at a; cases a
theorem cmpV_neg (a b : Bs) : decide (cmpV a b < 0) = Op.bytesLess a b := by
  unfold cmpV
  cases Op.bytesLess a b
  · simp
    split <;> omega
  · simp

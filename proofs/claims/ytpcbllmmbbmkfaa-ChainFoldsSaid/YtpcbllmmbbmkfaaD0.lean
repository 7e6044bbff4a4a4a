import Derived.Test.YtpcbllmmbbmkfaaPre5
namespace Go.Proofs.Ytpcbllmmbbmkfaa
open Go.RowKit
/-- A piece. -/
structure Pc where
  row : Int
  st : Int
  len : Int
deriving DecidableEq, Inhabited
/-- A table's ref. -/
structure Rf where
  len : Int
  ps : List Pc
deriving DecidableEq, Inhabited
/-- A link. -/
structure Lk where
  at_ : Int
  take : Int
  add : Rf
  before : Pc
deriving DecidableEq, Inhabited
def P0 : Pc := ⟨0, 0, 0⟩
def mayP (p : Pc) : Bool := decide (0 ≤ p.row) && (decide (p.row < 4096) && (decide (p.st ≤ 281474976710656) && (decide (1 ≤ p.len) && decide (p.len ≤ 131072))))
/-- Pieces of so many bytes. -/
def mayRs : Int → List Pc → Bool
  | left, [] => decide (left = 0)
  | left, p :: l => mayP p && (decide (p.len ≤ left) && mayRs (left - p.len) l)
def mayR (r : Rf) : Bool := decide (1 ≤ r.len) && (decide (r.len ≤ 131072) && (decide (1 ≤ r.ps.length) && (decide (r.ps.length ≤ 512) && mayRs r.len r.ps)))
def noneR (r : Rf) : Bool := decide (r.len = 0) && decide (r.ps.length = 0)
def mayL (l : Lk) : Bool := decide (0 ≤ l.at_) && (decide (l.at_ ≤ 64) && (decide (0 ≤ l.take) && (decide (l.take ≤ 64) && ((noneR l.add || mayR l.add) && (decide (l.before = P0) || mayP l.before)))))
def spliceL (T : List Rf) (l : Lk) : List Rf := T.take l.at_.toNat ++ ((if noneR l.add = true then [] else [l.add]) ++ T.drop (l.at_ + l.take).toNat)
/-- What a link makes of tables. -/
def applyL (T : List Rf) (l : Lk) : List Rf × Int :=
  if mayL l = false ∨ (T.length : Int) < l.at_ + l.take then ([], 2)
  else if 64 < (spliceL T l).length then ([], 6)
  else (spliceL T l, 0)
def foldF (st : List Rf × Int) (l : Lk) : List Rf × Int := if st.2 = 0 then applyL st.1 l else st
def foldL (l : List Lk) : List Rf × Int := l.foldl foldF ([], 0)
theorem foldL_append (a b : List Lk) : foldL (a ++ b) = b.foldl foldF (foldL a) := by unfold foldL; rw [List.foldl_append]
theorem foldL_snoc (a : List Lk) (x : Lk) : foldL (a ++ [x]) = foldF (foldL a) x := by rw [foldL_append]; rfl
theorem foldF_err {st : List Rf × Int} (h : st.2 ≠ 0) (l : List Lk) : l.foldl foldF st = st := by
  induction l with
  | nil => rfl
  | cons x l ih => rw [List.foldl_cons, foldF, if_neg h, ih]
theorem applyL_len {T : List Rf} {l : Lk} : (applyL T l).1.length ≤ 64 := by
  unfold applyL
  split
  · simp
  · split
    · simp
    · next h => simpa using h
theorem applyL_err {T : List Rf} {l : Lk} (h : (applyL T l).2 ≠ 0) : (applyL T l).1 = [] := by
  unfold applyL at h ⊢
  split
  · rfl
  · next h1 =>
    rw [if_neg h1] at h
    split
    · rfl
    · next h2 => rw [if_neg h2] at h; exact absurd rfl h
/-- What Whole says. -/
def wholeL (T : List Rf) : List Lk := T.reverse.map fun r => ⟨0, 0, r, P0⟩
theorem none_may {r : Rf} (h : mayR r = true) : noneR r = false := by
  unfold mayR at h
  unfold noneR
  simp only [Bool.and_eq_true, decide_eq_true_eq] at h
  rw [decide_eq_false (by omega)]; rfl
theorem whole_fold : ∀ T : List Rf, T.length ≤ 64 → (∀ r ∈ T, mayR r = true) → foldL (wholeL T) = (T, 0)
  | [], _, _ => rfl
  | r :: T, h1, h2 => by
    rw [List.length_cons] at h1
    have ih := whole_fold T (by omega) (fun x hx => h2 x (List.mem_cons_of_mem _ hx))
    have hr := h2 r (List.mem_cons_self ..)
    have hn := none_may hr
    have e : wholeL (r :: T) = wholeL T ++ [⟨0, 0, r, P0⟩] := by unfold wholeL; simp
    rw [e, foldL_snoc, ih]
    have hm : mayL ⟨0, 0, r, P0⟩ = true := by unfold mayL; simp [hr]
    unfold foldF
    rw [if_pos rfl]
    have hs : spliceL T ⟨0, 0, r, P0⟩ = r :: T := by unfold spliceL; simp [hn]
    unfold applyL
    rw [if_neg (by rw [hm]; simp), hs, if_neg (by rw [List.length_cons]; omega)]

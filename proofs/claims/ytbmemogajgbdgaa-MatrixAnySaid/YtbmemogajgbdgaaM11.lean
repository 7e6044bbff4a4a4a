import Derived.Test.YtbmemogajgbdgaaM9
namespace Go.Proofs.Ytbmemogajgbdgaa
open Go.RowKit Go.Gf
/-! THE ELIMINATION, as both texts do it: rows of 2n bytes, told by a function. -/
abbrev St := Nat → Nat → Nat
def st0 (l : List ByteArray) (n : Nat) : St := fun i j => if j < n then ent l i j else unitF i (j - n)
def pivF (n : Nat) (s : St) (c : Nat) : Option Nat := (List.range n).find? (fun p => decide (c ≤ p) && s p c != 0)
def swapF (s : St) (c p : Nat) : St := fun i => if i = c then s p else if i = p then s c else s i
def rowR (s : St) (c j : Nat) : Nat := fm (invV (s c c)) (s c j)
/-- Rows below i0 are done. -/
def elimTo (s : St) (c i0 : Nat) : St := fun i j => if i = c then rowR s c j else if i < i0 then s i j ^^^ fm (s i c) (rowR s c j) else s i j
def stepF (n : Nat) (s : St) (c : Nat) : Option St := (pivF n s c).map (fun p => elimTo (swapF s c p) c n)
def undoSt (l : List ByteArray) (n : Nat) : Nat → Option St
  | 0 => some (st0 l n)
  | c + 1 => (undoSt l n c).bind (fun s => stepF n s c)
def undoV (l : List ByteArray) : List ByteArray :=
  if mayP l ∧ l.length = len0 l then (match undoSt l l.length l.length with | some s => mkM l.length l.length (fun i j => s i (l.length + j)) | none => []) else []
def undoE (l : List ByteArray) : Int :=
  if mayP l then (if l.length = len0 l then (match undoSt l l.length l.length with | some _ => 0 | none => 51) else 50) else 8
theorem undo_form {l : List ByteArray} (h : ¬ mayP l) : undoV l = [] ∧ undoE l = 8 := by
  unfold undoV undoE; rw [if_neg (fun x => h x.1), if_neg h]; exact ⟨rfl, rfl⟩
theorem undo_side {l : List ByteArray} (h1 : mayP l) (h : l.length ≠ len0 l) : undoV l = [] ∧ undoE l = 50 := by
  unfold undoV undoE; rw [if_neg (fun x => h x.2), if_pos h1, if_neg h]; exact ⟨rfl, rfl⟩
theorem undo_sing {l : List ByteArray} (h1 : mayP l) (h : l.length = len0 l) (h2 : undoSt l l.length l.length = none) : undoV l = [] ∧ undoE l = 51 := by
  unfold undoV undoE; rw [if_pos ⟨h1, h⟩, if_pos h1, if_pos h, h2]; exact ⟨rfl, rfl⟩
theorem undo_ok {l : List ByteArray} (h1 : mayP l) (h : l.length = len0 l) (s : St) (h2 : undoSt l l.length l.length = some s) : undoV l = mkM l.length l.length (fun i j => s i (l.length + j)) ∧ undoE l = 0 := by
  unfold undoV undoE; rw [if_pos ⟨h1, h⟩, if_pos h1, if_pos h, h2]; exact ⟨rfl, rfl⟩
theorem undoSt_none (l : List ByteArray) (n c k : Nat) (h : undoSt l n c = none) (hk : c ≤ k) : undoSt l n k = none := by
  induction k with
  | zero => obtain rfl : c = 0 := by omega
            exact h
  | succ k ih =>
    rcases Nat.lt_or_ge k c with h1 | h1
    · obtain rfl : c = k + 1 := by omega
      exact h
    · simp [undoSt, ih h1]
theorem pivF_some {n : Nat} {s : St} {c p : Nat} (hp : p < n) (hc : c ≤ p) (hne : s p c ≠ 0) (hz : ∀ q, c ≤ q → q < p → s q c = 0) : pivF n s c = some p := by
  unfold pivF
  rw [List.find?_eq_some_iff_append]
  refine ⟨by simp [hc, hne], List.range p, (List.range (n - p - 1)).map (fun x => p + 1 + x), ?_, ?_⟩
  · have : n = (p + 1) + (n - p - 1) := by omega
    conv => lhs; rw [this, List.range_add, List.range_succ]
    simp
  · intro q hq
    have hq' := List.mem_range.mp hq
    by_cases h : c ≤ q
    · simp [hz q h hq']
    · simp; omega
theorem pivF_none {n : Nat} {s : St} {c : Nat} (hz : ∀ q, c ≤ q → q < n → s q c = 0) : pivF n s c = none := by
  unfold pivF
  rw [List.find?_eq_none]
  intro q hq
  have hq' := List.mem_range.mp hq
  by_cases h : c ≤ q
  · simp [hz q h hq']
  · simp; omega
theorem undo_step {l : List ByteArray} {n c p : Nat} {s : St} (hs : undoSt l n c = some s) (hp : p < n) (hc : c ≤ p) (hne : s p c ≠ 0) (hz : ∀ q, c ≤ q → q < p → s q c = 0) :
    undoSt l n (c + 1) = some (elimTo (swapF s c p) c n) := by
  simp [undoSt, hs, stepF, pivF_some hp hc hne hz]
theorem undo_stop {l : List ByteArray} {n c : Nat} {s : St} (hs : undoSt l n c = some s) (hc : c < n) (hz : ∀ q, c ≤ q → q < n → s q c = 0) : undoSt l n n = none :=
  undoSt_none l n (c + 1) n (by simp [undoSt, hs, stepF, pivF_none hz]) (by omega)
def Byte (s : St) : Prop := ∀ i j, s i j < 256
theorem st0_byte (l : List ByteArray) (n : Nat) : Byte (st0 l n) := by
  intro i j; unfold st0; split
  · exact ent_lt _ _ _
  · exact unitF_lt _ _
theorem swapF_byte {s : St} (h : Byte s) (c p : Nat) : Byte (swapF s c p) := by
  intro i j; unfold swapF; split
  · exact h _ _
  · split
    · exact h _ _
    · exact h _ _
theorem rowR_lt {s : St} (c j : Nat) : rowR s c j < 256 := fm_lt _ _ (invV_lt _)
theorem elimTo_byte {s : St} (h : Byte s) (c k : Nat) : Byte (elimTo s c k) := by
  intro i j; unfold elimTo; split
  · exact rowR_lt _ _
  · split
    · exact x8 (h _ _) (fm_lt _ _ (h _ _))
    · exact h _ _
theorem elimTo_zero (s : St) (c i : Nat) (hi : i ≠ c) : elimTo s c 0 i = s i := by
  funext j; unfold elimTo; rw [if_neg hi, if_neg (by omega)]
theorem elimTo_at (s : St) (c k : Nat) : elimTo s c k c = rowR s c := by
  funext j; unfold elimTo; rw [if_pos rfl]
theorem elimTo_todo (s : St) (c i : Nat) (hi : i ≠ c) : elimTo s c i i = s i := by
  funext j; unfold elimTo; rw [if_neg hi, if_neg (by omega)]
theorem elimTo_skip (s : St) (c : Nat) : elimTo s c (c + 1) = elimTo s c c := by
  funext i j; unfold elimTo
  by_cases h : i = c
  · rw [if_pos h, if_pos h]
  · rw [if_neg h, if_neg h]
    by_cases h2 : i < c
    · rw [if_pos h2, if_pos (by omega)]
    · rw [if_neg h2, if_neg (by omega)]
theorem elimTo_next (s : St) (c k i : Nat) (hk : k ≠ c) : elimTo s c (k + 1) i = if i = k then (fun j => s k j ^^^ fm (s k c) (rowR s c j)) else elimTo s c k i := by
  funext j
  unfold elimTo
  by_cases h : i = k
  · subst h
    rw [if_neg hk, if_pos (by omega), if_pos rfl]
  · rw [if_neg h]
    by_cases h1 : i = c
    · rw [if_pos h1, if_pos h1]
    · rw [if_neg h1, if_neg h1]
      by_cases h2 : i < k
      · rw [if_pos (by omega), if_pos h2]
      · rw [if_neg (by omega), if_neg h2]
/-! rows as texts -/
theorem bn_app (s t : ByteArray) (j : Nat) : bn (s ++ t) j = if j < s.size then bn s j else bn t (j - s.size) := by
  unfold bn
  have h : (s ++ t).data.toList = s.data.toList ++ t.data.toList := by simp
  have hl : s.data.toList.length = s.size := rfl
  rw [h, List.getD_eq_getElem?_getD, List.getElem?_append, hl]
  split
  · rw [List.getD_eq_getElem?_getD]
  · rw [List.getD_eq_getElem?_getD]
theorem st0_row (l : List ByteArray) (n i : Nat) (hs : (l.getD i { data := #[] }).size = n) : l.getD i { data := #[] } ++ strN n (unitF i) = strN (2 * n) (st0 l n i) := by
  apply str_ext'
  · rw [ByteArray.size_append, strN_size, strN_size, hs]; omega
  · intro j hj
    rw [ByteArray.size_append, strN_size, hs] at hj
    rw [bn_app, bn_strN _ _ j (by omega) (st0_byte l n i j), hs]
    unfold st0 ent
    split
    · rfl
    · rw [bn_strN _ _ _ (by omega) (unitF_lt _ _)]
theorem times_row (n c : Nat) (f : Nat → Nat) (hf : ∀ j, f j < 256) : timesT c (strN n f) = strN n (fun j => fm c (f j)) := by
  unfold timesT
  rw [strN_size]
  exact strN_congr _ _ _ fun j hj => by rw [bn_strN n f j hj (hf j)]
theorem cut_row (n : Nat) (f : Nat → Nat) (hf : ∀ j, f j < 256) : (strN (2 * n) f).extract n (2 * n) = strN n (fun j => f (n + j)) := by
  apply str_ext'
  · rw [ByteArray.size_extract, strN_size, strN_size]; omega
  · intro j hj
    rw [ByteArray.size_extract, strN_size] at hj
    rw [bn_strN n (fun j => f (n + j)) j (by omega) (hf _)]
    have : bn ((strN (2 * n) f).extract n (2 * n)) j = bn (strN (2 * n) f) (n + j) := by
      unfold bn
      simp only [ByteArray.data_extract, Array.toList_extract, List.getD_eq_getElem?_getD]
      rw [List.extract_eq_take_drop, List.getElem?_take, if_pos (by omega), List.getElem?_drop]
    rw [this, bn_strN _ _ _ (by omega) (hf _)]

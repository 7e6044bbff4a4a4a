import Derived.Test.YtpcbllmmbbmkfaaD0
namespace Go.Proofs.Ytpcbllmmbbmkfaa
open Go.RowKit
set_option linter.unusedVariables false
/-- A piece's cells. -/
def pcc (p : Pc) : List Value := [.int .i64 p.row, .int .u64 p.st, .int .i64 p.len]
/-- Pieces that lie in a slice. -/
def PcRd (w : World) (A : Option Addr) (n : Nat) (l : List Pc) : Prop := l.length = n ∧ Rd w A (n * 3) (l.flatMap pcc)
theorem PcRd.ext {w w' : World} {A : Option Addr} {n : Nat} {l : List Pc} (h : PcRd w A n l) (hE : Ext w w') : PcRd w' A n l := ⟨h.1, h.2.ext hE⟩
theorem pcc_len (l : List Pc) : (l.flatMap pcc).length = l.length * 3 := by
  induction l with
  | nil => rfl
  | cons p l ih => rw [List.flatMap_cons, List.length_append, ih, List.length_cons]; simp only [pcc, List.length_cons, List.length_nil]; omega
theorem pcc_at (l : List Pc) : ∀ i, i < l.length → (l.flatMap pcc)[i * 3]? = some (.int .i64 (l.getD i default).row) ∧ (l.flatMap pcc)[i * 3 + 1]? = some (.int .u64 (l.getD i default).st) ∧ (l.flatMap pcc)[i * 3 + 2]? = some (.int .i64 (l.getD i default).len) := by
  induction l with
  | nil => intro i hi; simp at hi
  | cons p l ih =>
    intro i hi
    cases i with
    | zero => exact ⟨rfl, rfl, rfl⟩
    | succ i =>
      have h := ih i (by simpa using hi)
      have e : ∀ k, ((p :: l).flatMap pcc)[i * 3 + 3 + k]? = (l.flatMap pcc)[i * 3 + k]? := fun k => by
        rw [List.flatMap_cons, List.getElem?_append_right (by simp [pcc]; omega)]
        congr 1; simp [pcc]; omega
      have e0 := e 0
      have e1 := e 1
      have e2 := e 2
      rw [show (i + 1) * 3 = i * 3 + 3 by omega, List.getD_cons_succ]
      exact ⟨e0.trans h.1, e1.trans h.2.1, e2.trans h.2.2⟩
theorem PcRd.at_ {w : World} {A : Option Addr} {n : Nat} {l : List Pc} (h : PcRd w A n l) (i : Nat) (hi : i < n) : ∃ g o, A = some ⟨g, o, none⟩ ∧ w.cell? ⟨g, o + i * 3, none⟩ = some (.int .i64 (l.getD i default).row) ∧ w.cell? ⟨g, o + i * 3 + 1, none⟩ = some (.int .u64 (l.getD i default).st) ∧ w.cell? ⟨g, o + i * 3 + 2, none⟩ = some (.int .i64 (l.getD i default).len) := by
  obtain ⟨g, o, e, hc⟩ := h.2.2 (by omega)
  obtain ⟨h0, h1, h2⟩ := pcc_at l i (by rw [h.1]; exact hi)
  exact ⟨g, o, e, hc _ _ h0, hc _ _ h1, hc _ _ h2⟩
/-- A ref's second cell: its pieces. -/
def PsV (w : World) (v : Value) (ps : List Pc) : Prop := ∃ B c, v = .slice B ps.length c ∧ PcRd w B ps.length ps ∧ ps.length ≤ c ∧ (B = none → c = 0)
theorem PsV.ext {w w' : World} {v : Value} {ps : List Pc} (h : PsV w v ps) (hE : Ext w w') : PsV w' v ps := by
  obtain ⟨B, c, h1, h2, h3⟩ := h
  exact ⟨B, c, h1, h2.ext hE, h3⟩
theorem PsV.one {w : World} {v : Value} {ps : List Pc} (h : PsV w v ps) : v.oneCell' = true := by
  obtain ⟨B, c, rfl, _⟩ := h
  rfl
/-- Refs' cells. -/
def RfVs (w : World) : List Value → List Rf → Prop
  | [], [] => True
  | a :: b :: xs, r :: l => a = .int .i64 r.len ∧ PsV w b r.ps ∧ RfVs w xs l
  | [], _ :: _ => False
  | [_], _ => False
  | _ :: _ :: _, [] => False
theorem RfVs.len {w : World} : ∀ {xs : List Value} {l : List Rf}, RfVs w xs l → xs.length = l.length * 2
  | [], [], _ => rfl
  | a :: b :: xs, r :: l, h => by rw [List.length_cons, List.length_cons, RfVs.len h.2.2, List.length_cons]; omega
theorem RfVs.ext {w w' : World} (hE : Ext w w') : ∀ {xs : List Value} {l : List Rf}, RfVs w xs l → RfVs w' xs l
  | [], [], _ => trivial
  | a :: b :: xs, r :: l, h => ⟨h.1, h.2.1.ext hE, RfVs.ext hE h.2.2⟩
theorem RfVs.one {w : World} : ∀ {xs : List Value} {l : List Rf}, RfVs w xs l → ∀ u ∈ xs, u.oneCell' = true
  | [], [], _, u, hu => by cases hu
  | a :: b :: xs, r :: l, h, u, hu => by
    rcases List.mem_cons.mp hu with rfl | hu
    · rw [h.1]; rfl
    · rcases List.mem_cons.mp hu with rfl | hu
      · exact h.2.1.one
      · exact RfVs.one h.2.2 u hu
theorem RfVs.append {w : World} : ∀ {xs ys : List Value} {l m : List Rf}, RfVs w xs l → RfVs w ys m → RfVs w (xs ++ ys) (l ++ m)
  | [], _, [], _, _, k => k
  | a :: b :: xs, ys, r :: l, m, h, k => ⟨h.1, h.2.1, RfVs.append h.2.2 k⟩
theorem RfVs.take {w : World} : ∀ {xs : List Value} {l : List Rf} (n : Nat), RfVs w xs l → RfVs w (xs.take (n * 2)) (l.take n)
  | [], [], _, _ => by simp [RfVs]
  | a :: b :: xs, r :: l, 0, _ => by simp [RfVs]
  | a :: b :: xs, r :: l, n + 1, h => by
    rw [show (n + 1) * 2 = n * 2 + 1 + 1 by omega, List.take_succ_cons, List.take_succ_cons, List.take_succ_cons]
    exact ⟨h.1, h.2.1, RfVs.take n h.2.2⟩
theorem RfVs.drop {w : World} : ∀ {xs : List Value} {l : List Rf} (n : Nat), RfVs w xs l → RfVs w (xs.drop (n * 2)) (l.drop n)
  | [], [], _, _ => by simp [RfVs]
  | a :: b :: xs, r :: l, 0, h => h
  | a :: b :: xs, r :: l, n + 1, h => by
    rw [show (n + 1) * 2 = n * 2 + 1 + 1 by omega, List.drop_succ_cons, List.drop_succ_cons, List.drop_succ_cons]
    exact RfVs.drop n h.2.2
theorem RfVs.at_ {w : World} : ∀ {xs : List Value} {l : List Rf} (i : Nat), RfVs w xs l → i < l.length → xs[i * 2]? = some (.int .i64 (l.getD i default).len) ∧ ∃ b, xs[i * 2 + 1]? = some b ∧ PsV w b (l.getD i default).ps
  | [], [], _, _, hi => by simp at hi
  | a :: b :: xs, r :: l, 0, h, _ => ⟨by rw [h.1]; rfl, b, rfl, h.2.1⟩
  | a :: b :: xs, r :: l, i + 1, h, hi => by
    have := RfVs.at_ i h.2.2 (by simpa using hi)
    rw [show (i + 1) * 2 = i * 2 + 1 + 1 by omega, List.getElem?_cons_succ, List.getElem?_cons_succ, List.getElem?_cons_succ, List.getElem?_cons_succ, List.getD_cons_succ]
    exact this
theorem RfVs.set {w : World} : ∀ {xs : List Value} {l : List Rf} (i : Nat) {r : Rf} {b : Value}, RfVs w xs l → PsV w b r.ps → RfVs w ((xs.set (i * 2) (.int .i64 r.len)).set (i * 2 + 1) b) (l.set i r)
  | [], [], _, _, _, _, _ => by simp [RfVs]
  | a :: c :: xs, q :: l, 0, r, b, h, hb => ⟨rfl, hb, h.2.2⟩
  | a :: c :: xs, q :: l, i + 1, r, b, h, hb => by
    rw [show (i + 1) * 2 = i * 2 + 1 + 1 by omega, List.set_cons_succ, List.set_cons_succ, List.set_cons_succ, List.set_cons_succ, List.set_cons_succ]
    exact ⟨h.1, h.2.1, RfVs.set i h.2.2 hb⟩
/-- Refs that lie in a slice. -/
def RfRd (w : World) (A : Option Addr) (n : Nat) (l : List Rf) : Prop := l.length = n ∧ ∃ xs, Rd w A (n * 2) xs ∧ RfVs w xs l
theorem RfRd.ext {w w' : World} {A : Option Addr} {n : Nat} {l : List Rf} (h : RfRd w A n l) (hE : Ext w w') : RfRd w' A n l := by
  obtain ⟨h1, xs, h2, h3⟩ := h
  exact ⟨h1, xs, h2.ext hE, h3.ext hE⟩
theorem RfRd.at_ {w : World} {A : Option Addr} {n : Nat} {l : List Rf} (h : RfRd w A n l) (i : Nat) (hi : i < n) : ∃ g o b, A = some ⟨g, o, none⟩ ∧ w.cell? ⟨g, o + i * 2, none⟩ = some (.int .i64 (l.getD i default).len) ∧ w.cell? ⟨g, o + i * 2 + 1, none⟩ = some b ∧ PsV w b (l.getD i default).ps := by
  obtain ⟨h1, xs, h2, h3⟩ := h
  obtain ⟨g, o, e, hc⟩ := h2.2 (by omega)
  obtain ⟨k0, b, k1, k2⟩ := h3.at_ i (by omega)
  exact ⟨g, o, b, e, hc _ _ k0, hc _ _ k1, k2⟩
/-- Links' cells. -/
def LkVs (w : World) : List Value → List Lk → Prop
  | [], [] => True
  | a :: b :: c :: d :: e :: f :: g :: xs, k :: l => (a = .int .i64 k.at_ ∧ b = .int .i64 k.take ∧ c = .int .i64 k.add.len ∧ PsV w d k.add.ps ∧ e = .int .i64 k.before.row ∧ f = .int .u64 k.before.st ∧ g = .int .i64 k.before.len) ∧ LkVs w xs l
  | _, _ => False
theorem LkVs.ext {w w' : World} (hE : Ext w w') : ∀ {xs : List Value} {l : List Lk}, LkVs w xs l → LkVs w' xs l
  | [], [], _ => trivial
  | a :: b :: c :: d :: e :: f :: g :: xs, k :: l, h => ⟨⟨h.1.1, h.1.2.1, h.1.2.2.1, h.1.2.2.2.1.ext hE, h.1.2.2.2.2⟩, LkVs.ext hE h.2⟩
theorem LkVs.len {w : World} : ∀ {xs : List Value} {l : List Lk}, LkVs w xs l → xs.length = l.length * 7
  | [], [], _ => rfl
  | a :: b :: c :: d :: e :: f :: g :: xs, k :: l, h => by
    have := LkVs.len h.2
    simp only [List.length_cons]; omega
/-- Links that lie in a slice. -/
def LkRd (w : World) (A : Option Addr) (n : Nat) (l : List Lk) : Prop := l.length = n ∧ ∃ xs, Rd w A (n * 7) xs ∧ LkVs w xs l
theorem LkRd.ext {w w' : World} {A : Option Addr} {n : Nat} {l : List Lk} (h : LkRd w A n l) (hE : Ext w w') : LkRd w' A n l := by
  obtain ⟨h1, xs, h2, h3⟩ := h
  exact ⟨h1, xs, h2.ext hE, h3.ext hE⟩

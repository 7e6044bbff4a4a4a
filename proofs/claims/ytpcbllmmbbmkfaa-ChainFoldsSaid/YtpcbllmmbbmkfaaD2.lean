import Derived.Test.YtpcbllmmbbmkfaaE8
namespace Go.Proofs.Ytpcbllmmbbmkfaa
open Go.RowKit
set_option linter.unusedVariables false
theorem own_block {w : World} {base size n : Nat} {e : TypeId} {v : Value} {xs : List Value} (h : w.ownsRow base e size v n xs) {k : Nat} (hk : v.ownBlock = some k) : base ≤ k := by
  rcases h.2 with ⟨h1, h0⟩ | ⟨g, cap, cur, hv, h1, h2, h3, h4, h5, h6⟩
  · subst h1; cases hk
  · subst hv
    have : g = k := by simpa [Value.ownBlock] using hk
    omega
theorem own_set {w : World} {base size n g i : Nat} {e : TypeId} {v u : Value} {xs : List Value} (h : w.ownsRow base e size v n xs) (hg : g < base) : (w.setCell ⟨g, i, none⟩ u).ownsRow base e size v n xs :=
  h.only ((OnlyB.refl g w).setCell i u) (fun e => by have := own_block h e; omega)
theorem own_ps {w : World} {base c : Nat} {A : Option Addr} {ps : List Pc} (h : w.ownsRow base 39 3 (.slice A ps.length c) ps.length (ps.flatMap pcc)) : PsV w (.slice A ps.length c) ps := ⟨A, c, rfl, ⟨rfl, own_rd h⟩, own_cap h, own_nil h⟩
/-- Refs' cells, of whose pieces P holds. -/
def RfVP (P : Value → List Pc → Prop) : List Value → List Rf → Prop
  | [], [] => True
  | a :: b :: xs, r :: l => a = .int .i64 r.len ∧ P b r.ps ∧ RfVP P xs l
  | [], _ :: _ => False
  | [_], _ => False
  | _ :: _ :: _, [] => False
variable {P Q : Value → List Pc → Prop}
theorem RfVP.len : ∀ {xs : List Value} {l : List Rf}, RfVP P xs l → xs.length = l.length * 2
  | [], [], _ => rfl
  | a :: b :: xs, r :: l, h => by rw [List.length_cons, List.length_cons, RfVP.len h.2.2, List.length_cons]; omega
theorem RfVP.mono (hPQ : ∀ v ps, P v ps → Q v ps) : ∀ {xs : List Value} {l : List Rf}, RfVP P xs l → RfVP Q xs l
  | [], [], _ => trivial
  | a :: b :: xs, r :: l, h => ⟨h.1, hPQ _ _ h.2.1, RfVP.mono hPQ h.2.2⟩
theorem RfVP.append : ∀ {xs ys : List Value} {l m : List Rf}, RfVP P xs l → RfVP P ys m → RfVP P (xs ++ ys) (l ++ m)
  | [], _, [], _, _, k => k
  | a :: b :: xs, ys, r :: l, m, h, k => ⟨h.1, h.2.1, RfVP.append h.2.2 k⟩
theorem RfVP.take : ∀ {xs : List Value} {l : List Rf} (n : Nat), RfVP P xs l → RfVP P (xs.take (n * 2)) (l.take n)
  | [], [], _, _ => by simp [RfVP]
  | a :: b :: xs, r :: l, 0, _ => by simp [RfVP]
  | a :: b :: xs, r :: l, n + 1, h => by
    rw [show (n + 1) * 2 = n * 2 + 1 + 1 by omega, List.take_succ_cons, List.take_succ_cons, List.take_succ_cons]
    exact ⟨h.1, h.2.1, RfVP.take n h.2.2⟩
theorem RfVP.drop : ∀ {xs : List Value} {l : List Rf} (n : Nat), RfVP P xs l → RfVP P (xs.drop (n * 2)) (l.drop n)
  | [], [], _, _ => by simp [RfVP]
  | a :: b :: xs, r :: l, 0, h => h
  | a :: b :: xs, r :: l, n + 1, h => by
    rw [show (n + 1) * 2 = n * 2 + 1 + 1 by omega, List.drop_succ_cons, List.drop_succ_cons, List.drop_succ_cons]
    exact RfVP.drop n h.2.2
theorem RfVP.at_ : ∀ {xs : List Value} {l : List Rf} (i : Nat), RfVP P xs l → i < l.length → xs[i * 2]? = some (.int .i64 (l.getD i default).len) ∧ ∃ b, xs[i * 2 + 1]? = some b ∧ P b (l.getD i default).ps
  | [], [], _, _, hi => by simp at hi
  | a :: b :: xs, r :: l, 0, h, _ => ⟨by rw [h.1]; rfl, b, rfl, h.2.1⟩
  | a :: b :: xs, r :: l, i + 1, h, hi => by
    have := RfVP.at_ i h.2.2 (by simpa using hi)
    rw [show (i + 1) * 2 = i * 2 + 1 + 1 by omega, List.getElem?_cons_succ, List.getElem?_cons_succ, List.getElem?_cons_succ, List.getElem?_cons_succ, List.getD_cons_succ]
    exact this
theorem RfVP.set : ∀ {xs : List Value} {l : List Rf} (i : Nat) {r : Rf} {b : Value}, RfVP P xs l → P b r.ps → RfVP P ((xs.set (i * 2) (.int .i64 r.len)).set (i * 2 + 1) b) (l.set i r)
  | [], [], _, _, _, _, _ => by simp [RfVP]
  | a :: c :: xs, q :: l, 0, r, b, h, hb => ⟨rfl, hb, h.2.2⟩
  | a :: c :: xs, q :: l, i + 1, r, b, h, hb => by
    rw [show (i + 1) * 2 = i * 2 + 1 + 1 by omega, List.set_cons_succ, List.set_cons_succ, List.set_cons_succ, List.set_cons_succ, List.set_cons_succ]
    exact ⟨h.1, h.2.1, RfVP.set i h.2.2 hb⟩
theorem RfVP.rfvs {w : World} : ∀ {xs : List Value} {l : List Rf}, RfVP (PsV w) xs l ↔ RfVs w xs l
  | [], [] => Iff.rfl
  | [], _ :: _ => Iff.rfl
  | [_], _ => by simp [RfVP, RfVs]
  | _ :: _ :: _, [] => by simp [RfVP, RfVs]
  | a :: b :: xs, r :: l => by
    unfold RfVP RfVs
    rw [RfVP.rfvs]
/-- Pieces that no row of refs or of links from base on holds: older, or in a block of pieces. -/
def PsB (w : World) (base : Nat) (v : Value) (ps : List Pc) : Prop := PsV w v ps ∧ ∀ a k c, v = .slice (some a) k c → 0 < ps.length → a.block < base ∨ ∃ cs fz, w.heap[a.block]? = some (.cells cs 39 fz)
theorem PsV.blk {w : World} {a : Addr} {k c : Nat} {ps : List Pc} (h : PsV w (.slice (some a) k c) ps) (hp : 0 < ps.length) : a.block < w.heap.size := by
  obtain ⟨B, c', hv, h1, _⟩ := h
  injection hv with e1 e2 e3
  subst e1
  obtain ⟨g, o, e, c0, _⟩ := h1.at_ 0 hp
  injection e with e
  subst e
  exact block_lt_of_cell c0
theorem PsB.ext {w w' : World} {base : Nat} {v : Value} {ps : List Pc} (h : PsB w base v ps) (hE : Ext w w') : PsB w' base v ps := by
  refine ⟨h.1.ext hE, fun a k c hv hp => ?_⟩
  rcases h.2 a k c hv hp with h1 | ⟨cs, fz, h1⟩
  · exact .inl h1
  · refine .inr ⟨cs, fz, ?_⟩
    subst hv
    rw [hE.block _ (h.1.blk hp)]; exact h1
theorem PsB.old {w : World} {base : Nat} {v : Value} {ps : List Pc} (h : PsV w v ps) (hb : w.heap.size ≤ base) : PsB w base v ps := ⟨h, fun a k c hv hp => .inl (by subst hv; have := h.blk hp; omega)⟩
theorem PsB.mono {w : World} {base b2 : Nat} {v : Value} {ps : List Pc} (h : PsB w base v ps) (hb : base ≤ b2) : PsB w b2 v ps := ⟨h.1, fun a k c hv hp => by
  rcases h.2 a k c hv hp with h1 | h1
  · exact .inl (by omega)
  · exact .inr h1⟩
theorem PsB.own {w : World} {base b2 c : Nat} {A : Option Addr} {ps : List Pc} (h : w.ownsRow base 39 3 (.slice A ps.length c) ps.length (ps.flatMap pcc)) : PsB w b2 (.slice A ps.length c) ps := by
  refine ⟨own_ps h, fun a k c' hv hp => .inr ?_⟩
  injection hv with e1 e2 e3
  subst e1
  rcases h.2 with ⟨h1, h0⟩ | ⟨g, cap, cur, hv, h1, h2, _⟩
  · injection h1 with h1; cases h1
  · injection hv with e1; injection e1 with e1; subst e1
    exact ⟨cur, _, h2⟩
/-- A row that grows, or turns, does not touch them. -/
theorem PsB.row {w w' : World} {base sz n : Nat} {e : TypeId} {u v : Value} {xs : List Value} {ps : List Pc} (h : PsB w base v ps) (ho : w.ownsRow base e sz u n xs) (hne : e ≠ 39) (hg : w.grownBy w' u.ownBlock) : PsB w' base v ps := by
  have key : ∀ a k c, v = .slice (some a) k c → 0 < ps.length → some a.block ≠ u.ownBlock := by
    intro a k c hv hp he
    rcases ho.2 with ⟨h1, h0⟩ | ⟨g, cap, cur, hu, h1, h2, _⟩
    · subst h1; cases he
    · subst hu
      have e2 : a.block = g := by simpa [Value.ownBlock] using he
      rcases h.2 a k c hv hp with h3 | ⟨cs, fz, h3⟩
      · omega
      · rw [e2, h2] at h3
        injection h3 with h3; injection h3 with _ h3
        exact hne h3
  refine ⟨?_, fun a k c hv hp => ?_⟩
  · obtain ⟨B, c, hv, h1, h2, h3⟩ := h.1
    refine ⟨B, c, hv, ⟨h1.1, h1.2.1, fun hn => ?_⟩, h2, h3⟩
    obtain ⟨g, o, hB, hc⟩ := h1.2.2 hn
    refine ⟨g, o, hB, fun i x hi => ?_⟩
    exact hg.cell (hc i x hi) (key ⟨g, o, none⟩ _ _ (by rw [hv, hB]) (by omega))
  · rcases h.2 a k c hv hp with h3 | ⟨cs, fz, h3⟩
    · exact .inl h3
    · refine .inr ⟨cs, fz, ?_⟩
      rw [hg.block _ (by subst hv; exact h.1.blk hp) (key a k c hv hp)]; exact h3
theorem PsB.one {w : World} {base : Nat} {v : Value} {ps : List Pc} (h : PsB w base v ps) : v.oneCell' = true := h.1.one
theorem RfVP.one {w : World} {base : Nat} {xs : List Value} {l : List Rf} (h : RfVP (PsB w base) xs l) : ∀ u ∈ xs, u.oneCell' = true := (RfVP.rfvs.1 (h.mono fun _ _ k => k.1)).one
theorem RfVP.up {w w' : World} {base : Nat} {xs : List Value} {l : List Rf} (h : RfVP (PsB w base) xs l) (hE : Ext w w') : RfVP (PsB w' base) xs l := h.mono fun _ _ k => k.ext hE
theorem RfVP.row {w w' : World} {base sz n : Nat} {e : TypeId} {u : Value} {ys xs : List Value} {l : List Rf} (h : RfVP (PsB w base) xs l) (ho : w.ownsRow base e sz u n ys) (hne : e ≠ 39) (hg : w.grownBy w' u.ownBlock) : RfVP (PsB w' base) xs l := h.mono fun _ _ k => k.row ho hne hg
/-- A row of refs of one's own. -/
def RfOw (w : World) (base : Nat) (A : Option Addr) (n c : Nat) (l : List Rf) : Prop := l.length = n ∧ ∃ xs, w.ownsRow base 36 2 (.slice A n c) n xs ∧ RfVP (PsB w base) xs l
theorem RfOw.rd {w : World} {base n c : Nat} {A : Option Addr} {l : List Rf} (h : RfOw w base A n c l) : RfRd w A n l := by
  obtain ⟨h1, xs, h2, h3⟩ := h
  exact ⟨h1, xs, own_rd h2, RfVP.rfvs.1 (h3.mono fun _ _ k => k.1)⟩
theorem RfOw.ext {w w' : World} {base n c : Nat} {A : Option Addr} {l : List Rf} (h : RfOw w base A n c l) (hE : Ext w w') : RfOw w' base A n c l := by
  obtain ⟨h1, xs, h2, h3⟩ := h
  exact ⟨h1, xs, World.ownsRow.ext h2 hE, h3.up hE⟩
theorem RfOw.nil (w : World) (base : Nat) : RfOw w base none 0 0 [] := ⟨rfl, [], World.ownsRow_nil _ _ _ _, trivial⟩

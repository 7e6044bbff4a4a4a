import Derived.Test.YtpcbllmmbbmkfaaE10
namespace Go.Proofs.Ytpcbllmmbbmkfaa
open Go.RowKit
/-- Links' cells, of whose pieces P holds. -/
def LkVP (P : Value → List Pc → Prop) : List Value → List Lk → Prop
  | [], [] => True
  | a :: b :: c :: d :: e :: f :: g :: xs, k :: l => (a = .int .i64 k.at_ ∧ b = .int .i64 k.take ∧ c = .int .i64 k.add.len ∧ P d k.add.ps ∧ e = .int .i64 k.before.row ∧ f = .int .u64 k.before.st ∧ g = .int .i64 k.before.len) ∧ LkVP P xs l
  | _, _ => False
theorem LkVP.mono {P Q : Value → List Pc → Prop} (hPQ : ∀ v ps, P v ps → Q v ps) : ∀ {xs : List Value} {l : List Lk}, LkVP P xs l → LkVP Q xs l
  | [], [], _ => trivial
  | _ :: _ :: _ :: _ :: _ :: _ :: _ :: _, _ :: _, h => ⟨⟨h.1.1, h.1.2.1, h.1.2.2.1, hPQ _ _ h.1.2.2.2.1, h.1.2.2.2.2⟩, LkVP.mono hPQ h.2⟩
theorem LkVP.append {P : Value → List Pc → Prop} : ∀ {xs ys : List Value} {l m : List Lk}, LkVP P xs l → LkVP P ys m → LkVP P (xs ++ ys) (l ++ m)
  | [], _, [], _, _, k => k
  | _ :: _ :: _ :: _ :: _ :: _ :: _ :: _, _, _ :: _, _, h, k => ⟨h.1, LkVP.append h.2 k⟩
theorem LkVP.take {P : Value → List Pc → Prop} : ∀ {xs : List Value} {l : List Lk} (n : Nat), LkVP P xs l → LkVP P (xs.take (n * 7)) (l.take n)
  | [], [], _, _ => by simp [LkVP]
  | _ :: _ :: _ :: _ :: _ :: _ :: _ :: _, _ :: _, 0, _ => by simp [LkVP]
  | _ :: _ :: _ :: _ :: _ :: _ :: _ :: _, _ :: _, n + 1, h => by
    rw [show (n + 1) * 7 = n * 7 + 1 + 1 + 1 + 1 + 1 + 1 + 1 by omega]
    simp only [List.take_succ_cons]
    exact ⟨h.1, LkVP.take n h.2⟩
theorem LkVP.at_ {P : Value → List Pc → Prop} : ∀ {xs : List Value} {l : List Lk} (i : Nat), LkVP P xs l → i < l.length →
    xs[i * 7]? = some (.int .i64 (l.getD i default).at_) ∧ xs[i * 7 + 1]? = some (.int .i64 (l.getD i default).take) ∧ xs[i * 7 + 2]? = some (.int .i64 (l.getD i default).add.len) ∧ (∃ b, xs[i * 7 + 3]? = some b ∧ P b (l.getD i default).add.ps) ∧
    xs[i * 7 + 4]? = some (.int .i64 (l.getD i default).before.row) ∧ xs[i * 7 + 5]? = some (.int .u64 (l.getD i default).before.st) ∧ xs[i * 7 + 6]? = some (.int .i64 (l.getD i default).before.len)
  | [], [], _, _, hi => by simp at hi
  | a :: b :: c :: d :: e :: f :: g :: xs, k :: l, 0, h, _ => by
    obtain ⟨⟨rfl, rfl, rfl, h4, rfl, rfl, rfl⟩, _⟩ := h
    exact ⟨rfl, rfl, rfl, ⟨d, rfl, h4⟩, rfl, rfl, rfl⟩
  | _ :: _ :: _ :: _ :: _ :: _ :: _ :: xs, k :: l, i + 1, h, hi => by
    have := LkVP.at_ i h.2 (by simpa using hi)
    rw [show (i + 1) * 7 = i * 7 + 1 + 1 + 1 + 1 + 1 + 1 + 1 by omega, List.getD_cons_succ]
    simp only [show ∀ n, i * 7 + 1 + 1 + 1 + 1 + 1 + 1 + 1 + n = (i * 7 + n) + 1 + 1 + 1 + 1 + 1 + 1 + 1 by intro n; omega, List.getElem?_cons_succ]
    exact this
theorem LkVP.one {P : Value → List Pc → Prop} (hP : ∀ v ps, P v ps → v.oneCell' = true) : ∀ {xs : List Value} {l : List Lk}, LkVP P xs l → ∀ u ∈ xs, u.oneCell' = true
  | [], [], _, u, hu => by cases hu
  | a :: b :: c :: d :: e :: f :: g :: xs, k :: l, h, u, hu => by
    obtain ⟨⟨rfl, rfl, rfl, h4, rfl, rfl, rfl⟩, h5⟩ := h
    simp only [List.mem_cons] at hu
    rcases hu with rfl | rfl | rfl | rfl | rfl | rfl | rfl | hu
    · rfl
    · rfl
    · rfl
    · exact hP _ _ h4
    · rfl
    · rfl
    · rfl
    · exact LkVP.one hP h5 u hu
/-- Links that lie in a slice (as they come in). -/
def LnRd (w : World) (A : Option Addr) (n : Nat) (l : List Lk) : Prop := l.length = n ∧ ∃ xs, Rd w A (n * 7) xs ∧ LkVP (PsV w) xs l
theorem LnRd.ext {w w' : World} {A : Option Addr} {n : Nat} {l : List Lk} (h : LnRd w A n l) (hE : Ext w w') : LnRd w' A n l := by
  obtain ⟨h1, xs, h2, h3⟩ := h
  exact ⟨h1, xs, h2.ext hE, h3.mono fun _ _ k => k.ext hE⟩
theorem LnRd.at_ {w : World} {A : Option Addr} {n : Nat} {l : List Lk} (h : LnRd w A n l) (i : Nat) (hi : i < n) : ∃ g o b, A = some ⟨g, o, none⟩ ∧ w.cell? ⟨g, o + i * 7, none⟩ = some (.int .i64 (l.getD i default).at_) ∧ w.cell? ⟨g, o + i * 7 + 1, none⟩ = some (.int .i64 (l.getD i default).take) ∧ w.cell? ⟨g, o + i * 7 + 2, none⟩ = some (.int .i64 (l.getD i default).add.len) ∧
    w.cell? ⟨g, o + i * 7 + 3, none⟩ = some b ∧ PsV w b (l.getD i default).add.ps ∧ w.cell? ⟨g, o + i * 7 + 4, none⟩ = some (.int .i64 (l.getD i default).before.row) ∧ w.cell? ⟨g, o + i * 7 + 5, none⟩ = some (.int .u64 (l.getD i default).before.st) ∧ w.cell? ⟨g, o + i * 7 + 6, none⟩ = some (.int .i64 (l.getD i default).before.len) := by
  obtain ⟨h1, xs, h2, h3⟩ := h
  obtain ⟨g, o, e, hc⟩ := h2.2 (by omega)
  obtain ⟨k0, k1, k2, ⟨b, k3, k4⟩, k5, k6, k7⟩ := h3.at_ i (by omega)
  exact ⟨g, o, b, e, hc _ _ k0, hc _ _ k1, hc _ _ k2, hc _ _ k3, k4, hc _ _ k5, hc _ _ k6, hc _ _ k7⟩
/-- A row of links of one's own. -/
def LkOw (w : World) (base : Nat) (A : Option Addr) (n c : Nat) (l : List Lk) : Prop := l.length = n ∧ ∃ xs, w.ownsRow base 41 7 (.slice A n c) n xs ∧ LkVP (PsB w base) xs l
theorem LkOw.rd {w : World} {base n c : Nat} {A : Option Addr} {l : List Lk} (h : LkOw w base A n c l) : LnRd w A n l := by
  obtain ⟨h1, xs, h2, h3⟩ := h
  exact ⟨h1, xs, own_rd h2, h3.mono fun _ _ k => k.1⟩
theorem LkOw.ext {w w' : World} {base n c : Nat} {A : Option Addr} {l : List Lk} (h : LkOw w base A n c l) (hE : Ext w w') : LkOw w' base A n c l := by
  obtain ⟨h1, xs, h2, h3⟩ := h
  exact ⟨h1, xs, World.ownsRow.ext h2 hE, h3.mono fun _ _ k => k.ext hE⟩
theorem LkOw.nil (w : World) (base : Nat) : LkOw w base none 0 0 [] := ⟨rfl, [], World.ownsRow_nil _ _ _ _, trivial⟩
theorem PsB.set {w : World} {base g i : Nat} {v u : Value} {ps : List Pc} {cs : Array Value} {t : TypeId} {fz : Nat × Nat} (h : PsB w base v ps) (hg : w.heap[g]? = some (.cells cs t fz)) (hne : t ≠ 39) (hb : base ≤ g) : PsB (w.setCell ⟨g, i, none⟩ u) base v ps := by
  have hO : OnlyB g w (w.setCell ⟨g, i, none⟩ u) := (OnlyB.refl g w).setCell i u
  have key : ∀ a k c, v = .slice (some a) k c → 0 < ps.length → some a.block ≠ some g := by
    intro a k c hv hp he
    injection he with he
    rcases h.2 a k c hv hp with h3 | ⟨cs2, fz2, h3⟩
    · omega
    · rw [he, hg] at h3
      injection h3 with h3; injection h3 with _ h3
      exact hne h3
  refine ⟨?_, fun a k c hv hp => ?_⟩
  · obtain ⟨B, c, hv, h1, h2, h3⟩ := h.1
    refine ⟨B, c, hv, ⟨h1.1, h1.2.1, fun hn => ?_⟩, h2, h3⟩
    obtain ⟨g2, o, hB, hc⟩ := h1.2.2 hn
    refine ⟨g2, o, hB, fun j x hi => ?_⟩
    exact World.grownBy.cell hO (hc j x hi) (key ⟨g2, o, none⟩ _ _ (by rw [hv, hB]) (by omega))
  · rcases h.2 a k c hv hp with h3 | ⟨cs2, fz2, h3⟩
    · exact .inl h3
    · refine .inr ⟨cs2, fz2, ?_⟩
      rw [hO.block _ (by subst hv; exact h.1.blk hp) (key a k c hv hp)]; exact h3
theorem own_lt {w : World} {base size n : Nat} {e : TypeId} {v : Value} {xs : List Value} (h : w.ownsRow base e size v n xs) {k : Nat} (hk : v.ownBlock = some k) : k < w.heap.size := by
  rcases h.2 with ⟨h1, h0⟩ | ⟨g, cap, cur, hv, h1, h2, h3, h4, h5, h6⟩
  · subst h1; cases hk
  · subst hv
    have e2 : g = k := by simpa [Value.ownBlock] using hk
    subst e2
    rcases Nat.lt_or_ge g w.heap.size with h7 | h7
    · exact h7
    · rw [Array.getElem?_eq_none h7] at h2; cases h2
theorem infoLk : (Try.prog.info? 41).map (fun i => (i.zero, i.size, i.bytes)) = some (some (.agg #[.int .i64 0, .int .i64 0, .int .i64 0, .slice none 0 0, .int .i64 0, .int .u64 0, .int .i64 0]), 7, 72) := by kernel_rfl

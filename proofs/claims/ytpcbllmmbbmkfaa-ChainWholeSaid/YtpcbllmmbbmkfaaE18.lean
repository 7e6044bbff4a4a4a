import Derived.Test.YtpcbllmmbbmkfaaE17
namespace Go.Proofs.Ytpcbllmmbbmkfaa
open Go.RowKit
theorem insertR_any {w0 : World} {base n c i : Nat} {A : Option Addr} {xs : List Value} (x y : Value) (hx : x.oneCell' = true) (hy : y.oneCell' = true) (ho : w0.ownsRow base 36 2 (.slice A n c) n xs) (hx1 : ∀ u ∈ xs, u.oneCell' = true) (hi : i ≤ n) (hn : n ≤ 100000) (hb : base ≤ w0.heap.size) :
    Calls Try.prog 31 #[.slice A n c, .int .i64 i, .slice (some ⟨w0.heap.size, 0, none⟩) 1 1] (w0.alloc (.cells #[x, y] 36)) (InsIs base n (xs.take (i * 2) ++ [x, y] ++ xs.drop (i * 2)) w0) := by
  rcases Nat.lt_or_ge i n with h1 | h1
  · have hnc := own_cap ho
    obtain ⟨g, rfl⟩ : ∃ g, A = some ⟨g, 0, none⟩ := by
      rcases ho.2 with ⟨_, h0⟩ | ⟨g, cap, cur, hv, _⟩
      · omega
      · injection hv with e1; exact ⟨g, e1⟩
    rcases Nat.lt_or_ge c (n + 1) with h2 | h2
    · exact insert_grow _ _ hx hy ho hx1 h1 h2 hn hb
    · exact insert_room _ _ hx hy ho hx1 h1 h2 hn hb
  · obtain rfl : i = n := by omega
    have hl : xs.length = i * 2 := ho.1
    have e : xs.take (i * 2) ++ [x, y] ++ xs.drop (i * 2) = xs ++ [x, y] := by
      rw [List.take_of_length_le (by omega), List.drop_of_length_le (by omega), List.append_nil]
    rw [e]
    exact insert_end _ _ hx hy ho hn hb
set_option maxRecDepth 100000 in
theorem delete_none (w : World) : Calls Try.prog 28 #[.slice none 0 0, .int .i64 0, .int .i64 0] w fun e w' => e = .returned (.slice none 0 0) ∧ w' = w := by
  go_enter Try.func28, Try.ntmps28
  go_wp2
  all_goals go_ret
  all_goals exact ⟨rfl, rfl⟩
theorem deleteR_any {w : World} {base n c i j : Nat} {A : Option Addr} {xs : List Value} (ho : w.ownsRow base 36 2 (.slice A n c) n xs) (hx1 : ∀ u ∈ xs, u.oneCell' = true) (hij : i ≤ j) (hj : j ≤ n) :
    Calls Try.prog 28 #[.slice A n c, .int .i64 i, .int .i64 j] w fun e w' => e = .returned (.slice A (i + (n - j)) c) ∧ w'.ownsRow base 36 2 (.slice A (i + (n - j)) c) (i + (n - j)) (xs.take (i * 2) ++ xs.drop (j * 2)) ∧ w.grownBy w' (Value.slice A n c).ownBlock := by
  rcases ho.2 with ⟨h1, h0⟩ | ⟨g, cap, cur, hv, _⟩
  · injection h1 with e1 e2 e3
    subst e1 e3
    subst h0
    obtain rfl : j = 0 := by omega
    obtain rfl : i = 0 := by omega
    refine (delete_none w).mono ?_
    rintro e w' ⟨rfl, rfl⟩
    refine ⟨rfl, ?_, ⟨rfl, rfl, rfl, Nat.le_refl _, fun _ _ _ => rfl⟩⟩
    have hx : xs = [] := List.eq_nil_of_length_eq_zero (by have := ho.1; omega)
    rw [hx]
    exact World.ownsRow_nil _ _ _ _
  · injection hv with e1 e2 e3
    subst e1
    refine (delete_any ho hx1 hij hj).mono ?_
    rintro e w' ⟨h1, h2, h3⟩
    exact ⟨h1, h2, h3⟩
theorem own_put {w : World} {base e size n c g k : Nat} {u : Value} {xs : List Value} (h : w.ownsRow base e size (.slice (some ⟨g, 0, none⟩) n c) n xs) : (w.setCell ⟨g, k, none⟩ u).ownsRow base e size (.slice (some ⟨g, 0, none⟩) n c) n (xs.set k u) := by
  refine ⟨by rw [List.length_set]; exact h.1, ?_⟩
  rcases h.2 with ⟨h1, h0⟩ | ⟨g2, cap, cur, hv, h1, h2, h3, h4, h5, h6⟩
  · injection h1 with e1; cases e1
  · injection hv with e1 e2 e3
    injection e1 with e1; injection e1 with e1
    subst e1
    refine .inr ⟨g, cap, cur.setIfInBounds k u, by rw [e3], h1, ?_, h3, h4, by rw [Array.size_setIfInBounds]; exact h5, ?_⟩
    · simp [World.setCell, Array.getElem?_modify, h2]
    · rw [Array.toList_setIfInBounds, List.take_set, h6]
/-- A row in which a ref is put in the place of one. -/
theorem RfOw.put {w : World} {base n c g k : Nat} {l : List Rf} {r : Rf} {b : Value} (h : RfOw w base (some ⟨g, 0, none⟩) n c l) (hr : r = l.getD k default) (hk : k < n) (hb : PsB w base b r.ps) :
    RfOw ((w.setCell ⟨g, k * 2, none⟩ (.int .i64 r.len)).setCell ⟨g, k * 2 + 1, none⟩ b) base (some ⟨g, 0, none⟩) n c l := by
  obtain ⟨h1, xs, h2, h3⟩ := h
  obtain ⟨cur, hcur, hgb⟩ : ∃ cur : Array Value, w.heap[g]? = some (.cells cur 36 (0, 0)) ∧ base ≤ g := by
    rcases h2.2 with ⟨h1, _⟩ | ⟨g', cap, cur, hv, h1, h2, _⟩
    · cases h1
    · injection hv with e1 e2 e3
      injection e1 with e1; injection e1 with e1
      subst e1
      exact ⟨cur, h2, h1⟩
  have hc2 : (w.setCell ⟨g, k * 2, none⟩ (.int .i64 r.len)).heap[g]? = some (.cells (cur.setIfInBounds (k * 2) (.int .i64 r.len)) 36 (0, 0)) := by
    simp [World.setCell, Array.getElem?_modify, hcur]
  have hset : l.set k r = l := by
    have hkl : k < l.length := by omega
    rw [hr, List.getD_eq_getElem?_getD, List.getElem?_eq_getElem hkl, Option.getD_some, List.set_getElem_self]
  refine ⟨h1, _, own_put (own_put h2), ?_⟩
  have h4 := RfVP.set k h3 hb
  rw [hset] at h4
  exact h4.mono fun _ _ q => (q.set hcur (by decide) hgb).set hc2 (by decide) hgb

import Derived.Test.YtbpicdjpgbboiaaW23
import Derived.Deep.AppendLies
namespace Go.Proofs.Ytbpicdjpgbboiaa
open Go.RowKit Go.Nb
/-- Pairs' cells, one behind the other. -/
def prCs (l : List Pr) (n : Nat) : List Value := (List.range (n * 2)).map fun j => prF l (j / 2) (j % 2)
theorem prCs_len (l : List Pr) (n : Nat) : (prCs l n).length = n * 2 := by simp [prCs]
theorem prCs_at (l : List Pr) (n j : Nat) (hj : j < n * 2) : (prCs l n)[j]? = some (prF l (j / 2) (j % 2)) := by simp [prCs, hj]
theorem prCs_one (l : List Pr) (n : Nat) : ∀ u ∈ prCs l n, u.oneCell' = true := by
  intro u hu
  simp only [prCs, List.mem_map] at hu
  obtain ⟨j, _, rfl⟩ := hu
  rfl
theorem infoPr : (Try.prog.info? 36).map (fun i => (i.zero, i.size, i.bytes)) = some (some (.agg #[.string ⟨#[]⟩, .string ⟨#[]⟩]), 2, 32) := by kernel_rfl
theorem World.ownsRow.prd {w : World} {base n cap : Nat} {A : Option Addr} {l : List Pr} (hl : l.length = n) (h : w.ownsRow base 36 2 (.slice A n cap) n (prCs l n)) : PRd w A n l := by
  refine ⟨hl, fun hn => ?_⟩
  rcases h.2 with ⟨_, h0⟩ | ⟨g, cp, cur, hv, _⟩
  · omega
  · injection hv with h1
    subst h1
    refine ⟨g, 0, rfl, fun i j hi hj => ?_⟩
    have := h.cells (g := g) rfl (i * 2 + j) (prF l i j) (by
      rw [prCs_at l n _ (by omega), show (i * 2 + j) / 2 = i by omega, show (i * 2 + j) % 2 = j by omega])
    rw [Addr.add_mid] at this
    rw [show 0 + i * 2 + j = 0 + (i * 2 + j) by omega]
    exact this
set_option maxRecDepth 100000 in
theorem own_any {w : World} {A : Option Addr} {n c : Nat} {l : List Pr} (h : PRd w A n l) (hn : n ≤ 1048576) : Calls Try.prog 10 #[.slice A n c] w fun e w' => ∃ A' c', e = .returned (.slice A' n c') ∧ n ≤ c' ∧ PRd w' A' n l ∧ Ext w w' := by
  have HL := Lib.hid h.1
  by_cases h0 : n = 0
  · subst h0
    have hnil : ∀ w', Ext w w' → PRd w' none 0 l := fun w' _ => ⟨HL.out, FRd.nil _ _ _ _⟩
    have HN := Lib.hid hnil
    clear hnil h
    rcases A with _ | a
    all_goals
      go_enter Try.func10, Try.ntmps10
      go_wp2
      go_ret
      exact ⟨none, 0, rfl, Nat.le_refl _, HN.out _ (Ext.refl w), Ext.refl w⟩
  · obtain ⟨i0, hi0, hz0, hz1, hz2⟩ := info_parts infoPr
    obtain ⟨g, o, rfl, hcell⟩ := h.2.at_ (by omega) (by omega)
    have HC := Lib.hid hcell
    clear hcell
    go_enter Try.func10, Try.ntmps10
    go_wp2_with (at_builtin; refine wpList_append_lies _ rfl _ _ 22 rfl w.heap.size 36 i0 _ 2 32 Try.underlying22 hi0 hz0 hz1 hz2 rfl (by decide) (.slice none 0 0) 0 [] rfl (World.ownsRow_nil _ _ _ _) ⟨g, o, none⟩ n c (prCs l n) rfl (prCs_len l n) (fun j u hj => by
      have hj2 : j < n * 2 := by
        rcases Nat.lt_or_ge j (n * 2) with h1 | h1
        · exact h1
        · rw [List.getElem?_eq_none (by rw [prCs_len]; exact h1)] at hj; cases hj
      rw [prCs_at l n j hj2] at hj
      cases hj
      have := HC.out (j / 2) (j % 2) (by omega) (by omega)
      rw [Addr.add_mid]
      rw [show o + j / 2 * 2 + j % 2 = o + j by omega] at this
      exact this) (prCs_one l n) (by omega) (by unfold maxLen; omega) (by omega) (Nat.le_refl _) _ rfl ?_; intro g2 cap w1 hown hgrow _ _)
    go_wp2
    go_ret
    have hcap : n ≤ cap := by
      rcases hown.2 with ⟨_, h1⟩ | ⟨_, cp, _, hv, _, _, h1, _⟩
      · omega
      · injection hv with _ _ h2
        omega
    have hown2 : w1.ownsRow w.heap.size 36 2 (.slice (some ⟨g2, 0, none⟩) n cap) n (prCs l n) := by
      have := hown
      rw [Nat.zero_add, List.nil_append] at this
      exact this
    refine ⟨_, cap, rfl, hcap, World.ownsRow.prd HL.out hown2, ?_⟩
    exact (Ext.refl w).grown hgrow (fun k hk => by cases hk)

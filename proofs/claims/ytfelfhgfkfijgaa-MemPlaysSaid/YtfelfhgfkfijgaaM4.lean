import Derived.Test.YtfelfhgfkfijgaaM3
import Derived.Lib.LazyBuf
namespace Go.Proofs.Ytfelfhgfkfijgaa
open Go.RowKit Go.Nb
set_option maxRecDepth 100000 in
theorem clone_any {w : World} {A : Option Addr} {n c : Nat} {l : List Pr} (h : PRd w A n l) (hn : n ≤ 1048576) (hA : A = none → c = 0) : Calls Try.prog 24 #[.slice A n c] w fun e w' => ∃ A' c', e = .returned (.slice A' n c') ∧ w'.ownsRow w.heap.size 30 2 (.slice A' n c') n (prCs l n) ∧ Ext w w' := by
  have HL := Lib.hid h.1
  have hqn := fun (w : World) (a : Option Addr) (m k : Nat) => Go.run_eql_slice_nil (P := Try.prog) w 22 30 a m k Try.underlying22
  rcases A with _ | ⟨g, o, sp⟩
  · have hn0 : n = 0 := by
      rcases Nat.eq_zero_or_pos n with h0 | h0
      · exact h0
      · obtain ⟨g, o, ha, _⟩ := h.2 h0
        cases ha
    obtain rfl := hA rfl
    subst hn0
    have hcs : prCs l 0 = [] := rfl
    rw [hcs]
    clear hA hcs
    go_enter Try.func24, Try.ntmps24
    go_wp2
    go_ret
    exact ⟨none, 0, rfl, World.ownsRow_nil _ _ _ _, Ext.refl w⟩
  · clear hA
    by_cases h0 : n = 0
    · subst h0
      have hcs : prCs l 0 = [] := rfl
      rw [hcs]
      have HO := Lib.hid (owns_empty w w.heap.size 30 2 (Nat.le_refl _))
      clear hcs
      go_enter Try.func24, Try.ntmps24
      go_wp2
      go_ret
      exact ⟨_, 0, rfl, HO.out, (Ext.refl w).alloc _⟩
    · obtain ⟨i0, hi0, hz0, hz1, hz2⟩ := info_parts infoPr
      obtain ⟨g', o', hAA, hcell⟩ := h.2.at_ (by omega) (by omega)
      cases hAA
      have hE0 := (Ext.refl w).alloc (.cells #[] 30)
      have HC := Lib.hid (fun i j hi hj => hE0.cellv (hcell i j hi hj))
      have HO := Lib.hid (owns_empty w w.heap.size 30 2 (Nat.le_refl _))
      have HE0 := Lib.hid hE0
      clear hcell hE0
      go_enter Try.func24, Try.ntmps24
      go_wp2_with (at_builtin; refine wpList_append_lies _ rfl _ _ 22 rfl w.heap.size 30 i0 _ 2 32 Try.underlying22 hi0 hz0 hz1 hz2 rfl (by decide) (.slice (some ⟨w.heap.size, 0, none⟩) 0 0) 0 [] rfl HO.out ⟨g, o, none⟩ n c (prCs l n) rfl (prCs_len l n) (fun j u hj => by
        have hj2 : j < n * 2 := by
          rcases Nat.lt_or_ge j (n * 2) with h1 | h1
          · exact h1
          · rw [List.getElem?_eq_none (by rw [prCs_len]; exact h1)] at hj; cases hj
        rw [prCs_at l n j hj2] at hj
        cases hj
        have := HC.out (j / 2) (j % 2) (by omega) (by omega)
        rw [Addr.add_mid]
        rw [show o + j / 2 * 2 + j % 2 = o + j by omega] at this
        exact this) (prCs_one l n) (by omega) (by unfold maxLen; omega) (by omega) (by simp) _ rfl ?_; intro g2 cap w1 hown hgrow _ _)
      go_ret
      have hown2 : w1.ownsRow w.heap.size 30 2 (.slice (some ⟨g2, 0, none⟩) n cap) n (prCs l n) := by
        have := hown
        rw [Nat.zero_add, List.nil_append] at this
        exact this
      exact ⟨_, cap, rfl, hown2, HE0.out.grown hgrow (fun k hk => by cases hk; exact Nat.le_refl _)⟩

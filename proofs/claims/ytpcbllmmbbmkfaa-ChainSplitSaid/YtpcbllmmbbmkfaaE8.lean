import Derived.Test.YtpcbllmmbbmkfaaE7
import Derived.Lib.LazyBuf
import Derived.Deep.AppendLies
namespace Go.Proofs.Ytpcbllmmbbmkfaa
open Go.RowKit
theorem infoPc : (Try.prog.info? 39).map (fun i => (i.zero, i.size, i.bytes)) = some (some (.agg #[.int .i64 0, .int .u64 0, .int .i64 0]), 3, 24) := by kernel_rfl
theorem infoRf : (Try.prog.info? 36).map (fun i => (i.zero, i.size, i.bytes)) = some (some (.agg #[.int .i64 0, .slice none 0 0]), 2, 32) := by kernel_rfl
theorem cell_heap {w : World} {g : Nat} {cur : Array Value} {t : TypeId} {fz : Nat × Nat} (h : w.heap[g]? = some (.cells cur t fz)) (j : Nat) : w.cell? ⟨g, j, none⟩ = cur[j]? := by simp [World.cell?, h]
theorem own_rd {w : World} {base n c size : Nat} {e : TypeId} {A : Option Addr} {xs : List Value} (h : w.ownsRow base e size (.slice A n c) n xs) : Rd w A (n * size) xs := by
  refine ⟨h.1, fun hn => ?_⟩
  rcases h.2 with ⟨h1, h0⟩ | ⟨g, cap, cur, hv, h1, h2, h3, h4, h5, h6⟩
  · subst h0; omega
  · injection hv with e1 e2 e3
    refine ⟨g, 0, e1, fun i v hi => ?_⟩
    rw [Nat.zero_add, cell_heap h2, ← Array.getElem?_toList]
    rw [← h6, List.getElem?_take] at hi
    split at hi
    · exact hi
    · cases hi
theorem own_nil {w : World} {base n c size : Nat} {e : TypeId} {A : Option Addr} {xs : List Value} (h : w.ownsRow base e size (.slice A n c) n xs) : A = none → c = 0 := by
  rintro rfl
  rcases h.2 with ⟨h1, h0⟩ | ⟨g, cap, cur, hv, h1, h2, h3, h4, h5, h6⟩
  · injection h1
  · injection hv with e1; cases e1
theorem own_cap {w : World} {base n c size : Nat} {e : TypeId} {A : Option Addr} {xs : List Value} (h : w.ownsRow base e size (.slice A n c) n xs) : n ≤ c := by
  rcases h.2 with ⟨h1, h0⟩ | ⟨g, cap, cur, hv, h1, h2, h3, h4, h5, h6⟩
  · omega
  · injection hv with e1 e2 e3
    omega
set_option maxRecDepth 100000 in
theorem clonePc {w : World} {A : Option Addr} {n c : Nat} {xs : List Value} (h : Rd w A (n * 3) xs) (hx1 : ∀ u ∈ xs, u.oneCell' = true) (hn : n ≤ 1048576) (hA : A = none → c = 0) : Calls Try.prog 49 #[.slice A n c] w fun e w' => ∃ A' c', e = .returned (.slice A' n c') ∧ w'.ownsRow w.heap.size 39 3 (.slice A' n c') n xs ∧ Ext w w' := by
  have HL := Lib.hid h.1
  have hqn := fun (w : World) (a : Option Addr) (m k : Nat) => Go.run_eql_slice_nil (P := Try.prog) w 34 39 a m k Try.underlying34
  rcases A with _ | ⟨g, o, sp⟩
  · have hn0 : n = 0 := by
      rcases Nat.eq_zero_or_pos n with h0 | h0
      · exact h0
      · obtain ⟨g, o, ha, _⟩ := h.2 (by omega)
        cases ha
    obtain rfl := hA rfl
    subst hn0
    have hcs : xs = [] := List.eq_nil_of_length_eq_zero (by rw [HL.out, Nat.zero_mul])
    rw [hcs]
    clear hA hcs
    go_enter Try.func49, Try.ntmps49
    go_wp2
    go_ret
    exact ⟨none, 0, rfl, World.ownsRow_nil _ _ _ _, Ext.refl w⟩
  · clear hA
    by_cases h0 : n = 0
    · subst h0
      have hcs : xs = [] := List.eq_nil_of_length_eq_zero (by rw [HL.out, Nat.zero_mul])
      rw [hcs]
      have HO := Lib.hid (owns_empty w w.heap.size 39 3 (Nat.le_refl _))
      clear hcs
      go_enter Try.func49, Try.ntmps49
      go_wp2
      go_ret
      exact ⟨_, 0, rfl, HO.out, (Ext.refl w).alloc _⟩
    · obtain ⟨i0, hi0, hz0, hz1, hz2⟩ := info_parts infoPc
      obtain ⟨g', o', hAA, hcell⟩ := h.2 (by omega)
      cases hAA
      have hE0 := (Ext.refl w).alloc (.cells #[] 39)
      have HC := Lib.hid (fun i v hi => hE0.cellv (hcell i v hi))
      have HO := Lib.hid (owns_empty w w.heap.size 39 3 (Nat.le_refl _))
      have HE0 := Lib.hid hE0
      clear hcell hE0
      go_enter Try.func49, Try.ntmps49
      go_wp2_with (at_builtin; refine wpList_append_lies _ rfl _ _ 34 rfl w.heap.size 39 i0 _ 3 24 Try.underlying34 hi0 hz0 hz1 hz2 rfl (by decide) (.slice (some ⟨w.heap.size, 0, none⟩) 0 0) 0 [] rfl HO.out ⟨g, o, none⟩ n c xs rfl HL.out (fun j u hj => by
        rw [Addr.add_mid]
        exact HC.out j u hj) hx1 (by omega) (by unfold maxLen; omega) (by omega) (by simp) _ rfl ?_; intro g2 cap w1 hown hgrow _ _)
      go_ret
      have hown2 : w1.ownsRow w.heap.size 39 3 (.slice (some ⟨g2, 0, none⟩) n cap) n xs := by
        have := hown
        rw [Nat.zero_add, List.nil_append] at this
        exact this
      exact ⟨_, cap, rfl, hown2, HE0.out.grown hgrow (fun k hk => by cases hk; exact Nat.le_refl _)⟩
set_option maxRecDepth 100000 in
theorem cloneRf {w : World} {A : Option Addr} {n c : Nat} {xs : List Value} (h : Rd w A (n * 2) xs) (hx1 : ∀ u ∈ xs, u.oneCell' = true) (hn : n ≤ 1048576) (hA : A = none → c = 0) : Calls Try.prog 29 #[.slice A n c] w fun e w' => ∃ A' c', e = .returned (.slice A' n c') ∧ w'.ownsRow w.heap.size 36 2 (.slice A' n c') n xs ∧ Ext w w' := by
  have HL := Lib.hid h.1
  have hqn := fun (w : World) (a : Option Addr) (m k : Nat) => Go.run_eql_slice_nil (P := Try.prog) w 22 36 a m k Try.underlying22
  rcases A with _ | ⟨g, o, sp⟩
  · have hn0 : n = 0 := by
      rcases Nat.eq_zero_or_pos n with h0 | h0
      · exact h0
      · obtain ⟨g, o, ha, _⟩ := h.2 (by omega)
        cases ha
    obtain rfl := hA rfl
    subst hn0
    have hcs : xs = [] := List.eq_nil_of_length_eq_zero (by rw [HL.out, Nat.zero_mul])
    rw [hcs]
    clear hA hcs
    go_enter Try.func29, Try.ntmps29
    go_wp2
    go_ret
    exact ⟨none, 0, rfl, World.ownsRow_nil _ _ _ _, Ext.refl w⟩
  · clear hA
    by_cases h0 : n = 0
    · subst h0
      have hcs : xs = [] := List.eq_nil_of_length_eq_zero (by rw [HL.out, Nat.zero_mul])
      rw [hcs]
      have HO := Lib.hid (owns_empty w w.heap.size 36 2 (Nat.le_refl _))
      clear hcs
      go_enter Try.func29, Try.ntmps29
      go_wp2
      go_ret
      exact ⟨_, 0, rfl, HO.out, (Ext.refl w).alloc _⟩
    · obtain ⟨i0, hi0, hz0, hz1, hz2⟩ := info_parts infoRf
      obtain ⟨g', o', hAA, hcell⟩ := h.2 (by omega)
      cases hAA
      have hE0 := (Ext.refl w).alloc (.cells #[] 36)
      have HC := Lib.hid (fun i v hi => hE0.cellv (hcell i v hi))
      have HO := Lib.hid (owns_empty w w.heap.size 36 2 (Nat.le_refl _))
      have HE0 := Lib.hid hE0
      clear hcell hE0
      go_enter Try.func29, Try.ntmps29
      go_wp2_with (at_builtin; refine wpList_append_lies _ rfl _ _ 22 rfl w.heap.size 36 i0 _ 2 32 Try.underlying22 hi0 hz0 hz1 hz2 rfl (by decide) (.slice (some ⟨w.heap.size, 0, none⟩) 0 0) 0 [] rfl HO.out ⟨g, o, none⟩ n c xs rfl HL.out (fun j u hj => by
        rw [Addr.add_mid]
        exact HC.out j u hj) hx1 (by omega) (by unfold maxLen; omega) (by omega) (by simp) _ rfl ?_; intro g2 cap w1 hown hgrow _ _)
      go_ret
      have hown2 : w1.ownsRow w.heap.size 36 2 (.slice (some ⟨g2, 0, none⟩) n cap) n xs := by
        have := hown
        rw [Nat.zero_add, List.nil_append] at this
        exact this
      exact ⟨_, cap, rfl, hown2, HE0.out.grown hgrow (fun k hk => by cases hk; exact Nat.le_refl _)⟩
theorem pcc_one (l : List Pc) : ∀ u ∈ l.flatMap pcc, u.oneCell' = true := by
  intro u hu
  obtain ⟨p, _, hp⟩ := List.mem_flatMap.mp hu
  simp only [pcc, List.mem_cons, List.not_mem_nil, or_false] at hp
  rcases hp with rfl | rfl | rfl <;> rfl
/-- Pieces that were copied. -/
theorem clonePs {w : World} {A : Option Addr} {c : Nat} {ps : List Pc} (h : PcRd w A ps.length ps) (hn : ps.length ≤ 1048576) (hA : A = none → c = 0) : Calls Try.prog 49 #[.slice A ps.length c] w fun e w' => ∃ A' c', e = .returned (.slice A' ps.length c') ∧ PsV w' (.slice A' ps.length c') ps ∧ Ext w w' := by
  refine (clonePc h.2 (pcc_one ps) hn hA).mono ?_
  rintro e w' ⟨A', c', h1, h2, h3⟩
  exact ⟨A', c', h1, ⟨A', c', rfl, ⟨rfl, own_rd h2⟩, own_cap h2, own_nil h2⟩, h3⟩

import Derived.Test.YtfelfhgfkfijgaaM19
import Derived.Test.YtfelfhgfkfijgaaM20
namespace Go.Proofs.Ytfelfhgfkfijgaa
open Go.RowKit Go.Nb Go.Maps
theorem run_copy0 (w : World) (A : Option Addr) (c : Nat) (ty : TypeId) : (Builtin.append_ #[22, 22] ty #[.slice none 0 0, .slice A 0 c]).run Try.prog w = .ok (.slice none 0 0) w := by
  obtain ⟨i0, hi0, _, _, _⟩ := info_parts infoPr
  rcases A with _ | a
  · simp [Builtin.append_, run_underlying Try.underlying22, sizeOf, typeInfo, hi0, Builtin.lenOf, Builtin.firstCells]
  · simp [Builtin.append_, run_underlying Try.underlying22, sizeOf, typeInfo, hi0, Builtin.lenOf, Builtin.firstCells, loadCells, loadCellsFrom]
theorem wp_copy {w : World} {o : Oper} {a : Act} {K : Act → World → Prop} {Q : Exit → Act → World → Prop} (s x : Operand)
    (ho : o.op = .call { callee := .builtin .append, args := #[s, x], argTypes := #[22, 22] }) (hs : a.eval s = .slice none 0 0)
    (A : Option Addr) (n c : Nat) (hx : a.eval x = .slice A n c) (l : List Pr) (hP : PRd w A n l) (hn : n ≤ 1048576)
    (h : ∀ B cap w', PRd w' B n l → Ext w w' → K (a.put o.dst (.slice B n cap)) w') : o.wp Try.prog a w K Q := by
  have hlen := hP.1
  by_cases h0 : n = 0
  · subst h0
    have hrun := run_copy0 w A c o.type
    unfold Oper.wp execOp
    simp only [ho, resolve, invoke, builtin, Sem.run_bind, Sem.run_pure, Result.andThen_ok, List.map_toArray, List.map_cons, List.map_nil, hs, hx, hrun]
    have hl : l = [] := List.eq_nil_of_length_eq_zero hlen
    subst hl
    exact h none 0 w (prd_nil w) (Ext.refl w)
  · obtain ⟨ga, oa, hAA, hcell⟩ := hP.2.at_ (by omega) (by omega)
    subst hAA
    obtain ⟨i0, hi0, hz0, hz1, hz2⟩ := info_parts infoPr
    refine wp_append_lies w s x 22 ho w.heap.size 30 i0 _ 2 32 Try.underlying22 hi0 hz0 hz1 hz2 rfl (by decide) (.slice none 0 0) 0 [] hs (World.ownsRow_nil _ _ _ _) ⟨ga, oa, none⟩ n c (prCs l n) hx (prCs_len l n) (fun j u hj => ?_) (prCs_one l n) (by omega) (by unfold maxLen; omega) (by omega) (Nat.le_refl _) _ rfl ?_
    · have hj2 : j < n * 2 := by
        rcases Nat.lt_or_ge j (n * 2) with h1 | h1
        · exact h1
        · rw [List.getElem?_eq_none (by rw [prCs_len]; exact h1)] at hj; cases hj
      rw [prCs_at l n j hj2] at hj
      cases hj
      have := hcell (j / 2) (j % 2) (by omega) (by omega)
      rw [Addr.add_mid]
      rw [show oa + j / 2 * 2 + j % 2 = oa + j by omega] at this
      exact this
    · intro gr cap w5 hown5 hg5 _ _
      rw [Nat.zero_add, List.nil_append] at hown5
      rw [Nat.zero_add]
      exact h (some ⟨gr, 0, none⟩) cap w5 (World.ownsRow.prd (base := w.heap.size) (cap := cap) hlen hown5) ((Ext.refl w).grown hg5 (fun k hk => by cases hk))
theorem wpList_copy {w : World} {ops : Array Oper} {rest : List Oper} {o : Oper} {a : Act} {Q : Exit → Act → World → Prop} (hgd : o.guard = none) (s x : Operand)
    (ho : o.op = .call { callee := .builtin .append, args := #[s, x], argTypes := #[22, 22] }) (hs : a.eval s = .slice none 0 0)
    (A : Option Addr) (n c : Nat) (hx : a.eval x = .slice A n c) (l : List Pr) (hP : PRd w A n l) (hn : n ≤ 1048576)
    (h : ∀ B cap w', PRd w' B n l → Ext w w' → wpList Try.prog ops Q rest (a.put o.dst (.slice B n cap)) w') : wpList Try.prog ops Q (o :: rest) a w :=
  wpList_plain hgd fun _ hK => wp_copy s x ho hs A n c hx l hP hn fun B cap w' h1 h2 => hK _ _ (h B cap w' h1 h2)
theorem Turn.of_grown {w w' : World} {b : Nat} (h : w.grownBy w' (some b)) : Turn (· = b) w w' := ⟨h.os, h.tape, h.output, h.size, fun k hk hne => h.block k hk (fun e => hne (by injection e))⟩
theorem ownsMap_turn {w w' : World} {H : Nat → Prop} {k : TypeId} {R : Value → Option (DataW Unit × List MemPlace)} {b n : Nat} {D : DataW Unit} (h : w.ownsMap Try.prog k R b n D) (hT : Turn H w w') (hn : ¬ H b) : w'.ownsMap Try.prog k R b n D := by
  have hlt := h.lt
  obtain ⟨es, clock, hb, F, hs, hD⟩ := h
  exact ⟨es, clock, (hT.block b hlt hn).trans hb, F, hs, hD⟩
theorem ownsMap_ne_cells {w : World} {k : TypeId} {R : Value → Option (DataW Unit × List MemPlace)} {b n : Nat} {D : DataW Unit} (h : w.ownsMap Try.prog k R b n D) {t : TypeId} {g m : Nat} {f : Nat → Value} (hc : CellsT w t g m f) : g ≠ b := by
  rintro rfl
  obtain ⟨es, clock, hb, _⟩ := h
  obtain ⟨D, _, ⟨lo, hi, hb', _⟩, _⟩ := hc
  rw [hb] at hb'
  cases hb'
theorem ownsMap_ne_row {w : World} {k : TypeId} {R : Value → Option (DataW Unit × List MemPlace)} {b n : Nat} {D : DataW Unit} (h : w.ownsMap Try.prog k R b n D) {A : Option Addr} (hc : RowT w A) : ∀ a, A = some a → a.block ≠ b := by
  rintro a ha rfl
  obtain ⟨es, clock, hb, _⟩ := h
  obtain ⟨cs, fz, hb'⟩ := hc a ha
  rw [hb] at hb'
  cases hb'
/-- Where a map turns a mem stays. -/
theorem MemIs.mapT {w w' : World} {g b : Nat} {mo : Int} {l : List Pr} {k : TypeId} {R : Value → Option (DataW Unit × List MemPlace)} {n : Nat} {D : DataW Unit} (h : MemIs w g mo l) (hm : w.ownsMap Try.prog k R b n D) (hg : w.grownBy w' (some b)) : MemIs w' g mo l := by
  have hT := Turn.of_grown hg
  obtain ⟨A, c, a1, a2, a3, a4, a5⟩ := h
  have hr := ownsMap_ne_row hm a5
  refine ⟨A, c, hT.cellsT a1 (ownsMap_ne_cells hm a1), ⟨a2.1, fun h0 => ?_⟩, a3, a4, a5.turn hT hr⟩
  obtain ⟨gg, o, ha, hc⟩ := a2.2 h0
  exact ⟨gg, o, ha, fun i j hi hj => hT.cellv (hc i j hi hj) (hr ⟨gg, o, none⟩ ha)⟩
theorem MemIs.ne_map {w : World} {g b : Nat} {mo : Int} {l : List Pr} {k : TypeId} {R : Value → Option (DataW Unit × List MemPlace)} {n : Nat} {D : DataW Unit} (h : MemIs w g mo l) (hm : w.ownsMap Try.prog k R b n D) : g ≠ b := by
  obtain ⟨A, c, a1, _⟩ := h
  exact ownsMap_ne_cells hm a1
/-- Mem and map, as the walk has them. -/
def MSt (W : World) (w : World) (g b k : Nat) (mo : Int) (D : DataW Unit) (l : List Pr) : Prop :=
  MemIs w g mo l ∧ w.ownsMap Try.prog 9 (plainElem Try.prog 3) b k D ∧ Ext W w ∧ W.heap.size ≤ g ∧ W.heap.size ≤ b
theorem MSt.m {W : World} {w : World} {g b k : Nat} {mo : Int} {D : DataW Unit} {l : List Pr} (h : MSt W w g b k mo D l) : MemIs w g mo l := h.1
theorem MSt.o {W : World} {w : World} {g b k : Nat} {mo : Int} {D : DataW Unit} {l : List Pr} (h : MSt W w g b k mo D l) : w.ownsMap Try.prog 9 (plainElem Try.prog 3) b k D := h.2.1
theorem MSt.e {W : World} {w : World} {g b k : Nat} {mo : Int} {D : DataW Unit} {l : List Pr} (h : MSt W w g b k mo D l) : Ext W w := h.2.2.1
theorem MSt.ext {W : World} {w w' : World} {g b k : Nat} {mo : Int} {D : DataW Unit} {l : List Pr} (h : MSt W w g b k mo D l) (hE : Ext w w') : MSt W w' g b k mo D l :=
  ⟨h.1.ext hE, h.2.1.kept (grown_ext hE) (by simp), h.2.2.1.trans hE, h.2.2.2.1, h.2.2.2.2⟩
theorem MSt.mem {W : World} {w w' : World} {g b k : Nat} {mo : Int} {D : DataW Unit} {l l' : List Pr} (h : MSt W w g b k mo D l) (hM : MemIs w' g mo l') (hT : Turn (· = g) w w') : MSt W w' g b k mo D l' :=
  ⟨hM, ownsMap_turn h.2.1 hT (fun e => h.1.ne_map h.2.1 e.symm), hT.ext h.2.2.1 (fun k hk => by have := h.2.2.2.1; omega), h.2.2.2.1, h.2.2.2.2⟩
theorem MSt.map {W : World} {w w' : World} {g b k k' : Nat} {mo : Int} {D D' : DataW Unit} {l : List Pr} (h : MSt W w g b k mo D l) (hM : w'.ownsMap Try.prog 9 (plainElem Try.prog 3) b k' D') (hg : w.grownBy w' (some b)) : MSt W w' g b k' mo D' l :=
  ⟨h.1.mapT h.2.1 hg, hM, h.2.2.1.grown hg (fun k hk => by cases hk; exact h.2.2.2.2), h.2.2.2.1, h.2.2.2.2⟩
theorem MSt.made {W : World} {w : World} {g b k : Nat} {mo : Int} {D : DataW Unit} {l : List Pr} (h : MSt W w g b k mo D l) : MSt W (w.alloc (.map #[] 0)) g w.heap.size 0 mo (.map []) l :=
  ⟨h.1.ext ((Ext.refl w).alloc _), World.ownsMap_made _ _ _ _, h.2.2.1.alloc _, h.2.2.2.1, h.2.2.1.sz⟩
theorem len_size : ∀ l : List Pr, 4 * l.length ≤ sizeP l
  | [] => Nat.le_refl _
  | p :: l => by have := len_size l; rw [sizeP, List.length_cons]; omega
theorem key_size : ∀ (l : List Pr) (x : Pr), x ∈ l → x.k.length ≤ sizeP l
  | p :: l, x, h => by
    rw [sizeP]
    rcases List.mem_cons.mp h with rfl | h
    · omega
    · have := key_size l x h; omega
theorem getD_mem {l : List Pr} {i : Nat} (h : i < l.length) : l.getD i default ∈ l := by
  rw [List.getD_eq_getElem?_getD, List.getElem?_eq_getElem h]; exact List.getElem_mem h
end Go.Proofs.Ytfelfhgfkfijgaa

import Derived.Test.YtpengejnjmicnaaPre2
import Derived.Lib.AppendStr
namespace Go
open Go.RowKit
/-- The first n cells of a block are f 0, f 1, .. -/
def CellsAt (w : World) (g n : Nat) (f : Nat → Value) : Prop := ∃ (t : TypeId) (D : Array Value), n ≤ D.size ∧ BlkM w g t D ∧ ∀ j, j < n → D[j]? = some (f j)
section
variable {w w' : World} {g n : Nat} {f : Nat → Value}
theorem CellsAt.lt (h : CellsAt w g n f) : g < w.heap.size := by
  obtain ⟨t, D, _, hD, _⟩ := h
  exact hD.lt
theorem CellsAt.cell (h : CellsAt w g n f) (j : Nat) (hj : j < n) : w.cell? ⟨g, j, none⟩ = some (f j) := by
  obtain ⟨t, D, _, hD, hf⟩ := h
  rw [hD.cell, hf j hj]
theorem CellsAt.frozen (h : CellsAt w g n f) (j : Nat) (hj : j < n) : w.frozen? ⟨g, j, none⟩ = false := by
  obtain ⟨t, D, hn, hD, _⟩ := h
  exact hD.frozen j (by omega)
theorem CellsAt.set_ (hb : CellsAt w g n f) {h : Nat → Value} (i : Nat) (v : Value) (hh : ∀ j, j < n → h j = if j = i then v else f j) : CellsAt (w.setCell ⟨g, i, none⟩ v) g n h := by
  obtain ⟨t, D, hn, hD, hf⟩ := hb
  refine ⟨t, D.setIfInBounds i v, by rw [Array.size_setIfInBounds]; exact hn, hD.set_ _ _, fun j hj => ?_⟩
  rw [Array.getElem?_setIfInBounds]
  by_cases e : i = j
  · subst e; rw [if_pos rfl, if_pos (by omega), hh i hj, if_pos rfl]
  · rw [if_neg e, hf j hj, hh j hj, if_neg (fun h => e h.symm)]
theorem CellsAt.congr (hb : CellsAt w g n f) {h : Nat → Value} (hh : ∀ j, j < n → h j = f j) : CellsAt w g n h := by
  obtain ⟨t, D, hn, hD, hf⟩ := hb
  exact ⟨t, D, hn, hD, fun j hj => by rw [hf j hj, hh j hj]⟩
theorem CellsAt.heap (hb : CellsAt w g n f) (e : w'.heap[g]? = w.heap[g]?) : CellsAt w' g n f := by
  obtain ⟨t, D, hn, hD, hf⟩ := hb
  exact ⟨t, D, hn, hD.of_heap e, hf⟩
theorem CellsAt.ext (hb : CellsAt w g n f) (e : Ext w w') : CellsAt w' g n f := by
  obtain ⟨t, D, hn, hD, hf⟩ := hb
  exact ⟨t, D, hn, hD.ext e, hf⟩
theorem CellsAt.drew (hb : CellsAt w g n f) : CellsAt w.drew g n f := hb
theorem CellsAt.drewN (hb : CellsAt w g n f) (k : Nat) : CellsAt (w.drewN k) g n f := hb
theorem CellsAt.far (hb : CellsAt w g n f) {p : Addr} (hp : g ≠ p.block) (u : Value) : CellsAt (w.setCell p u) g n f := hb.heap (Below.heap_setCell w p u g hp)
theorem CellsAt.only {k : Nat} (hb : CellsAt w k n f) (h : OnlyB g w w') (hne : k ≠ g) : CellsAt w' k n f := hb.heap (h.block k hb.lt (by simpa using hne))
theorem CellsAt.rd (hb : CellsAt w g n f) (xs : List Value) (hl : xs.length = n) (hx : ∀ i v, xs[i]? = some v → f i = v) : Rd w (some ⟨g, 0, none⟩) n xs := by
  refine ⟨hl, fun _ => ⟨g, 0, rfl, fun i v hi => ?_⟩⟩
  have hil : i < xs.length := by
    rcases Nat.lt_or_ge i xs.length with h | h
    · exact h
    · rw [List.getElem?_eq_none h] at hi; cases hi
  rw [Nat.zero_add, hb.cell i (by omega), hx i v hi]
end
theorem World.ownsRow.cells1 {w : World} {base : Nat} {e : TypeId} {g n cap : Nat} {xs : List Value} (h : w.ownsRow base e 1 (.slice (some ⟨g, 0, none⟩) n cap) n xs) : CellsAt w g n (fun i => xs.getD i undef) ∧ base ≤ g := by
  rcases h.2 with ⟨h0, _⟩ | ⟨g', c', cur, hv, hb, hg, hc1, _, hs, ht⟩
  · cases h0
  · injection hv with h1 h2 h3
    injection h1 with h1; injection h1 with h1
    subst h1; subst h3
    refine ⟨⟨e, cur, by omega, ⟨0, 0, hg, .inl (Nat.le_refl _)⟩, fun j hj => ?_⟩, hb⟩
    show cur[j]? = some (xs.getD j undef)
    rw [← ht, List.getD_eq_getElem?_getD, List.getElem?_take, if_pos (by omega), Array.getElem?_toList]
    rw [Array.getElem?_eq_getElem (by omega)]; rfl
/-! stores of many cells into a block whose marks touch none of its cells -/
theorem run_storeCells_m (P : Program) (g o : Nat) (t : TypeId) : ∀ (vs : List Value) (i : Nat) (cur : Array Value) (w : World), BlkM w g t cur → o + i + vs.length ≤ cur.size → (∀ v ∈ vs, v.oneCell' = true) →
    ∃ (w' : World) (D : Array Value), (storeCells ⟨g, o, none⟩ vs i).run P w = .ok () w' ∧ D.size = cur.size ∧ BlkM w' g t D ∧ OnlyB g w w' ∧ ∀ j, D[j]? = if o + i ≤ j ∧ j < o + i + vs.length then vs[j - (o + i)]? else cur[j]?
  | [], i, cur, w, hb, _, _ => ⟨w, cur, rfl, rfl, hb, OnlyB.refl _ _, fun j => by rw [if_neg (by simp)]⟩
  | v :: rest, i, cur, w, hb, hl, h1 => by
    simp only [List.length_cons] at hl
    have hi : o + i < cur.size := by omega
    have hcell : w.cell? ⟨g, o + i, none⟩ = some (cur[o + i]'hi) := by rw [hb.cell, Array.getElem?_eq_getElem hi]
    have hfro := hb.frozen (o + i) hi
    have hst : (store ((⟨g, o, none⟩ : Addr).add i) v).run P w = .ok () (w.setCell ⟨g, o + i, none⟩ v) := by
      rw [Addr.add_mid, run_store P w _ v _ (h1 v (by simp)), hcell]
      simp [hfro]
    obtain ⟨w', D, hr, hs, hbD, hO, hat⟩ := run_storeCells_m P g o t rest (i + 1) (cur.setIfInBounds (o + i) v) (w.setCell ⟨g, o + i, none⟩ v) (hb.set_ _ _) (by rw [Array.size_setIfInBounds]; omega) (fun x hx => h1 x (by simp [hx]))
    refine ⟨w', D, ?_, by rw [hs, Array.size_setIfInBounds], hbD, (OnlyB.refl g w).setCell _ _ |>.trans hO, fun j => ?_⟩
    · simp only [storeCells, Sem.run_bind, hst, Result.andThen_ok, hr]
    · rw [hat j]
      by_cases h : o + (i + 1) ≤ j ∧ j < o + (i + 1) + rest.length
      · rw [if_pos h, if_pos (by simp only [List.length_cons]; omega)]
        have e : j - (o + i) = (j - (o + (i + 1))) + 1 := by omega
        rw [e, List.getElem?_cons_succ]
      · rw [if_neg h, Array.getElem?_setIfInBounds]
        by_cases e : o + i = j
        · subst e
          rw [if_pos rfl, if_pos hi, if_pos (by simp only [List.length_cons]; omega), Nat.sub_self, List.getElem?_cons_zero]
        · rw [if_neg e, if_neg (by simp only [List.length_cons]; omega)]
/-- Bytes f, and behind them those of a text. -/
def catB (n : Nat) (f : Nat → Nat) (s : ByteArray) (i : Nat) : Nat := if i < n then f i else bn s (i - n)
theorem strCells_at (s : ByteArray) (j : Nat) (hj : j < s.size) : (Lib.strCells s)[j]? = some (.int .u8 (bn s j : Int)) := by
  have hl : j < s.data.toList.length := hj
  unfold Lib.strCells bn
  rw [List.getElem?_map, List.getD_eq_getElem?_getD, List.getElem?_eq_getElem hl]; rfl
/-- 'append(b, s...)' onto bytes that the call made, s a text: where it is then, what has turned. -/
theorem run_app_str {P : Program} (w : World) (t u ty e : TypeId) (ht : P.underlying t = some (.slice e)) (hu : P.underlying u = some .string) (hi : (P.info? e).map (fun i => (i.zero, i.size, i.bytes)) = some (some (.int .u8 0), 1, 1))
    (g n : Nat) (D : Array Value) (f : Nat → Nat) (hb : BlkM w g e D) (hn : n ≤ D.size) (hf : ∀ j, j < n → D[j]? = some (u8c f j)) (s : ByteArray) (hs : n + s.size ≤ 1048576) :
    ∃ g' cap w', (Builtin.append_ #[t, u] ty #[.slice (some ⟨g, 0, none⟩) n D.size, .string s]).run P w = .ok (.slice (some ⟨g', 0, none⟩) (n + s.size) cap) w' ∧ BytesAt w' g' (n + s.size) (catB n f s) ∧ (g' = g ∨ g' = w.heap.size) ∧ OnlyB g w w' ∧ n + s.size ≤ cap := by
  obtain ⟨i0, hi0, hz0, hz1, hz2⟩ := info_parts hi
  by_cases hroom : n + s.size ≤ D.size
  · have hff := Lib.run_firstCells_string (P := P) w 1 s
    obtain ⟨w', D', hr, hs', hb', hO, hat⟩ := run_storeCells_m P g n e (Lib.strCells s) 0 D w hb (by rw [Lib.strCells_length]; omega) (Lib.strCells_oneCell s)
    refine ⟨g, D.size, w', ?_, ⟨e, D', by omega, hb', fun j hj => ?_⟩, .inl rfl, hO, hroom⟩
    · simp [Builtin.append_, run_underlying ht, run_underlying hu, sizeOf, typeInfo, hi0, hz1, Builtin.lenOf, hroom, hff, Addr.add_lit, hr]
    · rw [hat j, Lib.strCells_length]
      unfold u8c catB
      by_cases h : j < n
      · rw [if_neg (by omega), if_pos h, hf j h]; rfl
      · rw [if_pos (by omega), if_neg h, Nat.add_zero, strCells_at s (j - n) (by omega)]
  · have hb48 : Builtin.nextslicecap (n + s.size) D.size * i0.bytes ≤ 281474976710656 := by
      have h1 := nextslicecap_le (show D.size < n + s.size by omega)
      rw [hz2]; omega
    have hr := Lib.run_append_grow_string (P := P) w t u ty e i0 (.int .u8 0) ht hu hi0 hz0 ⟨g, 0, none⟩ n D.size (D.toList.take n) (by rw [List.length_take, Array.length_toList, hz1]; omega) (fun j v hv => by
      rw [List.getElem?_take] at hv
      by_cases hj : j < n
      · rw [if_pos hj, Array.getElem?_toList] at hv
        rw [Addr.add_mid, hb.cell, Nat.zero_add, hv]
      · rw [if_neg hj] at hv; cases hv) s (by omega) (by omega) hb48
    have hlow := grownCap_ge w (n + s.size) D.size e
    generalize grownCap w (n + s.size) D.size e = C at *
    refine ⟨_, C, _, hr, ⟨e, _, ?_, ⟨0, 0, heap_alloc_new w.drew _, .inl (Nat.le_refl _)⟩, fun j hj => ?_⟩, .inr rfl, ((OnlyB.refl g w).drew).alloc _, hlow⟩
    · simp [Lib.strCells_length, size_zeroCells]; omega
    · unfold u8c catB
      have hlt : (D.toList.take n).length = n := by rw [List.length_take, Array.length_toList]; omega
      rw [Array.getElem?_append_left (by simp [Lib.strCells_length]; omega)]
      by_cases h : j < n
      · rw [Array.getElem?_append_left (by simp; omega), if_pos h]
        simp only [List.getElem?_toArray]
        rw [List.getElem?_take, if_pos h, Array.getElem?_toList, hf j h]; rfl
      · rw [Array.getElem?_append_right (by simp; omega), if_neg h]
        simp only [List.getElem?_toArray, List.size_toArray, hlt]
        exact strCells_at s (j - n) (by omega)
section
variable {P : Program} {ops : Array Oper} {rest : List Oper} {a : Act} {w : World} {Q : Exit → Act → World → Prop} {K : Act → World → Prop} {E : Prop}
theorem wp_app_str {o : Oper} (sl x : Operand) (t u e : TypeId) (ho : o.op = .call { callee := .builtin .append, args := #[sl, x], argTypes := #[t, u] })
    (ht : P.underlying t = some (.slice e)) (hu : P.underlying u = some .string) (hi : (P.info? e).map (fun i => (i.zero, i.size, i.bytes)) = some (some (.int .u8 0), 1, 1))
    (g n : Nat) (D : Array Value) (f : Nat → Nat) (hsl : a.eval sl = .slice (some ⟨g, 0, none⟩) n D.size) (hb : BlkM w g e D) (hn : n ≤ D.size) (hf : ∀ j, j < n → D[j]? = some (u8c f j)) (s : ByteArray) (hx : a.eval x = .string s) (hs : n + s.size ≤ 1048576)
    (h : ∀ g' cap w', BytesAt w' g' (n + s.size) (catB n f s) → (g' = g ∨ g' = w.heap.size) → OnlyB g w w' → n + s.size ≤ cap → K (a.put o.dst (.slice (some ⟨g', 0, none⟩) (n + s.size) cap)) w') : o.wp P a w K Q := by
  obtain ⟨g', cap, w', hr, h1, h2, h3, h4⟩ := run_app_str (P := P) w t u o.type e ht hu hi g n D f hb hn hf s hs
  unfold Oper.wp execOp
  simp only [ho, resolve, invoke, builtin, Sem.run_bind, Sem.run_pure, Result.andThen_ok, List.map_toArray, List.map_cons, List.map_nil, hsl, hx, hr]
  exact h g' cap w' h1 h2 h3 h4
theorem step_app_str {o : Oper} (hgd : o.guard = none) (sl x : Operand) (t u e : TypeId) (ho : o.op = .call { callee := .builtin .append, args := #[sl, x], argTypes := #[t, u] })
    (ht : P.underlying t = some (.slice e)) (hu : P.underlying u = some .string) (hi : (P.info? e).map (fun i => (i.zero, i.size, i.bytes)) = some (some (.int .u8 0), 1, 1))
    (g n : Nat) (D : Array Value) (cp : Nat) (hcp : D.size = cp) (f : Nat → Nat) (hsl : a.eval sl = .slice (some ⟨g, 0, none⟩) n cp) (hb : BlkM w g e D) (hn : n ≤ D.size) (hf : ∀ j, j < n → D[j]? = some (u8c f j)) (s : ByteArray) (hx : a.eval x = .string s) (hs : n + s.size ≤ 1048576)
    (h : ∀ g' cap w', BytesAt w' g' (n + s.size) (catB n f s) → (g' = g ∨ g' = w.heap.size) → OnlyB g w w' → n + s.size ≤ cap → K (a.put o.dst (.slice (some ⟨g', 0, none⟩) (n + s.size) cap)) w') :
    if Region.wanted o (yielded ops a.tmps) = true then Oper.wp P o a w K Q else E := by
  subst hcp
  rw [if_pos (by simp [Region.wanted, hgd])]
  exact wp_app_str sl x t u e ho ht hu hi g n D f hsl hb hn hf s hx hs h
theorem step_str_bytes {o : Oper} (hgd : o.guard = none) (src dst e : TypeId) (x : Operand) (ho : o.op = .convert src dst x)
    (hs : P.underlying src = some .string) (hd : P.underlying dst = some (.slice e)) (he : P.underlying e = some (.int .u8)) (s : ByteArray) (hx : a.eval x = .string s)
    (h : ∀ C w', s.size ≤ C.size → BlkM w' w.heap.size e C → (∀ j, j < s.size → C[j]? = some (u8c (bn s) j)) → Ext w w' →
      K (a.put o.dst (.slice (some ⟨w.heap.size, 0, none⟩) s.size C.size)) w') :
    if Region.wanted o (yielded ops a.tmps) = true then Oper.wp P o a w K Q else E := by
  rw [if_pos (by simp [Region.wanted, hgd])]
  have hrun := Lib.run_convert_string_bytes (P := P) w src dst e s hs hd he
  have hc := grownCap_ge w s.size 0 e
  have hsz : (Lib.bytesCells w e s).size = grownCap w s.size 0 e := by
    have : s.data.size = s.size := rfl
    simp [Lib.bytesCells, this]; omega
  unfold Oper.wp execOp
  simp only [ho, hx, Sem.run_bind, Sem.run_pure, Result.andThen_ok, hrun]
  rw [← hsz]
  refine h _ _ (by omega) ⟨_, _, Lib.bytesWorld_at_new w e s, .inr (Nat.le_refl _)⟩ ?_ ?_
  · intro j hj
    have hj' : j < s.data.size := hj
    rw [← cell_of_row _ _ j _ e _ (Lib.bytesWorld_at_new w e s)]
    exact Lib.bytesWorld_cell w e s j hj
  · exact ⟨rfl, rfl, rfl, by rw [Lib.bytesWorld_size]; omega, fun k hk => Lib.bytesWorld_at_old w e s k hk⟩
/-- 'append(out, E)' at a step, and where the row lies then. -/
theorem step_app2 {o : Oper} (w0 : World) (hgd : o.guard = none) (s x : Operand) (t e : TypeId) (ho : o.op = .call { callee := .builtin .append, args := #[s, x], argTypes := #[t, t] })
    (ht : P.underlying t = some (.slice e)) (z : Value) (us : List Value) (size bytes : Nat) (hi : (P.info? e).map (fun i => (i.zero, i.size, i.bytes)) = some (some z, size, bytes)) (hl : us.length = size) (hzc : z.cells.size = size) (hpos : 0 < size) (hby : bytes ≤ 1024)
    (base : Nat) (v : Value) (n : Nat) (xs : List Value) (hs : a.eval s = v) (hown : w0.ownsRow base e size v n xs) (hu : ∀ u ∈ us, u.oneCell' = true)
    (H : Nat) (hx : a.eval x = .slice (some ⟨H, 0, none⟩) 1 1) (hH : w0.heap.size = H) (hn : n ≤ 1048576) (hbase : base ≤ w0.heap.size)
    (h : ∀ g cap w', w'.ownsRow base e size (.slice (some ⟨g, 0, none⟩) (n + 1) cap) (n + 1) (xs ++ us) → Gro base w0 w' → (w0.alloc (.cells us.toArray e)).grownBy w' v.ownBlock → (v.ownBlock = some g ∨ g = w0.heap.size + 1) → K (a.put o.dst (.slice (some ⟨g, 0, none⟩) (n + 1) cap)) w') :
    if Region.wanted o (yielded ops a.tmps) = true then Oper.wp P o a (w0.alloc (.cells us.toArray e)) K Q else E := by
  subst hH
  obtain ⟨i0, hi0, hz0, hz1, hz2⟩ := info_parts hi
  refine step_append_lies _ hgd s x t ho base e i0 z size bytes ht hi0 hz0 hz1 hz2 hzc hpos v n xs hs (hown.alloc _) ⟨w0.heap.size, 0, none⟩ 1 1 us hx (by omega) ?_ hu (by omega) (by unfold maxLen; omega) ?_ (by simp; omega) (w0.heap.size + 1) (by simp) ?_
  · exact World.news_of_block (heap_alloc_new w0 _)
  · have h1 := Nat.mul_le_mul (show n + 1 ≤ 1048577 by omega) hby
    omega
  · intro g cap w' ho' hg' hw _
    exact h g cap w' ho' (Gro.of ((Ext.refl _).alloc _) hg' hown.blockGe) hg' hw
end
theorem World.ownsRow.only {g : Nat} {w w' : World} {base : Nat} {e : TypeId} {size : Nat} {v : Value} {n : Nat} {xs : List Value} (h : w.ownsRow base e size v n xs) (hO : OnlyB g w w') (hne : v.ownBlock ≠ some g) : w'.ownsRow base e size v n xs :=
  h.kept hO (.inr hne)
theorem bytesW_m (w : World) (e : TypeId) (s : ByteArray) : BlkM (Lib.bytesWorld w e s) w.heap.size e (Lib.bytesCells w e s) := ⟨_, _, Lib.bytesWorld_at_new w e s, .inr (Nat.le_refl _)⟩
theorem bytesW_ext (w : World) (e : TypeId) (s : ByteArray) : Ext w (Lib.bytesWorld w e s) := ⟨rfl, rfl, rfl, by rw [Lib.bytesWorld_size]; omega, fun k hk => Lib.bytesWorld_at_old w e s k hk⟩
theorem bytesW_at (w : World) (e : TypeId) (s : ByteArray) (j : Nat) (hj : j < s.size) : (Lib.bytesCells w e s)[j]? = some (u8c (bn s) j) := by
  have hj' : j < s.data.size := hj
  rw [← cell_of_row _ _ j _ e _ (Lib.bytesWorld_at_new w e s)]
  exact Lib.bytesWorld_cell w e s j hj
theorem bytesW_len (w : World) (e : TypeId) (s : ByteArray) : (Lib.bytesCells w e s).size = grownCap w s.size 0 e := by
  have hc := grownCap_ge w s.size 0 e
  have : s.data.size = s.size := rfl
  simp [Lib.bytesCells, this]; omega
end Go

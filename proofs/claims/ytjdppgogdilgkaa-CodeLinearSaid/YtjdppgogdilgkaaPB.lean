import Derived.Test.YtjdppgogdilgkaaPA
import Derived.Deep.AppendLies
import Derived.Deep.RegionHeld3
import Derived.BigQuiet
import Derived.Lib.AppendZeros
import Derived.Lib.AppendStr
import Derived.Deep.Slices
import Derived.Deep.Fields
import Derived.ChangeSame
import Derived.SliceStrings
section
namespace Go
open Go.RowKit
theorem str_ne {s t : ByteArray} (h : s ≠ t) : (s.toList == t.toList) = false := by
  rw [beq_eq_false_iff_ne, ByteArray.toList_eq, ByteArray.toList_eq]
  intro e
  exact h (ByteArray.ext (Array.toList_inj.mp e))
theorem ret_bool {a b : Bool} (h : a = b) : Ending.returned (.bool a) = Ending.returned (.bool b) := by rw [h]
theorem ret_str {a b : ByteArray} (h : a = b) : Ending.returned (.string a) = Ending.returned (.string b) := by rw [h]
theorem ret_int {k : IntKind} {a b : Int} (h : a = b) : Ending.returned (.int k a) = Ending.returned (.int k b) := by rw [h]
theorem World.ownsRow.blockGe {w : World} {base : Nat} {e : TypeId} {size : Nat} {v : Value} {n : Nat} {xs : List Value} (h : w.ownsRow base e size v n xs) : ∀ k, v.ownBlock = some k → base ≤ k := by
  intro k hk
  rcases h.2 with ⟨rfl, _⟩ | ⟨g, cap, cur, rfl, hb, _⟩
  · cases hk
  · cases hk; exact hb
theorem World.ownsRow.cellFar {w wx w' : World} {base : Nat} {e : TypeId} {size : Nat} {v : Value} {n : Nat} {xs : List Value} (h : w.ownsRow base e size v n xs) (hg : wx.grownBy w' v.ownBlock) {p : Addr} {u : Value} (hp : wx.cell? p = some u) (hb : p.block < base) : w'.cell? p = some u :=
  hg.cell hp (fun he => by have := h.blockGe _ he.symm; omega)
theorem World.ownsRow.ext {w w' : World} {base n size : Nat} {e : TypeId} {v : Value} {xs : List Value} (h : w.ownsRow base e size v n xs) (hE : Ext w w') : w'.ownsRow base e size v n xs := by
  refine h.kept (row := none) ⟨hE.os, hE.tape, hE.output, hE.size, fun k hk _ => hE.block k hk⟩ ?_
  exact Classical.em _
theorem World.ownsRow.rd {w : World} {base n cap : Nat} {e : TypeId} {A : Option Addr} {xs : List Value} (h : w.ownsRow base e 1 (.slice A n cap) n xs) : Rd w A n xs := by
  refine ⟨by have := h.1; omega, fun hn => ?_⟩
  rcases h.2 with ⟨_, h0⟩ | ⟨g, c, cur, hv, _⟩
  · omega
  · injection hv with h1 h2 h3
    subst h1
    exact ⟨g, 0, rfl, fun i v hi => by
      have := h.cells (g := g) rfl i v hi
      rw [Addr.add_lit] at this
      exact this⟩
theorem owns_empty (w : World) (base : Nat) (e : TypeId) (size : Nat) (h : base ≤ w.heap.size) : (w.alloc (.cells #[] e)).ownsRow base e size (.slice (some ⟨w.heap.size, 0, none⟩) 0 0) 0 [] :=
  ⟨by simp, .inr ⟨w.heap.size, 0, #[], rfl, h, heap_alloc_new w _, Nat.le_refl _, by unfold maxLen; omega, by simp, by simp⟩⟩
theorem Rd.new2 (w : World) (o : Obj) (t : TypeId) (cs : List Value) (n : Nat) (hn : cs.length = n) : Rd ((w.alloc o).alloc (.cells cs.toArray t)) (some ⟨w.heap.size + 1, 0, none⟩) n cs := by
  have := Rd.new (w.alloc o) t cs n hn
  simpa using this
structure Gro (base : Nat) (w0 w' : World) : Prop where
  ext : ∀ {W : World}, Ext W w0 → W.heap.size ≤ base → Ext W w'
  cell : ∀ {p : Addr} {u : Value}, w0.cell? p = some u → p.block < base → w'.cell? p = some u
  blk : ∀ {g : Nat} {t : TypeId} {cs : Array Value}, Blk w0 g t cs → g < base → Blk w' g t cs
theorem Gro.of {base : Nat} {w0 wx w' : World} {row : Option Nat} (hx : Ext w0 wx) (hg : wx.grownBy w' row) (hr : ∀ k, row = some k → base ≤ k) : Gro base w0 w' :=
  ⟨fun hE hb => (hE.trans hx).grown hg (fun k hk => Nat.le_trans hb (hr k hk)), fun hp hb => hg.cell (hx.cellv hp) (fun he => by have := hr _ he.symm; omega),
   fun hB hb => (hB.ext hx).grown hg (fun he => by have := hr _ he.symm; omega)⟩
theorem Gro.trans {base : Nat} {w w1 w2 : World} (h : Gro base w w1) (k : Gro base w1 w2) : Gro base w w2 :=
  ⟨fun hE hb => k.ext (h.ext hE hb) hb, fun hp hb => k.cell (h.cell hp hb) hb, fun hp hb => k.blk (h.blk hp hb) hb⟩
theorem _root_.Go.Ext.gro {base : Nat} {w w' : World} (h : Ext w w') : Gro base w w' := ⟨fun hE _ => hE.trans h, fun hp _ => h.cellv hp, fun hp _ => hp.ext h⟩
def BytesAt (w : World) (g n : Nat) (f : Nat → Nat) : Prop := ∃ (t : TypeId) (D : Array Value), n ≤ D.size ∧ BlkM w g t D ∧ ∀ j, j < n → D[j]? = some (u8c f j)
theorem BytesAt.lt {w : World} {g n : Nat} {f : Nat → Nat} (h : BytesAt w g n f) : g < w.heap.size := by
  obtain ⟨t, D, _, hD, _⟩ := h
  exact hD.lt
theorem BytesAt.cell {w : World} {g n : Nat} {f : Nat → Nat} (h : BytesAt w g n f) (j : Nat) (hj : j < n) : w.cell? ⟨g, j, none⟩ = some (.int .u8 (f j : Int)) := by
  obtain ⟨t, D, _, hD, hf⟩ := h
  rw [hD.cell, hf j hj]; rfl
theorem BytesAt.frozen {w : World} {g n : Nat} {f : Nat → Nat} (h : BytesAt w g n f) (j : Nat) (hj : j < n) : w.frozen? ⟨g, j, none⟩ = false := by
  obtain ⟨t, D, hn, hD, _⟩ := h
  exact hD.frozen j (by omega)
theorem BytesAt.set_ {w : World} {g n : Nat} {f h : Nat → Nat} (hb : BytesAt w g n f) (i : Nat) (v : Nat) (_ : i < n) (hh : ∀ j, j < n → h j = if j = i then v else f j) : BytesAt (w.setCell ⟨g, i, none⟩ (.int .u8 (v : Int))) g n h := by
  obtain ⟨t, D, hn, hD, hf⟩ := hb
  refine ⟨t, D.setIfInBounds i (.int .u8 (v : Int)), by rw [Array.size_setIfInBounds]; exact hn, hD.set_ _ _, fun j hj => ?_⟩
  rw [Array.getElem?_setIfInBounds]
  by_cases e : i = j
  · subst e; rw [if_pos rfl, if_pos (by omega), u8c, hh i hj, if_pos rfl]
  · rw [if_neg e, hf j hj, u8c, u8c, hh j hj, if_neg (fun h => e h.symm)]
theorem BytesAt.congr {w : World} {g n : Nat} {f h : Nat → Nat} (hb : BytesAt w g n f) (hh : ∀ j, j < n → h j = f j) : BytesAt w g n h := by
  obtain ⟨t, D, hn, hD, hf⟩ := hb
  exact ⟨t, D, hn, hD, fun j hj => by rw [hf j hj, u8c, u8c, hh j hj]⟩
theorem BytesAt.ext {w w' : World} {g n : Nat} {f : Nat → Nat} (hb : BytesAt w g n f) (e : Ext w w') : BytesAt w' g n f := by
  obtain ⟨t, D, hn, hD, hf⟩ := hb
  exact ⟨t, D, hn, hD.ext e, hf⟩
theorem BytesAt.drew {w : World} {g n : Nat} {f : Nat → Nat} (hb : BytesAt w g n f) : BytesAt w.drew g n f := hb
theorem BytesAt.drewN {w : World} {g n : Nat} {f : Nat → Nat} (hb : BytesAt w g n f) (k : Nat) : BytesAt (w.drewN k) g n f := hb
theorem BytesAt.heap {w w' : World} {g n : Nat} {f : Nat → Nat} (hb : BytesAt w g n f) (e : w'.heap[g]? = w.heap[g]?) : BytesAt w' g n f := by
  obtain ⟨t, D, hn, hD, hf⟩ := hb
  exact ⟨t, D, hn, hD.of_heap e, hf⟩
theorem BytesAt.far {w : World} {g n : Nat} {f : Nat → Nat} (hb : BytesAt w g n f) {p : Addr} (hp : g ≠ p.block) (u : Value) : BytesAt (w.setCell p u) g n f := hb.heap (Below.heap_setCell w p u g hp)
theorem BytesAt.only {w w' : World} {g k n : Nat} {f : Nat → Nat} (hb : BytesAt w k n f) (h : OnlyB g w w') (hne : k ≠ g) : BytesAt w' k n f := hb.heap (h.block k hb.lt (by simpa using hne))
theorem BytesAt.mono {w : World} {g n m : Nat} {f : Nat → Nat} (hb : BytesAt w g n f) (h : m ≤ n) : BytesAt w g m f := by
  obtain ⟨t, D, hn, hD, hf⟩ := hb
  exact ⟨t, D, by omega, hD, fun j hj => hf j (by omega)⟩
theorem Blk.bytes {w : World} {g n : Nat} {t : TypeId} {f : Nat → Nat} (h : Blk w g t (tabA n (u8c f))) : BytesAt w g n f := ⟨t, _, by rw [tabA_size]; exact Nat.le_refl _, h.m, fun j hj => tabA_at n _ j hj⟩
theorem cells_bytes {w : World} {g n : Nat} {f : Nat → Nat} (hb : BytesAt w g n f) (hf : ∀ i, i < n → f i < 256) : ∀ j, j < n → w.cell? ⟨g, 0 + j, none⟩ = some (.int .u8 (bt (strN n f) j)) := by
  intro j hj
  rw [Nat.zero_add, hb.cell j hj, bt_bn, bn_strN n f j hj (hf j hj)]
section
variable {P : Program} {ops : Array Oper} {rest : List Oper} {a : Act} {Q : Exit → Act → World → Prop}
theorem wpList_app {o : Oper} (w0 : World) (hgd : o.guard = none) (s x : Operand) (t e : TypeId) (ho : o.op = .call { callee := .builtin .append, args := #[s, x], argTypes := #[t, t] })
    (ht : P.underlying t = some (.slice e)) (z : Value) (us : List Value) (size bytes : Nat) (hi : (P.info? e).map (fun i => (i.zero, i.size, i.bytes)) = some (some z, size, bytes)) (hl : us.length = size) (hzc : z.cells.size = size) (hpos : 0 < size) (hby : bytes ≤ 1024)
    (base : Nat) (v : Value) (n : Nat) (xs : List Value) (hs : a.eval s = v) (hown : w0.ownsRow base e size v n xs) (hu : ∀ u ∈ us, u.oneCell' = true)
    (H : Nat) (hx : a.eval x = .slice (some ⟨H, 0, none⟩) 1 1) (hH : w0.heap.size = H) (hn : n ≤ 1048576) (hbase : base ≤ w0.heap.size)
    (h : ∀ g cap w', w'.ownsRow base e size (.slice (some ⟨g, 0, none⟩) (n + 1) cap) (n + 1) (xs ++ us) → Gro base w0 w' → (w0.alloc (.cells us.toArray e)).grownBy w' v.ownBlock → wpList P ops Q rest (a.put o.dst (.slice (some ⟨g, 0, none⟩) (n + 1) cap)) w') :
    wpList P ops Q (o :: rest) a (w0.alloc (.cells us.toArray e)) := by
  subst hH
  obtain ⟨i0, hi0, hz0, hz1, hz2⟩ := info_parts hi
  refine wpList_append_lies _ hgd s x t ho base e i0 z size bytes ht hi0 hz0 hz1 hz2 hzc hpos v n xs hs (hown.alloc _) ⟨w0.heap.size, 0, none⟩ 1 1 us hx (by omega) ?_ hu (by omega) (by unfold maxLen; omega) ?_ (by simp; omega) _ rfl ?_
  · exact World.news_of_block (heap_alloc_new w0 _)
  · have h1 := Nat.mul_le_mul (show n + 1 ≤ 1048577 by omega) hby
    omega
  · intro g cap w' ho' hg' _ _
    exact h g cap w' ho' (Gro.of ((Ext.refl _).alloc _) hg' hown.blockGe) hg'
theorem wpList_apps {o : Oper} (w : World) (hgd : o.guard = none) (s x : Operand) (t e : TypeId) (ho : o.op = .call { callee := .builtin .append, args := #[s, x], argTypes := #[t, t] })
    (ht : P.underlying t = some (.slice e)) (z : Value) (bytes : Nat) (hi : (P.info? e).map (fun i => (i.zero, i.size, i.bytes)) = some (some z, 1, bytes)) (hzc : z.cells.size = 1) (hby : bytes ≤ 1024)
    (base : Nat) (v : Value) (n : Nat) (xs : List Value) (hs : a.eval s = v) (hown : w.ownsRow base e 1 v n xs)
    (A : Option Addr) (m c : Nat) (us : List Value) (hx : a.eval x = .slice A m c) (hr : Rd w A m us) (hu : ∀ u ∈ us, u.oneCell' = true) (hm : 0 < m) (hn : n + m ≤ 1048576) (hbase : base ≤ w.heap.size)
    (h : ∀ g cap w', w'.ownsRow base e 1 (.slice (some ⟨g, 0, none⟩) (n + m) cap) (n + m) (xs ++ us) → Gro base w w' → w.grownBy w' v.ownBlock → wpList P ops Q rest (a.put o.dst (.slice (some ⟨g, 0, none⟩) (n + m) cap)) w') :
    wpList P ops Q (o :: rest) a w := by
  obtain ⟨i0, hi0, hz0, hz1, hz2⟩ := info_parts hi
  obtain ⟨g, off, rfl, hc⟩ := hr.2 hm
  refine wpList_append_lies _ hgd s x t ho base e i0 z 1 bytes ht hi0 hz0 hz1 hz2 hzc (by omega) v n xs hs hown ⟨g, off, none⟩ m c us hx (by have := hr.1; omega) ?_ hu hm (by unfold maxLen; omega) ?_ hbase _ rfl ?_
  · intro j u hj
    rw [Addr.add_mid]; exact hc j u hj
  · have h1 := Nat.mul_le_mul hn hby
    omega
  · intro g cap w' ho' hg' _ _
    exact h g cap w' ho' (Gro.of (Ext.refl _) hg' hown.blockGe) hg'
theorem wpList_grow_nil {o : Oper} (w : World) (hgd : o.guard = none) (s x : Operand) (t tn e : TypeId) (ho : o.op = .call { callee := .builtin .append, args := #[s, x], argTypes := #[t, tn] })
    (ht : P.underlying t = some (.slice e)) (k kn : IntKind) (htn : P.underlying tn = some (.int kn)) (z : Value) (size bytes : Nat) (hi : (P.info? e).map (fun i => (i.zero, i.size, i.bytes)) = some (some z, size, bytes)) (hzc : z.cells.size = size) (hpos : 0 < size) (hby : bytes ≤ 1024)
    (n : Nat) (hs : a.eval s = .slice none 0 0) (hx : a.eval x = .int k n) (h0 : 0 < n) (hn : n ≤ 1048576)
    (h : ∀ C w', n ≤ C → w'.ownsRow w.heap.size e size (.slice (some ⟨w.heap.size, 0, none⟩) 0 C) 0 [] → Ext w w' → wpList P ops Q rest (a.put o.dst (.slice (some ⟨w.heap.size, 0, none⟩) n C)) w') :
    wpList P ops Q (o :: rest) a w := by
  obtain ⟨i0, hi0, hz0, hz1, hz2⟩ := info_parts hi
  refine wpList_plain hgd fun _ hK => ?_
  have hb : n * i0.bytes ≤ 281474976710656 := by
    have h1 := Nat.mul_le_mul hn (show i0.bytes ≤ 1024 by omega)
    omega
  have hrun := Lib.run_append_nil_zeros (P := P) w t tn o.type e i0 z k kn ht htn hi0 hz0 n h0 (by omega) (by omega) hb
  have hlow := grownCap_ge w n 0 e
  have hup := grownCap_le_maxLen w n 0 e (by unfold maxLen; omega)
  generalize grownCap w n 0 e = C at *
  unfold Oper.wp execOp
  simp only [ho, resolve, invoke, builtin, Sem.run_bind, Sem.run_pure, Result.andThen_ok, List.map_toArray, List.map_cons, List.map_nil, hs, hx, hrun]
  refine hK _ _ (h C _ hlow ⟨by simp, .inr ⟨w.heap.size, C, _, rfl, Nat.le_refl _, heap_alloc_new w.drew _, Nat.zero_le _, hup, ?_, by simp⟩⟩ ?_)
  · rw [Array.size_append, size_zeroCells, size_zeroCells, hzc, ← Nat.add_mul]; congr 1; omega
  · exact ((Ext.refl w).drew).alloc _
theorem step_app {o : Oper} {K : Act → World → Prop} {E : Prop} (w0 : World) (hgd : o.guard = none) (s x : Operand) (t e : TypeId) (ho : o.op = .call { callee := .builtin .append, args := #[s, x], argTypes := #[t, t] })
    (ht : P.underlying t = some (.slice e)) (z : Value) (us : List Value) (size bytes : Nat) (hi : (P.info? e).map (fun i => (i.zero, i.size, i.bytes)) = some (some z, size, bytes)) (hl : us.length = size) (hzc : z.cells.size = size) (hpos : 0 < size) (hby : bytes ≤ 1024)
    (base : Nat) (v : Value) (n : Nat) (xs : List Value) (hs : a.eval s = v) (hown : w0.ownsRow base e size v n xs) (hu : ∀ u ∈ us, u.oneCell' = true)
    (H : Nat) (hx : a.eval x = .slice (some ⟨H, 0, none⟩) 1 1) (hH : w0.heap.size = H) (hn : n ≤ 1048576) (hbase : base ≤ w0.heap.size)
    (h : ∀ g cap w', w'.ownsRow base e size (.slice (some ⟨g, 0, none⟩) (n + 1) cap) (n + 1) (xs ++ us) → Gro base w0 w' → (w0.alloc (.cells us.toArray e)).grownBy w' v.ownBlock → K (a.put o.dst (.slice (some ⟨g, 0, none⟩) (n + 1) cap)) w') :
    if Region.wanted o (yielded ops a.tmps) = true then Oper.wp P o a (w0.alloc (.cells us.toArray e)) K Q else E := by
  subst hH
  obtain ⟨i0, hi0, hz0, hz1, hz2⟩ := info_parts hi
  refine step_append_lies _ hgd s x t ho base e i0 z size bytes ht hi0 hz0 hz1 hz2 hzc hpos v n xs hs (hown.alloc _) ⟨w0.heap.size, 0, none⟩ 1 1 us hx (by omega) ?_ hu (by omega) (by unfold maxLen; omega) ?_ (by simp; omega) _ rfl ?_
  · exact World.news_of_block (heap_alloc_new w0 _)
  · have h1 := Nat.mul_le_mul (show n + 1 ≤ 1048577 by omega) hby
    omega
  · intro g cap w' ho' hg' _ _
    exact h g cap w' ho' (Gro.of ((Ext.refl _).alloc _) hg' hown.blockGe) hg'
end
end Go
end
section
namespace Go
open Go.RowKit
def CellsAt (w : World) (g n : Nat) (f : Nat → Value) : Prop := ∃ (t : TypeId) (D : Array Value), n ≤ D.size ∧ BlkM w g t D ∧ ∀ j, j < n → D[j]? = some (f j)
section
variable {w w' : World} {g n : Nat} {f : Nat → Value}
theorem CellsAt.lt (h : CellsAt w g n f) : g < w.heap.size := by
  obtain ⟨t, D, _, hD, _⟩ := h
  exact hD.lt
theorem CellsAt.cell (h : CellsAt w g n f) (j : Nat) (hj : j < n) : w.cell? ⟨g, j, none⟩ = some (f j) := by
  obtain ⟨t, D, _, hD, hf⟩ := h
  rw [hD.cell, hf j hj]
theorem CellsAt.frozen (h : CellsAt w g n f) (j : Nat) (hj : j < n) : w.frozen? ⟨g, j, none⟩ = false := by
  obtain ⟨t, D, hn, hD, _⟩ := h
  exact hD.frozen j (by omega)
theorem CellsAt.set_ (hb : CellsAt w g n f) {h : Nat → Value} (i : Nat) (v : Value) (hh : ∀ j, j < n → h j = if j = i then v else f j) : CellsAt (w.setCell ⟨g, i, none⟩ v) g n h := by
  obtain ⟨t, D, hn, hD, hf⟩ := hb
  refine ⟨t, D.setIfInBounds i v, by rw [Array.size_setIfInBounds]; exact hn, hD.set_ _ _, fun j hj => ?_⟩
  rw [Array.getElem?_setIfInBounds]
  by_cases e : i = j
  · subst e; rw [if_pos rfl, if_pos (by omega), hh i hj, if_pos rfl]
  · rw [if_neg e, hf j hj, hh j hj, if_neg (fun h => e h.symm)]
theorem CellsAt.congr (hb : CellsAt w g n f) {h : Nat → Value} (hh : ∀ j, j < n → h j = f j) : CellsAt w g n h := by
  obtain ⟨t, D, hn, hD, hf⟩ := hb
  exact ⟨t, D, hn, hD, fun j hj => by rw [hf j hj, hh j hj]⟩
theorem CellsAt.heap (hb : CellsAt w g n f) (e : w'.heap[g]? = w.heap[g]?) : CellsAt w' g n f := by
  obtain ⟨t, D, hn, hD, hf⟩ := hb
  exact ⟨t, D, hn, hD.of_heap e, hf⟩
theorem CellsAt.ext (hb : CellsAt w g n f) (e : Ext w w') : CellsAt w' g n f := by
  obtain ⟨t, D, hn, hD, hf⟩ := hb
  exact ⟨t, D, hn, hD.ext e, hf⟩
theorem CellsAt.drew (hb : CellsAt w g n f) : CellsAt w.drew g n f := hb
theorem CellsAt.drewN (hb : CellsAt w g n f) (k : Nat) : CellsAt (w.drewN k) g n f := hb
theorem CellsAt.far (hb : CellsAt w g n f) {p : Addr} (hp : g ≠ p.block) (u : Value) : CellsAt (w.setCell p u) g n f := hb.heap (Below.heap_setCell w p u g hp)
theorem CellsAt.only {k : Nat} (hb : CellsAt w k n f) (h : OnlyB g w w') (hne : k ≠ g) : CellsAt w' k n f := hb.heap (h.block k hb.lt (by simpa using hne))
theorem CellsAt.rd (hb : CellsAt w g n f) (xs : List Value) (hl : xs.length = n) (hx : ∀ i v, xs[i]? = some v → f i = v) : Rd w (some ⟨g, 0, none⟩) n xs := by
  refine ⟨hl, fun _ => ⟨g, 0, rfl, fun i v hi => ?_⟩⟩
  have hil : i < xs.length := by
    rcases Nat.lt_or_ge i xs.length with h | h
    · exact h
    · rw [List.getElem?_eq_none h] at hi; cases hi
  rw [Nat.zero_add, hb.cell i (by omega), hx i v hi]
end
theorem World.ownsRow.cells1 {w : World} {base : Nat} {e : TypeId} {g n cap : Nat} {xs : List Value} (h : w.ownsRow base e 1 (.slice (some ⟨g, 0, none⟩) n cap) n xs) : CellsAt w g n (fun i => xs.getD i undef) ∧ base ≤ g := by
  rcases h.2 with ⟨h0, _⟩ | ⟨g', c', cur, hv, hb, hg, hc1, _, hs, ht⟩
  · cases h0
  · injection hv with h1 h2 h3
    injection h1 with h1; injection h1 with h1
    subst h1; subst h3
    refine ⟨⟨e, cur, by omega, ⟨0, 0, hg, .inl (Nat.le_refl _)⟩, fun j hj => ?_⟩, hb⟩
    show cur[j]? = some (xs.getD j undef)
    rw [← ht, List.getD_eq_getElem?_getD, List.getElem?_take, if_pos (by omega), Array.getElem?_toList]
    rw [Array.getElem?_eq_getElem (by omega)]; rfl
theorem run_storeCells_m (P : Program) (g o : Nat) (t : TypeId) : ∀ (vs : List Value) (i : Nat) (cur : Array Value) (w : World), BlkM w g t cur → o + i + vs.length ≤ cur.size → (∀ v ∈ vs, v.oneCell' = true) →
    ∃ (w' : World) (D : Array Value), (storeCells ⟨g, o, none⟩ vs i).run P w = .ok () w' ∧ D.size = cur.size ∧ BlkM w' g t D ∧ OnlyB g w w' ∧ ∀ j, D[j]? = if o + i ≤ j ∧ j < o + i + vs.length then vs[j - (o + i)]? else cur[j]?
  | [], i, cur, w, hb, _, _ => ⟨w, cur, rfl, rfl, hb, OnlyB.refl _ _, fun j => by rw [if_neg (by simp)]⟩
  | v :: rest, i, cur, w, hb, hl, h1 => by
    simp only [List.length_cons] at hl
    have hi : o + i < cur.size := by omega
    have hcell : w.cell? ⟨g, o + i, none⟩ = some (cur[o + i]'hi) := by rw [hb.cell, Array.getElem?_eq_getElem hi]
    have hfro := hb.frozen (o + i) hi
    have hst : (store ((⟨g, o, none⟩ : Addr).add i) v).run P w = .ok () (w.setCell ⟨g, o + i, none⟩ v) := by
      rw [Addr.add_mid, run_store P w _ v _ (h1 v (by simp)), hcell]
      simp [hfro]
    obtain ⟨w', D, hr, hs, hbD, hO, hat⟩ := run_storeCells_m P g o t rest (i + 1) (cur.setIfInBounds (o + i) v) (w.setCell ⟨g, o + i, none⟩ v) (hb.set_ _ _) (by rw [Array.size_setIfInBounds]; omega) (fun x hx => h1 x (by simp [hx]))
    refine ⟨w', D, ?_, by rw [hs, Array.size_setIfInBounds], hbD, (OnlyB.refl g w).setCell _ _ |>.trans hO, fun j => ?_⟩
    · simp only [storeCells, Sem.run_bind, hst, Result.andThen_ok, hr]
    · rw [hat j]
      by_cases h : o + (i + 1) ≤ j ∧ j < o + (i + 1) + rest.length
      · rw [if_pos h, if_pos (by simp only [List.length_cons]; omega)]
        have e : j - (o + i) = (j - (o + (i + 1))) + 1 := by omega
        rw [e, List.getElem?_cons_succ]
      · rw [if_neg h, Array.getElem?_setIfInBounds]
        by_cases e : o + i = j
        · subst e
          rw [if_pos rfl, if_pos hi, if_pos (by simp only [List.length_cons]; omega), Nat.sub_self, List.getElem?_cons_zero]
        · rw [if_neg e, if_neg (by simp only [List.length_cons]; omega)]
def catB (n : Nat) (f : Nat → Nat) (s : ByteArray) (i : Nat) : Nat := if i < n then f i else bn s (i - n)
theorem strCells_at (s : ByteArray) (j : Nat) (hj : j < s.size) : (Lib.strCells s)[j]? = some (.int .u8 (bn s j : Int)) := by
  have hl : j < s.data.toList.length := hj
  unfold Lib.strCells bn
  rw [List.getElem?_map, List.getD_eq_getElem?_getD, List.getElem?_eq_getElem hl]; rfl
theorem run_app_str {P : Program} (w : World) (t u ty e : TypeId) (ht : P.underlying t = some (.slice e)) (hu : P.underlying u = some .string) (hi : (P.info? e).map (fun i => (i.zero, i.size, i.bytes)) = some (some (.int .u8 0), 1, 1))
    (g n : Nat) (D : Array Value) (f : Nat → Nat) (hb : BlkM w g e D) (hn : n ≤ D.size) (hf : ∀ j, j < n → D[j]? = some (u8c f j)) (s : ByteArray) (hs : n + s.size ≤ 1048576) :
    ∃ g' cap w', (Builtin.append_ #[t, u] ty #[.slice (some ⟨g, 0, none⟩) n D.size, .string s]).run P w = .ok (.slice (some ⟨g', 0, none⟩) (n + s.size) cap) w' ∧ BytesAt w' g' (n + s.size) (catB n f s) ∧ (g' = g ∨ g' = w.heap.size) ∧ OnlyB g w w' ∧ n + s.size ≤ cap := by
  obtain ⟨i0, hi0, hz0, hz1, hz2⟩ := info_parts hi
  by_cases hroom : n + s.size ≤ D.size
  · have hff := Lib.run_firstCells_string (P := P) w 1 s
    obtain ⟨w', D', hr, hs', hb', hO, hat⟩ := run_storeCells_m P g n e (Lib.strCells s) 0 D w hb (by rw [Lib.strCells_length]; omega) (Lib.strCells_oneCell s)
    refine ⟨g, D.size, w', ?_, ⟨e, D', by omega, hb', fun j hj => ?_⟩, .inl rfl, hO, hroom⟩
    · simp [Builtin.append_, run_underlying ht, run_underlying hu, sizeOf, typeInfo, hi0, hz1, Builtin.lenOf, hroom, hff, Addr.add_lit, hr]
    · rw [hat j, Lib.strCells_length]
      unfold u8c catB
      by_cases h : j < n
      · rw [if_neg (by omega), if_pos h, hf j h]; rfl
      · rw [if_pos (by omega), if_neg h, Nat.add_zero, strCells_at s (j - n) (by omega)]
  · have hb48 : Builtin.nextslicecap (n + s.size) D.size * i0.bytes ≤ 281474976710656 := by
      have h1 := nextslicecap_le (show D.size < n + s.size by omega)
      rw [hz2]; omega
    have hr := Lib.run_append_grow_string (P := P) w t u ty e i0 (.int .u8 0) ht hu hi0 hz0 ⟨g, 0, none⟩ n D.size (D.toList.take n) (by rw [List.length_take, Array.length_toList, hz1]; omega) (fun j v hv => by
      rw [List.getElem?_take] at hv
      by_cases hj : j < n
      · rw [if_pos hj, Array.getElem?_toList] at hv
        rw [Addr.add_mid, hb.cell, Nat.zero_add, hv]
      · rw [if_neg hj] at hv; cases hv) s (by omega) (by omega) hb48
    have hlow := grownCap_ge w (n + s.size) D.size e
    generalize grownCap w (n + s.size) D.size e = C at *
    refine ⟨_, C, _, hr, ⟨e, _, ?_, ⟨0, 0, heap_alloc_new w.drew _, .inl (Nat.le_refl _)⟩, fun j hj => ?_⟩, .inr rfl, ((OnlyB.refl g w).drew).alloc _, hlow⟩
    · simp [Lib.strCells_length, size_zeroCells]; omega
    · unfold u8c catB
      have hlt : (D.toList.take n).length = n := by rw [List.length_take, Array.length_toList]; omega
      rw [Array.getElem?_append_left (by simp [Lib.strCells_length]; omega)]
      by_cases h : j < n
      · rw [Array.getElem?_append_left (by simp; omega), if_pos h]
        simp only [List.getElem?_toArray]
        rw [List.getElem?_take, if_pos h, Array.getElem?_toList, hf j h]; rfl
      · rw [Array.getElem?_append_right (by simp; omega), if_neg h]
        simp only [List.getElem?_toArray, List.size_toArray, hlt]
        exact strCells_at s (j - n) (by omega)
section
variable {P : Program} {ops : Array Oper} {rest : List Oper} {a : Act} {w : World} {Q : Exit → Act → World → Prop} {K : Act → World → Prop} {E : Prop}
theorem wp_app_str {o : Oper} (sl x : Operand) (t u e : TypeId) (ho : o.op = .call { callee := .builtin .append, args := #[sl, x], argTypes := #[t, u] })
    (ht : P.underlying t = some (.slice e)) (hu : P.underlying u = some .string) (hi : (P.info? e).map (fun i => (i.zero, i.size, i.bytes)) = some (some (.int .u8 0), 1, 1))
    (g n : Nat) (D : Array Value) (f : Nat → Nat) (hsl : a.eval sl = .slice (some ⟨g, 0, none⟩) n D.size) (hb : BlkM w g e D) (hn : n ≤ D.size) (hf : ∀ j, j < n → D[j]? = some (u8c f j)) (s : ByteArray) (hx : a.eval x = .string s) (hs : n + s.size ≤ 1048576)
    (h : ∀ g' cap w', BytesAt w' g' (n + s.size) (catB n f s) → (g' = g ∨ g' = w.heap.size) → OnlyB g w w' → n + s.size ≤ cap → K (a.put o.dst (.slice (some ⟨g', 0, none⟩) (n + s.size) cap)) w') : o.wp P a w K Q := by
  obtain ⟨g', cap, w', hr, h1, h2, h3, h4⟩ := run_app_str (P := P) w t u o.type e ht hu hi g n D f hb hn hf s hs
  unfold Oper.wp execOp
  simp only [ho, resolve, invoke, builtin, Sem.run_bind, Sem.run_pure, Result.andThen_ok, List.map_toArray, List.map_cons, List.map_nil, hsl, hx, hr]
  exact h g' cap w' h1 h2 h3 h4
theorem step_app_str {o : Oper} (hgd : o.guard = none) (sl x : Operand) (t u e : TypeId) (ho : o.op = .call { callee := .builtin .append, args := #[sl, x], argTypes := #[t, u] })
    (ht : P.underlying t = some (.slice e)) (hu : P.underlying u = some .string) (hi : (P.info? e).map (fun i => (i.zero, i.size, i.bytes)) = some (some (.int .u8 0), 1, 1))
    (g n : Nat) (D : Array Value) (cp : Nat) (hcp : D.size = cp) (f : Nat → Nat) (hsl : a.eval sl = .slice (some ⟨g, 0, none⟩) n cp) (hb : BlkM w g e D) (hn : n ≤ D.size) (hf : ∀ j, j < n → D[j]? = some (u8c f j)) (s : ByteArray) (hx : a.eval x = .string s) (hs : n + s.size ≤ 1048576)
    (h : ∀ g' cap w', BytesAt w' g' (n + s.size) (catB n f s) → (g' = g ∨ g' = w.heap.size) → OnlyB g w w' → n + s.size ≤ cap → K (a.put o.dst (.slice (some ⟨g', 0, none⟩) (n + s.size) cap)) w') :
    if Region.wanted o (yielded ops a.tmps) = true then Oper.wp P o a w K Q else E := by
  subst hcp
  rw [if_pos (by simp [Region.wanted, hgd])]
  exact wp_app_str sl x t u e ho ht hu hi g n D f hsl hb hn hf s hx hs h
theorem step_str_bytes {o : Oper} (hgd : o.guard = none) (src dst e : TypeId) (x : Operand) (ho : o.op = .convert src dst x)
    (hs : P.underlying src = some .string) (hd : P.underlying dst = some (.slice e)) (he : P.underlying e = some (.int .u8)) (s : ByteArray) (hx : a.eval x = .string s)
    (h : ∀ C w', s.size ≤ C.size → BlkM w' w.heap.size e C → (∀ j, j < s.size → C[j]? = some (u8c (bn s) j)) → Ext w w' →
      K (a.put o.dst (.slice (some ⟨w.heap.size, 0, none⟩) s.size C.size)) w') :
    if Region.wanted o (yielded ops a.tmps) = true then Oper.wp P o a w K Q else E := by
  rw [if_pos (by simp [Region.wanted, hgd])]
  have hrun := Lib.run_convert_string_bytes (P := P) w src dst e s hs hd he
  have hc := grownCap_ge w s.size 0 e
  have hsz : (Lib.bytesCells w e s).size = grownCap w s.size 0 e := by
    have : s.data.size = s.size := rfl
    simp [Lib.bytesCells, this]; omega
  unfold Oper.wp execOp
  simp only [ho, hx, Sem.run_bind, Sem.run_pure, Result.andThen_ok, hrun]
  rw [← hsz]
  refine h _ _ (by omega) ⟨_, _, Lib.bytesWorld_at_new w e s, .inr (Nat.le_refl _)⟩ ?_ ?_
  · intro j hj
    have hj' : j < s.data.size := hj
    rw [← cell_of_row _ _ j _ e _ (Lib.bytesWorld_at_new w e s)]
    exact Lib.bytesWorld_cell w e s j hj
  · exact ⟨rfl, rfl, rfl, by rw [Lib.bytesWorld_size]; omega, fun k hk => Lib.bytesWorld_at_old w e s k hk⟩
theorem step_app2 {o : Oper} (w0 : World) (hgd : o.guard = none) (s x : Operand) (t e : TypeId) (ho : o.op = .call { callee := .builtin .append, args := #[s, x], argTypes := #[t, t] })
    (ht : P.underlying t = some (.slice e)) (z : Value) (us : List Value) (size bytes : Nat) (hi : (P.info? e).map (fun i => (i.zero, i.size, i.bytes)) = some (some z, size, bytes)) (hl : us.length = size) (hzc : z.cells.size = size) (hpos : 0 < size) (hby : bytes ≤ 1024)
    (base : Nat) (v : Value) (n : Nat) (xs : List Value) (hs : a.eval s = v) (hown : w0.ownsRow base e size v n xs) (hu : ∀ u ∈ us, u.oneCell' = true)
    (H : Nat) (hx : a.eval x = .slice (some ⟨H, 0, none⟩) 1 1) (hH : w0.heap.size = H) (hn : n ≤ 1048576) (hbase : base ≤ w0.heap.size)
    (h : ∀ g cap w', w'.ownsRow base e size (.slice (some ⟨g, 0, none⟩) (n + 1) cap) (n + 1) (xs ++ us) → Gro base w0 w' → (w0.alloc (.cells us.toArray e)).grownBy w' v.ownBlock → (v.ownBlock = some g ∨ g = w0.heap.size + 1) → K (a.put o.dst (.slice (some ⟨g, 0, none⟩) (n + 1) cap)) w') :
    if Region.wanted o (yielded ops a.tmps) = true then Oper.wp P o a (w0.alloc (.cells us.toArray e)) K Q else E := by
  subst hH
  obtain ⟨i0, hi0, hz0, hz1, hz2⟩ := info_parts hi
  refine step_append_lies _ hgd s x t ho base e i0 z size bytes ht hi0 hz0 hz1 hz2 hzc hpos v n xs hs (hown.alloc _) ⟨w0.heap.size, 0, none⟩ 1 1 us hx (by omega) ?_ hu (by omega) (by unfold maxLen; omega) ?_ (by simp; omega) (w0.heap.size + 1) (by simp) ?_
  · exact World.news_of_block (heap_alloc_new w0 _)
  · have h1 := Nat.mul_le_mul (show n + 1 ≤ 1048577 by omega) hby
    omega
  · intro g cap w' ho' hg' hw _
    exact h g cap w' ho' (Gro.of ((Ext.refl _).alloc _) hg' hown.blockGe) hg' hw
end
theorem World.ownsRow.only {g : Nat} {w w' : World} {base : Nat} {e : TypeId} {size : Nat} {v : Value} {n : Nat} {xs : List Value} (h : w.ownsRow base e size v n xs) (hO : OnlyB g w w') (hne : v.ownBlock ≠ some g) : w'.ownsRow base e size v n xs :=
  h.kept hO (.inr hne)
theorem bytesW_m (w : World) (e : TypeId) (s : ByteArray) : BlkM (Lib.bytesWorld w e s) w.heap.size e (Lib.bytesCells w e s) := ⟨_, _, Lib.bytesWorld_at_new w e s, .inr (Nat.le_refl _)⟩
theorem bytesW_ext (w : World) (e : TypeId) (s : ByteArray) : Ext w (Lib.bytesWorld w e s) := ⟨rfl, rfl, rfl, by rw [Lib.bytesWorld_size]; omega, fun k hk => Lib.bytesWorld_at_old w e s k hk⟩
theorem bytesW_at (w : World) (e : TypeId) (s : ByteArray) (j : Nat) (hj : j < s.size) : (Lib.bytesCells w e s)[j]? = some (u8c (bn s) j) := by
  have hj' : j < s.data.size := hj
  rw [← cell_of_row _ _ j _ e _ (Lib.bytesWorld_at_new w e s)]
  exact Lib.bytesWorld_cell w e s j hj
theorem bytesW_len (w : World) (e : TypeId) (s : ByteArray) : (Lib.bytesCells w e s).size = grownCap w s.size 0 e := by
  have hc := grownCap_ge w s.size 0 e
  have : s.data.size = s.size := rfl
  simp [Lib.bytesCells, this]; omega
end Go
end
section
namespace Go
open Go.RowKit Go.ChangeShapes Go.WideShapes Go.Deep
def FRd (w : World) (A : Option Addr) (n k : Nat) (f : Nat → Nat → Value) : Prop :=
  0 < n → ∃ g o, A = some ⟨g, o, none⟩ ∧ ∀ i j, i < n → j < k → w.cell? ⟨g, o + i * k + j, none⟩ = some (f i j)
section
variable {w w' : World} {A : Option Addr} {n k : Nat} {f : Nat → Nat → Value}
theorem FRd.nil (w : World) (A : Option Addr) (k : Nat) (f : Nat → Nat → Value) : FRd w A 0 k f := fun h => absurd h (by omega)
theorem FRd.ext (h : FRd w A n k f) (e : Ext w w') : FRd w' A n k f := fun hn => by
  obtain ⟨g, o, e1, hc⟩ := h hn
  exact ⟨g, o, e1, fun i j hi hj => e.cellv (hc i j hi hj)⟩
theorem FRd.at_ (h : FRd w A n k f) (hn : 0 < n) (_ : 0 < k) : ∃ g o, A = some ⟨g, o, none⟩ ∧ ∀ i j, i < n → j < k → w.cell? ⟨g, o + i * k + j, none⟩ = some (f i j) := h hn
theorem FRd.congr (h : FRd w A n k f) {f' : Nat → Nat → Value} (hf : ∀ i j, i < n → j < k → f' i j = f i j) : FRd w A n k f' := fun hn => by
  obtain ⟨g, o, e1, hc⟩ := h hn
  exact ⟨g, o, e1, fun i j hi hj => by rw [hf i j hi hj]; exact hc i j hi hj⟩
end
theorem addr_cell {w : World} {a : Addr} {v : Value} (h : w.cell? (a.add 0) = some v) : a.spot = none := by
  simpa [Addr.add] using World.cell?_spot h
section
variable {H : Type} {enc : TypeId × Value → H} {P : Program} {w : World} {base : Nat} {spare : Nat → Bool} {held : Bool}
theorem open_fields {t e : TypeId} {fs : Array Field} {A : Option Addr} {len cap : Nat} {d : DataW H} {ps : List MemPlace} (ht : P.underlying t = some (.slice e)) (he : P.underlying e = some (.struct fs))
    (hone : oneCellFields P fs = true) (hC : P.cellsOf e = fs.size) (hk : 0 < fs.size) (h : DataW.Trod enc P w base spare held t (.slice A len cap) d ps) :
    ∃ f : Nat → Nat → Value, FRd w A len fs.size f ∧ len ≤ maxLen ∧ ∀ i j fl, i < len → fs[j]? = some fl → ∃ m y, DataW.trod enc P w base spare held m fl.type [f i j] = some y := by
  obtain ⟨fuel, hf⟩ := h
  rcases open_slice ht hf with ⟨hcs, _⟩ | ⟨a, len', cap', m, n, D, Pl, hcs, _, hl, hm, hmm, _, hi⟩
  · simp [Value.cells] at hcs
    obtain ⟨rfl, rfl, rfl⟩ := hcs
    exact ⟨fun _ _ => undef, FRd.nil _ _ _ _, Nat.zero_le _, fun i j fl h => absurd h (by omega)⟩
  · simp [Value.cells] at hcs
    obtain ⟨rfl, rfl, rfl⟩ := hcs
    have hlm : len ≤ m := by rw [hmm]; split <;> omega
    have key : ∀ i, i < len → ∀ j fl, fs[j]? = some fl → ∃ v, w.cell? (a.add (i * fs.size + j)) = some v ∧ ∃ m y, DataW.trod enc P w base spare held m fl.type [v] = some y := by
      intro i hil j fl hj
      obtain ⟨cs', hc, ht'⟩ := hi i (by omega)
      rw [hC] at hc
      obtain ⟨ys, n', hn', hy, hlen, hyl, hff⟩ := DataW.trod_struct he ht'
      obtain ⟨_, hcl, hat⟩ := World.cells?_some hc
      obtain ⟨ho, hk1⟩ := hone_of hone j fl hj
      have hjl : j < fs.size := (Array.getElem?_eq_some_iff.1 hj).1
      have hcell := hat j hjl
      have h1 := hff j fl hj
      rw [ho, hk1] at h1
      have hone' : (cs'.drop j).take 1 = [cs'[j]'(by omega)] := by
        rw [List.drop_eq_getElem_cons (by omega)]; rfl
      rw [hone'] at h1
      have hys : ys[j]? = some (ys[j]'(by omega)) := List.getElem?_eq_getElem (by omega)
      refine ⟨cs'[j]'(by omega), ?_, _, _, h1.trans hys⟩
      rw [← Go.Deep.add_add, hcell, List.getElem?_eq_getElem (by omega)]
    refine ⟨fun i j => (w.cell? (a.add (i * fs.size + j))).getD undef, ?_, Nat.le_trans hl hm, ?_⟩
    · intro hn
      have hs : a.spot = none := by
        obtain ⟨v, hv, _⟩ := key 0 hn 0 (fs[0]'hk) (Array.getElem?_eq_getElem hk)
        rw [Nat.zero_mul] at hv
        exact addr_cell hv
      obtain ⟨b, o, sp⟩ := a
      simp only at hs
      subst hs
      refine ⟨b, o, rfl, fun i j hil hjl => ?_⟩
      obtain ⟨v, hv, _⟩ := key i hil j (fs[j]'hjl) (Array.getElem?_eq_getElem hjl)
      show _ = some ((w.cell? ((⟨b, o, none⟩ : Addr).add (i * fs.size + j))).getD undef)
      rw [hv, Option.getD_some]
      rw [Addr.add_mid] at hv
      rw [← hv, Nat.add_assoc]
    · intro i j fl hil hj
      obtain ⟨v, hv, hr⟩ := key i hil j fl hj
      simp only [hv, Option.getD_some]
      exact hr
end
section
variable {H : Type} {enc : TypeId × Value → H} {P : Program} {w : World} {base : Nat} {spare : Nat → Bool} {held : Bool} {t : TypeId} {m : Nat} {v : Value} {y : DataW H × List MemPlace}
theorem fld_int {k : IntKind} (ht : P.underlying t = some (.int k)) (h : DataW.trod enc P w base spare held m t [v] = some y) : ∃ n, v = .int k n ∧ (Lit.int k n).wf = true := by
  obtain ⟨n, h1, _, h2⟩ := DataW.trod_int ht h
  exact ⟨n, by simpa using h1, h2⟩
theorem fld_string (ht : P.underlying t = some .string) (h : DataW.trod enc P w base spare held m t [v] = some y) : ∃ s, v = .string s ∧ s.size ≤ maxLen := by
  obtain ⟨s, h1, _, h2⟩ := DataW.trod_string ht h
  exact ⟨s, by simpa using h1, h2⟩
theorem fld_bool (ht : P.underlying t = some .bool) (h : DataW.trod enc P w base spare held m t [v] = some y) : ∃ b, v = .bool b := by
  obtain ⟨b, h1, _⟩ := DataW.trod_bool ht h
  exact ⟨b, by simpa using h1⟩
end
def Value.int! : Value → Int
  | .int _ n => n
  | _ => 0
def Value.str! : Value → ByteArray
  | .string s => s
  | _ => ByteArray.empty
def Value.bool! : Value → Bool
  | .bool b => b
  | _ => false
end Go
end

import Derived.Test.YtpengejnjmicnaaPre
import Derived.Deep.AppendLies
import Derived.Deep.RegionHeld3
import Derived.BigQuiet
import Derived.Lib.AppendZeros
namespace Go
open Go.RowKit
theorem str_ne {s t : ByteArray} (h : s ≠ t) : (s.toList == t.toList) = false := by
  rw [beq_eq_false_iff_ne, ByteArray.toList_eq, ByteArray.toList_eq]
  intro e
  exact h (ByteArray.ext (Array.toList_inj.mp e))
theorem ret_bool {a b : Bool} (h : a = b) : Ending.returned (.bool a) = Ending.returned (.bool b) := by rw [h]
theorem ret_str {a b : ByteArray} (h : a = b) : Ending.returned (.string a) = Ending.returned (.string b) := by rw [h]
theorem ret_int {k : IntKind} {a b : Int} (h : a = b) : Ending.returned (.int k a) = Ending.returned (.int k b) := by rw [h]
theorem World.ownsRow.blockGe {w : World} {base : Nat} {e : TypeId} {size : Nat} {v : Value} {n : Nat} {xs : List Value} (h : w.ownsRow base e size v n xs) : ∀ k, v.ownBlock = some k → base ≤ k := by
  intro k hk
  rcases h.2 with ⟨rfl, _⟩ | ⟨g, cap, cur, rfl, hb, _⟩
  · cases hk
  · cases hk; exact hb
theorem World.ownsRow.cellFar {w wx w' : World} {base : Nat} {e : TypeId} {size : Nat} {v : Value} {n : Nat} {xs : List Value} (h : w.ownsRow base e size v n xs) (hg : wx.grownBy w' v.ownBlock) {p : Addr} {u : Value} (hp : wx.cell? p = some u) (hb : p.block < base) : w'.cell? p = some u :=
  hg.cell hp (fun he => by have := h.blockGe _ he.symm; omega)
theorem World.ownsRow.ext {w w' : World} {base n size : Nat} {e : TypeId} {v : Value} {xs : List Value} (h : w.ownsRow base e size v n xs) (hE : Ext w w') : w'.ownsRow base e size v n xs := by
  refine h.kept (row := none) ⟨hE.os, hE.tape, hE.output, hE.size, fun k hk _ => hE.block k hk⟩ ?_
  exact Classical.em _
theorem World.ownsRow.rd {w : World} {base n cap : Nat} {e : TypeId} {A : Option Addr} {xs : List Value} (h : w.ownsRow base e 1 (.slice A n cap) n xs) : Rd w A n xs := by
  refine ⟨by have := h.1; omega, fun hn => ?_⟩
  rcases h.2 with ⟨_, h0⟩ | ⟨g, c, cur, hv, _⟩
  · omega
  · injection hv with h1 h2 h3
    subst h1
    exact ⟨g, 0, rfl, fun i v hi => by
      have := h.cells (g := g) rfl i v hi
      rw [Addr.add_lit] at this
      exact this⟩
/-- An empty slice that is not nil. -/
theorem owns_empty (w : World) (base : Nat) (e : TypeId) (size : Nat) (h : base ≤ w.heap.size) : (w.alloc (.cells #[] e)).ownsRow base e size (.slice (some ⟨w.heap.size, 0, none⟩) 0 0) 0 [] :=
  ⟨by simp, .inr ⟨w.heap.size, 0, #[], rfl, h, heap_alloc_new w _, Nat.le_refl _, by unfold maxLen; omega, by simp, by simp⟩⟩
theorem Rd.new2 (w : World) (o : Obj) (t : TypeId) (cs : List Value) (n : Nat) (hn : cs.length = n) : Rd ((w.alloc o).alloc (.cells cs.toArray t)) (some ⟨w.heap.size + 1, 0, none⟩) n cs := by
  have := Rd.new (w.alloc o) t cs n hn
  simpa using this
/-- From w0 to w' nothing below block base has turned. -/
structure Gro (base : Nat) (w0 w' : World) : Prop where
  ext : ∀ {W : World}, Ext W w0 → W.heap.size ≤ base → Ext W w'
  cell : ∀ {p : Addr} {u : Value}, w0.cell? p = some u → p.block < base → w'.cell? p = some u
  blk : ∀ {g : Nat} {t : TypeId} {cs : Array Value}, Blk w0 g t cs → g < base → Blk w' g t cs
theorem Gro.of {base : Nat} {w0 wx w' : World} {row : Option Nat} (hx : Ext w0 wx) (hg : wx.grownBy w' row) (hr : ∀ k, row = some k → base ≤ k) : Gro base w0 w' :=
  ⟨fun hE hb => (hE.trans hx).grown hg (fun k hk => Nat.le_trans hb (hr k hk)), fun hp hb => hg.cell (hx.cellv hp) (fun he => by have := hr _ he.symm; omega),
   fun hB hb => (hB.ext hx).grown hg (fun he => by have := hr _ he.symm; omega)⟩
theorem Gro.trans {base : Nat} {w w1 w2 : World} (h : Gro base w w1) (k : Gro base w1 w2) : Gro base w w2 :=
  ⟨fun hE hb => k.ext (h.ext hE hb) hb, fun hp hb => k.cell (h.cell hp hb) hb, fun hp hb => k.blk (h.blk hp hb) hb⟩
theorem _root_.Go.Ext.gro {base : Nat} {w w' : World} (h : Ext w w') : Gro base w w' := ⟨fun hE _ => hE.trans h, fun hp _ => h.cellv hp, fun hp _ => hp.ext h⟩

/-- The first n cells of a block are bytes. -/
def BytesAt (w : World) (g n : Nat) (f : Nat → Nat) : Prop := ∃ (t : TypeId) (D : Array Value), n ≤ D.size ∧ BlkM w g t D ∧ ∀ j, j < n → D[j]? = some (u8c f j)
theorem BytesAt.lt {w : World} {g n : Nat} {f : Nat → Nat} (h : BytesAt w g n f) : g < w.heap.size := by
  obtain ⟨t, D, _, hD, _⟩ := h
  exact hD.lt
theorem BytesAt.cell {w : World} {g n : Nat} {f : Nat → Nat} (h : BytesAt w g n f) (j : Nat) (hj : j < n) : w.cell? ⟨g, j, none⟩ = some (.int .u8 (f j : Int)) := by
  obtain ⟨t, D, _, hD, hf⟩ := h
  rw [hD.cell, hf j hj]; rfl
theorem BytesAt.frozen {w : World} {g n : Nat} {f : Nat → Nat} (h : BytesAt w g n f) (j : Nat) (hj : j < n) : w.frozen? ⟨g, j, none⟩ = false := by
  obtain ⟨t, D, hn, hD, _⟩ := h
  exact hD.frozen j (by omega)
theorem BytesAt.set_ {w : World} {g n : Nat} {f h : Nat → Nat} (hb : BytesAt w g n f) (i : Nat) (v : Nat) (_ : i < n) (hh : ∀ j, j < n → h j = if j = i then v else f j) : BytesAt (w.setCell ⟨g, i, none⟩ (.int .u8 (v : Int))) g n h := by
  obtain ⟨t, D, hn, hD, hf⟩ := hb
  refine ⟨t, D.setIfInBounds i (.int .u8 (v : Int)), by rw [Array.size_setIfInBounds]; exact hn, hD.set_ _ _, fun j hj => ?_⟩
  rw [Array.getElem?_setIfInBounds]
  by_cases e : i = j
  · subst e; rw [if_pos rfl, if_pos (by omega), u8c, hh i hj, if_pos rfl]
  · rw [if_neg e, hf j hj, u8c, u8c, hh j hj, if_neg (fun h => e h.symm)]
theorem BytesAt.congr {w : World} {g n : Nat} {f h : Nat → Nat} (hb : BytesAt w g n f) (hh : ∀ j, j < n → h j = f j) : BytesAt w g n h := by
  obtain ⟨t, D, hn, hD, hf⟩ := hb
  exact ⟨t, D, hn, hD, fun j hj => by rw [hf j hj, u8c, u8c, hh j hj]⟩
theorem BytesAt.ext {w w' : World} {g n : Nat} {f : Nat → Nat} (hb : BytesAt w g n f) (e : Ext w w') : BytesAt w' g n f := by
  obtain ⟨t, D, hn, hD, hf⟩ := hb
  exact ⟨t, D, hn, hD.ext e, hf⟩
theorem BytesAt.drew {w : World} {g n : Nat} {f : Nat → Nat} (hb : BytesAt w g n f) : BytesAt w.drew g n f := hb
theorem BytesAt.drewN {w : World} {g n : Nat} {f : Nat → Nat} (hb : BytesAt w g n f) (k : Nat) : BytesAt (w.drewN k) g n f := hb
theorem BytesAt.heap {w w' : World} {g n : Nat} {f : Nat → Nat} (hb : BytesAt w g n f) (e : w'.heap[g]? = w.heap[g]?) : BytesAt w' g n f := by
  obtain ⟨t, D, hn, hD, hf⟩ := hb
  exact ⟨t, D, hn, hD.of_heap e, hf⟩
theorem BytesAt.far {w : World} {g n : Nat} {f : Nat → Nat} (hb : BytesAt w g n f) {p : Addr} (hp : g ≠ p.block) (u : Value) : BytesAt (w.setCell p u) g n f := hb.heap (Below.heap_setCell w p u g hp)
theorem BytesAt.only {w w' : World} {g k n : Nat} {f : Nat → Nat} (hb : BytesAt w k n f) (h : OnlyB g w w') (hne : k ≠ g) : BytesAt w' k n f := hb.heap (h.block k hb.lt (by simpa using hne))
theorem BytesAt.mono {w : World} {g n m : Nat} {f : Nat → Nat} (hb : BytesAt w g n f) (h : m ≤ n) : BytesAt w g m f := by
  obtain ⟨t, D, hn, hD, hf⟩ := hb
  exact ⟨t, D, by omega, hD, fun j hj => hf j (by omega)⟩
theorem Blk.bytes {w : World} {g n : Nat} {t : TypeId} {f : Nat → Nat} (h : Blk w g t (tabA n (u8c f))) : BytesAt w g n f := ⟨t, _, by rw [tabA_size]; exact Nat.le_refl _, h.m, fun j hj => tabA_at n _ j hj⟩
theorem cells_bytes {w : World} {g n : Nat} {f : Nat → Nat} (hb : BytesAt w g n f) (hf : ∀ i, i < n → f i < 256) : ∀ j, j < n → w.cell? ⟨g, 0 + j, none⟩ = some (.int .u8 (bt (strN n f) j)) := by
  intro j hj
  rw [Nat.zero_add, hb.cell j hj, bt_bn, bn_strN n f j hj (hf j hj)]

section
variable {P : Program} {ops : Array Oper} {rest : List Oper} {a : Act} {Q : Exit → Act → World → Prop}
/-- 'append(out, E)', one element that has been laid into a block of its own. -/
theorem wpList_app {o : Oper} (w0 : World) (hgd : o.guard = none) (s x : Operand) (t e : TypeId) (ho : o.op = .call { callee := .builtin .append, args := #[s, x], argTypes := #[t, t] })
    (ht : P.underlying t = some (.slice e)) (z : Value) (us : List Value) (size bytes : Nat) (hi : (P.info? e).map (fun i => (i.zero, i.size, i.bytes)) = some (some z, size, bytes)) (hl : us.length = size) (hzc : z.cells.size = size) (hpos : 0 < size) (hby : bytes ≤ 1024)
    (base : Nat) (v : Value) (n : Nat) (xs : List Value) (hs : a.eval s = v) (hown : w0.ownsRow base e size v n xs) (hu : ∀ u ∈ us, u.oneCell' = true)
    (H : Nat) (hx : a.eval x = .slice (some ⟨H, 0, none⟩) 1 1) (hH : w0.heap.size = H) (hn : n ≤ 1048576) (hbase : base ≤ w0.heap.size)
    (h : ∀ g cap w', w'.ownsRow base e size (.slice (some ⟨g, 0, none⟩) (n + 1) cap) (n + 1) (xs ++ us) → Gro base w0 w' → (w0.alloc (.cells us.toArray e)).grownBy w' v.ownBlock → wpList P ops Q rest (a.put o.dst (.slice (some ⟨g, 0, none⟩) (n + 1) cap)) w') :
    wpList P ops Q (o :: rest) a (w0.alloc (.cells us.toArray e)) := by
  subst hH
  obtain ⟨i0, hi0, hz0, hz1, hz2⟩ := info_parts hi
  refine wpList_append_lies _ hgd s x t ho base e i0 z size bytes ht hi0 hz0 hz1 hz2 hzc hpos v n xs hs (hown.alloc _) ⟨w0.heap.size, 0, none⟩ 1 1 us hx (by omega) ?_ hu (by omega) (by unfold maxLen; omega) ?_ (by simp; omega) _ rfl ?_
  · exact World.news_of_block (heap_alloc_new w0 _)
  · have h1 := Nat.mul_le_mul (show n + 1 ≤ 1048577 by omega) hby
    omega
  · intro g cap w' ho' hg' _ _
    exact h g cap w' ho' (Gro.of ((Ext.refl _).alloc _) hg' hown.blockGe) hg'
/-- 'append(out, xs...)', xs a slice of one-cell elements, at least one. -/
theorem wpList_apps {o : Oper} (w : World) (hgd : o.guard = none) (s x : Operand) (t e : TypeId) (ho : o.op = .call { callee := .builtin .append, args := #[s, x], argTypes := #[t, t] })
    (ht : P.underlying t = some (.slice e)) (z : Value) (bytes : Nat) (hi : (P.info? e).map (fun i => (i.zero, i.size, i.bytes)) = some (some z, 1, bytes)) (hzc : z.cells.size = 1) (hby : bytes ≤ 1024)
    (base : Nat) (v : Value) (n : Nat) (xs : List Value) (hs : a.eval s = v) (hown : w.ownsRow base e 1 v n xs)
    (A : Option Addr) (m c : Nat) (us : List Value) (hx : a.eval x = .slice A m c) (hr : Rd w A m us) (hu : ∀ u ∈ us, u.oneCell' = true) (hm : 0 < m) (hn : n + m ≤ 1048576) (hbase : base ≤ w.heap.size)
    (h : ∀ g cap w', w'.ownsRow base e 1 (.slice (some ⟨g, 0, none⟩) (n + m) cap) (n + m) (xs ++ us) → Gro base w w' → w.grownBy w' v.ownBlock → wpList P ops Q rest (a.put o.dst (.slice (some ⟨g, 0, none⟩) (n + m) cap)) w') :
    wpList P ops Q (o :: rest) a w := by
  obtain ⟨i0, hi0, hz0, hz1, hz2⟩ := info_parts hi
  obtain ⟨g, off, rfl, hc⟩ := hr.2 hm
  refine wpList_append_lies _ hgd s x t ho base e i0 z 1 bytes ht hi0 hz0 hz1 hz2 hzc (by omega) v n xs hs hown ⟨g, off, none⟩ m c us hx (by have := hr.1; omega) ?_ hu hm (by unfold maxLen; omega) ?_ hbase _ rfl ?_
  · intro j u hj
    rw [Addr.add_mid]; exact hc j u hj
  · have h1 := Nat.mul_le_mul hn hby
    omega
  · intro g cap w' ho' hg' _ _
    exact h g cap w' ho' (Gro.of (Ext.refl _) hg' hown.blockGe) hg'
/-- 'append([]T(nil), make([]T, n)...)': what slices.Grow does to nil. -/
theorem wpList_grow_nil {o : Oper} (w : World) (hgd : o.guard = none) (s x : Operand) (t tn e : TypeId) (ho : o.op = .call { callee := .builtin .append, args := #[s, x], argTypes := #[t, tn] })
    (ht : P.underlying t = some (.slice e)) (k kn : IntKind) (htn : P.underlying tn = some (.int kn)) (z : Value) (size bytes : Nat) (hi : (P.info? e).map (fun i => (i.zero, i.size, i.bytes)) = some (some z, size, bytes)) (hzc : z.cells.size = size) (hpos : 0 < size) (hby : bytes ≤ 1024)
    (n : Nat) (hs : a.eval s = .slice none 0 0) (hx : a.eval x = .int k n) (h0 : 0 < n) (hn : n ≤ 1048576)
    (h : ∀ C w', n ≤ C → w'.ownsRow w.heap.size e size (.slice (some ⟨w.heap.size, 0, none⟩) 0 C) 0 [] → Ext w w' → wpList P ops Q rest (a.put o.dst (.slice (some ⟨w.heap.size, 0, none⟩) n C)) w') :
    wpList P ops Q (o :: rest) a w := by
  obtain ⟨i0, hi0, hz0, hz1, hz2⟩ := info_parts hi
  refine wpList_plain hgd fun _ hK => ?_
  have hb : n * i0.bytes ≤ 281474976710656 := by
    have h1 := Nat.mul_le_mul hn (show i0.bytes ≤ 1024 by omega)
    omega
  have hrun := Lib.run_append_nil_zeros (P := P) w t tn o.type e i0 z k kn ht htn hi0 hz0 n h0 (by omega) (by omega) hb
  have hlow := grownCap_ge w n 0 e
  have hup := grownCap_le_maxLen w n 0 e (by unfold maxLen; omega)
  generalize grownCap w n 0 e = C at *
  unfold Oper.wp execOp
  simp only [ho, resolve, invoke, builtin, Sem.run_bind, Sem.run_pure, Result.andThen_ok, List.map_toArray, List.map_cons, List.map_nil, hs, hx, hrun]
  refine hK _ _ (h C _ hlow ⟨by simp, .inr ⟨w.heap.size, C, _, rfl, Nat.le_refl _, heap_alloc_new w.drew _, Nat.zero_le _, hup, ?_, by simp⟩⟩ ?_)
  · rw [Array.size_append, size_zeroCells, size_zeroCells, hzc, ← Nat.add_mul]; congr 1; omega
  · exact ((Ext.refl w).drew).alloc _
/-- The same at a step of a region that draws its order. -/
theorem step_app {o : Oper} {K : Act → World → Prop} {E : Prop} (w0 : World) (hgd : o.guard = none) (s x : Operand) (t e : TypeId) (ho : o.op = .call { callee := .builtin .append, args := #[s, x], argTypes := #[t, t] })
    (ht : P.underlying t = some (.slice e)) (z : Value) (us : List Value) (size bytes : Nat) (hi : (P.info? e).map (fun i => (i.zero, i.size, i.bytes)) = some (some z, size, bytes)) (hl : us.length = size) (hzc : z.cells.size = size) (hpos : 0 < size) (hby : bytes ≤ 1024)
    (base : Nat) (v : Value) (n : Nat) (xs : List Value) (hs : a.eval s = v) (hown : w0.ownsRow base e size v n xs) (hu : ∀ u ∈ us, u.oneCell' = true)
    (H : Nat) (hx : a.eval x = .slice (some ⟨H, 0, none⟩) 1 1) (hH : w0.heap.size = H) (hn : n ≤ 1048576) (hbase : base ≤ w0.heap.size)
    (h : ∀ g cap w', w'.ownsRow base e size (.slice (some ⟨g, 0, none⟩) (n + 1) cap) (n + 1) (xs ++ us) → Gro base w0 w' → (w0.alloc (.cells us.toArray e)).grownBy w' v.ownBlock → K (a.put o.dst (.slice (some ⟨g, 0, none⟩) (n + 1) cap)) w') :
    if Region.wanted o (yielded ops a.tmps) = true then Oper.wp P o a (w0.alloc (.cells us.toArray e)) K Q else E := by
  subst hH
  obtain ⟨i0, hi0, hz0, hz1, hz2⟩ := info_parts hi
  refine step_append_lies _ hgd s x t ho base e i0 z size bytes ht hi0 hz0 hz1 hz2 hzc hpos v n xs hs (hown.alloc _) ⟨w0.heap.size, 0, none⟩ 1 1 us hx (by omega) ?_ hu (by omega) (by unfold maxLen; omega) ?_ (by simp; omega) _ rfl ?_
  · exact World.news_of_block (heap_alloc_new w0 _)
  · have h1 := Nat.mul_le_mul (show n + 1 ≤ 1048577 by omega) hby
    omega
  · intro g cap w' ho' hg' _ _
    exact h g cap w' ho' (Gro.of ((Ext.refl _).alloc _) hg' hown.blockGe) hg'
end
end Go
